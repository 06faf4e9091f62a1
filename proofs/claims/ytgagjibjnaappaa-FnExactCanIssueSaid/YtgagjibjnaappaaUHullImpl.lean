/- Proved: the hull of keys, as the program makes it. -/
import Derived.Test.YtgagjibjnaappaaChecked
import Derived.Deep.RegionLaw
import Derived.Test.YtgagjibjnaappaaUHullSpec
import Derived.Test.YtgagjibjnaappaaUCompactInts
namespace Go.Proofs.Ytgagjibjnaappaa
open Go.ChangeShapes Go.WideShapes Go.ChangeAt Go.RowKit
set_option linter.unusedVariables false

/-- the cuts of the first keys in chamber i -/
def colAt (keys : List (List Int)) (i n : Nat) : List Int := (keys.take n).map fun r => r.getD i 0
theorem colAt_succ {keys : List (List Int)} (i : Nat) {n : Nat} (h : n < keys.length) : colAt keys i (n+1) = colAt keys i n ++ [(keys.getD n []).getD i 0] := by
  unfold colAt
  rw [List.take_add_one, List.getElem?_eq_getElem h, List.map_append]
  simp [h]
theorem colAt_len (keys : List (List Int)) (i n : Nat) : (colAt keys i n).length ≤ n := by unfold colAt; rw [List.length_map, List.length_take]; omega
theorem colAt_all (keys : List (List Int)) (i : Nat) {n : Nat} (h : n = keys.length) : colAt keys i n = keys.map fun r => r.getD i 0 := by
  unfold colAt; rw [h, List.take_length]
theorem setAt_sort {keys : List (List Int)} {i D : Nat} (h : ∀ r ∈ keys, 0 ≤ r.getD i 0 ∧ r.getD i 0 < D) : Lib.compact ((keys.map fun r => r.getD i 0).mergeSort fun x y => decide (x ≤ y)) = setAt keys i D := by
  obtain ⟨h1, h2⟩ := compact_sort (keys.map fun r => r.getD i 0)
  refine rise_eq h1 (setAt_sorted keys i D) (fun x => ?_)
  rw [h2, setAt_mem, List.mem_map]
  constructor
  · rintro ⟨r, hr, rfl⟩; exact ⟨h r hr, r, hr, rfl⟩
  · rintro ⟨-, r, hr, e⟩; exact ⟨r, hr, e⟩

set_option maxRecDepth 20000 in
set_option maxHeartbeats 2000000 in
theorem hullOf_c (w : World) (mk : MK) (hc6 : 2 ≤ mk.c ∧ mk.c ≤ 6) (hd8 : 2 ≤ mk.d ∧ mk.d ≤ 8) (v : Value) (z : Zone) (keys : List (List Int)) (h : RowsR z w v keys) (hk : ∀ r ∈ keys, KeyOk mk r) (hkl : keys.length ≤ 1000000) :
    Calls Try.prog 93 #[mk.v, v] w (Ret w (LockP (hull mk keys) w)) := by
  obtain ⟨C, hC⟩ : ∃ C : Nat, mk.c = C := ⟨mk.c.toNat, by omega⟩
  obtain ⟨D, hD⟩ : ∃ D : Nat, mk.d = D := ⟨mk.d.toNat, by omega⟩
  have HH : Hid (hull mk keys = hullTo mk keys C) := by show _ = _; unfold hull; rw [hC]; rfl
  have HS : Hid (∀ i, hullTo mk keys (i+1) = hullTo mk keys i ++ [setAt keys i D]) := fun i => by have := hullTo_succ mk keys i; rw [hD] at this; exact this
  have HL := Lib.hid (hullTo_len mk keys)
  have H0 : Hid (hullTo mk keys 0 = []) := rfl
  have HQ : Hid (∀ i, i < C → Lib.compact ((keys.map fun r => r.getD i 0).mergeSort fun x y => decide (x ≤ y)) = setAt keys i D) := fun i hi => setAt_sort (fun r hr => by
    have h1 := (hk r hr).len
    have := (hk r hr).cut i (by omega)
    omega)
  generalize hull mk keys = res at *
  generalize hullTo mk keys = hT at *
  obtain ⟨a, n, cap, rfl, hn, hmax, -⟩ := SliceR.shape h
  have HT := Lib.hid (fun (k : Nat) (hk : k < n) => rows_at h hk)
  have HR : Hid (∀ k, k < n → (keys.getD k []).length = C) := fun k hkn => by
    have hk' : k < keys.length := by omega
    have := (hk _ (List.getElem_mem hk')).len
    have e : keys.getD k [] = keys[k] := by simp [hk']
    rw [e]; omega
  rw [← hn] at hkl
  have Hn := Lib.hid hn
  clear hn h hk
  unfold MK.v
  rw [hC, hD]
  rw [hC] at hc6
  rw [hD] at hd8
  generalize mk.s = ms
  generalize mk.m = mm
  generalize mk.l = ml
  clear hC hD
  go_enter Try.func93, Try.ntmps93
  go_wp2_with fail
  generalize hw1 : World.alloc _ _ = w1
  have e1 : Ext w w1 := by rw [← hw1]; exact (((Ext.alloc _ _).trans (Ext.alloc _ _)).trans (Ext.alloc _ _))
  have c0 : w1.cell? ⟨w.heap.size, 0, none⟩ = some (.int .i64 C) := by rw [← hw1]; clear hw1; go_simp
  have r0 : w1.cell? ⟨w.heap.size + 1, 0, none⟩ = some (.slice none 0 0) := by rw [← hw1]; clear hw1; go_simp
  have f0 : w1.frozen? ⟨w.heap.size + 1, 0, none⟩ = false := by rw [← hw1]; clear hw1; go_simp
  have l0 : w1.cell? ⟨w.heap.size + 1 + 1, 0, none⟩ = some (.slice none 0 0) := by rw [← hw1]; clear hw1; go_simp
  have g0 : w1.frozen? ⟨w.heap.size + 1 + 1, 0, none⟩ = false := by rw [← hw1]; clear hw1; go_simp
  have HI : Hid (w1.heap.size = w.heap.size + 3) := by show _ = _; rw [← hw1]; simp
  clear hw1
  go_loopw [6, 7, 9, 13] (fun _ _ _ s13 wr => ∃ (i : Nat) (lv : Value), i ≤ C ∧ s13 = .int .i64 i ∧ wr.cell? ⟨w.heap.size + 1 + 1, 0, none⟩ = some lv ∧ OwnR true (w.heap.size+3) IntsR 27 (w.heap.size+3) wr lv (hT i) ∧ Below (w.heap.size+2) w1 wr ∧ wr.frozen? ⟨w.heap.size + 1 + 1, 0, none⟩ = false ∧ w.heap.size + 3 ≤ wr.heap.size) (fun _ _ _ s13 _ => C - (intOf s13).toNat)
  case atStart => exact ⟨0, .slice none 0 0, Nat.zero_le _, rfl, l0, by rw [H0.out]; exact OwnR.none, Below.refl _ _, g0, by rw [HI.out]; exact Nat.le_refl _⟩
  case round =>
    obtain ⟨i, lv, hi, rfl, l1, own, hb, g1, hsz⟩ := hrel
    have eW : Ext w wr := Below.trans e1 (hb.mono (by omega))
    have c0' := (hb.cell (p := ⟨w.heap.size, 0, none⟩) (by simp)).trans c0
    have r0' := (hb.cell (p := ⟨w.heap.size + 1, 0, none⟩) (by show w.heap.size + 1 < w.heap.size + 2; omega)).trans r0
    have f0' := (hb.frozen (p := ⟨w.heap.size + 1, 0, none⟩) (by show w.heap.size + 1 < w.heap.size + 2; omega)).trans f0
    by_cases hlt : i < C
    · have hlen := HL.out i
      have Hown := Lib.hid own
      have Hbk := Lib.hid own.block
      have HSi := Lib.hid (HS.out i)
      have Hb := Lib.hid hb
      have HQi := Lib.hid (HQ.out i hlt)
      obtain ⟨al, nl, cl, rfl, -⟩ := own.shape
      generalize hst : hT i = st at *
      clear own hst hb
      go_wp2_with fail
      generalize hw2 : World.alloc _ _ = w2
      obtain ⟨e2, o2⟩ : Ext wr w2 ∧ OwnP (Value.int .i64) 2 wr.heap.size w2 (.slice (some ⟨wr.heap.size, 0, none⟩) 0 0) [] := by
        subst hw2
        exact ⟨Ext.alloc _ _, OwnP.empty (Nat.le_refl _)⟩
      clear hw2
      obtain ⟨wo, rfl⟩ : ∃ wo, wo = wr := ⟨_, rfl⟩
      have HSz : Hid (wo.heap.size < w2.heap.size) := (o2.block _ rfl).2
      go_loopw [7, 9, 19] (fun s7 _ s19 wr => ∃ k : Nat, k ≤ n ∧ s19 = .int .i64 k ∧ OwnP (Value.int .i64) 2 wo.heap.size wr s7 (colAt keys i k) ∧ Below wo.heap.size wo wr ∧ wo.heap.size < wr.heap.size) (fun _ _ s19 _ => n - (intOf s19).toNat)
      case atStart => exact ⟨0, Nat.zero_le _, rfl, o2, e2, HSz.out⟩
      case round =>
        obtain ⟨k, hk, rfl, own2, hb2, hs2⟩ := hrel
        have eWo : Ext w wr := eW.trans hb2
        have c0 := Ext.cell hb2 c0'
        have l2 := Ext.cell hb2 l1
        by_cases hltk : k < n
        · obtain ⟨b, off, rfl, a1, n1, k1, hn1, hm1, -, hc, -, hel⟩ := HT.out k hltk
          have hin : i < n1 := by rw [hn1, HR.out k hltk]; exact hlt
          obtain ⟨b1, o1', rfl, hx, hc1⟩ := hel i hin
          replace hc := hc _ eWo
          replace hc1 := hc1 _ eWo
          have HU := Lib.hid (colAt_succ (keys := keys) i (n := k) (by rw [← Hn.out]; exact hltk))
          have hle := colAt_len keys i k
          generalize (keys.getD k []).getD i 0 = x at *
          generalize hco : colAt keys i k = co at *
          clear hel hn1 hco
          go_wp2_with (at_builtin; (refine wpList_append1 (f := Value.int .i64) (e := 2) (B := wo.heap.size) (xs := co) rfl _ _ 27 rfl 0 8 Try.underlying27 Try.infoI64 rfl (fun _ => rfl) rfl own2 x rfl (by omega) (by omega) (by omega) ?_); intro v6 w6 hown6 hg6 hb6)
          go_roundw
          case rel => exact ⟨k + 1, by omega, by go_num, by rw [HU.out]; exact hown6, hb2.trans hb6, by have := hb6.size; omega⟩
          case measure => simp [intOf]; omega
        · have hkn : k = n := by omega
          have hco : colAt keys i k = keys.map fun r => r.getD i 0 := colAt_all keys i (by rw [hkn]; exact Hn.out)
          have hle := colAt_len keys i k
          rw [hco] at own2 hle
          clear hco
          generalize (keys.map fun r => r.getD i 0) = col at *
          have hS := SortInts_c wr _ wo.heap.size (by omega) col own2 (by omega)
          have Hn3 : Hid (∀ wq us, OwnP (Value.int .i64) 2 wo.heap.size wq us (col.mergeSort fun x y => decide (x ≤ y)) → wo.heap.size ≤ wq.heap.size → Calls Try.prog 129 #[us] wq (fun e w' => ∃ v', e = .returned v' ∧ OwnP (Value.int .i64) 2 wo.heap.size w' v' (setAt keys i D) ∧ Below wo.heap.size wq w')) := fun wq us ho hsz => by
            have := CompactInts_c wq us wo.heap.size hsz _ ho
            rw [HQi.out] at this
            exact this
          clear HQi
          generalize (col.mergeSort fun x y => decide (x ≤ y)) = srt at *
          obtain ⟨a7, n7, k7, rfl, -⟩ := own2.shape
          clear own2
          go_wp2_with fail
          refine Calls.mono hS ?_
          rintro e w3 ⟨rfl, o3, b3⟩
          clear hS
          have l3 := (b3.cell (p := ⟨w.heap.size + 1 + 1, 0, none⟩) (by show w.heap.size + 2 < wo.heap.size; omega)).trans l2
          have hb3 : Below wo.heap.size wo w3 := hb2.trans b3
          have hs3 := b3.size
          have HCp : Hid (∀ wq, Drew w3 wq → Calls Try.prog 129 #[.slice a7 n7 k7] wq (fun e w' => ∃ v', e = .returned v' ∧ OwnP (Value.int .i64) 2 wo.heap.size w' v' (setAt keys i D) ∧ Below wo.heap.size wo w')) := fun wq hd => by
            refine (Hn3.out wq _ (o3.ext (Ext.ofDrew hd)) (by rw [hd.size]; omega)).mono ?_
            rintro e w' ⟨v', q1, q2, q3⟩
            exact ⟨v', q1, q2, (hb3.trans (hd.below _)).trans q3⟩
          have HsM : Hid (∀ x ∈ setAt keys i D, I64 x) := fun x hx => by have := (setAt_mem.1 hx).1; unfold I64; omega
          have Hlen : Hid (st.length + 1 ≤ 1099511627776) := by show _ ≤ _; omega
          have HL3 : Hid (w.heap.size + 3 ≤ wo.heap.size) := hsz
          clear Hn3 o3
          generalize setAt keys i D = sa at *
          go_wp2_with fail
          go_region_law (first | (go_simp; go_at_call 129; refine (HCp.out _ (by exact (Drew.refl _).drew)).mono ?_; rintro e w7 ⟨u7, rfl, o7, b7⟩; obtain ⟨a7, n7, k7, rfl, -⟩ := o7.shape; have i7 := OwnP.ints o7 HsM.out (Nat.le_refl _); have l7 := (Below.cell (p := ⟨w.heap.size + 1 + 1, 0, none⟩) b7 (by show w.heap.size + 2 < wo.heap.size; have := HL3.out; omega)).trans l1; have z7 : w.heap.size + 1 + 1 < w7.heap.size := (by have q1 := b7.size; have q2 := HL3.out; omega)) | (refine step_append_of (by rfl) _ _ 24 (by rfl) (by rfl) (by rfl) (fun ty => run_appendRow (b := true) (L := w.heap.size + 3) (B := w.heap.size + 3) (e := 27) stable_ints slRepr_slice 24 ty Try.underlying24 Try.infoInts Hown.out b7 (u := (a7, n7, k7)) (y := sa) i7 rfl Hlen.out HL3.out HL3.out) ?_; intro v8 w8 h8; obtain ⟨a8, n8, k8, rfl, -⟩ := OwnA.shape h8.1; have c8 := (Below.cell (p := ⟨w.heap.size + 1 + 1, 0, none⟩) h8.2.1 (by show w.heap.size + 2 < w.heap.size + 3; omega)).trans l1; have f8 := (Below.frozen (p := ⟨w.heap.size + 1 + 1, 0, none⟩) h8.2.1 (by show w.heap.size + 2 < w.heap.size + 3; omega)).trans g1))
          all_goals
            have hn8 : (Value.slice a8 n8 k8).ownBlock ≠ some (w.heap.size + 1 + 1) := fun e => by have := (h8.1.block _ e).1; omega
            have own9 := OwnA.outside (w' := w8.setCell ⟨w.heap.size + 1 + 1, 0, none⟩ (.slice a8 n8 k8)) stable_ints h8.1 (g := w.heap.size + 1 + 1) (fun k _ hk => Below.heap_setCell _ _ _ _ hk) (by simp [World.setCell]) (by omega) hn8
            have c9 : (w8.setCell ⟨w.heap.size + 1 + 1, 0, none⟩ (.slice a8 n8 k8)).cell? ⟨w.heap.size + 1 + 1, 0, none⟩ = some (.slice a8 n8 k8) := World.cell?_setCell_same _ _ _ c8
            have f9 : (w8.setCell ⟨w.heap.size + 1 + 1, 0, none⟩ (.slice a8 n8 k8)).frozen? ⟨w.heap.size + 1 + 1, 0, none⟩ = false := by rw [World.frozen?_setCell]; exact f8
            have b9 : Below (w.heap.size + 2) w1 (w8.setCell ⟨w.heap.size + 1 + 1, 0, none⟩ (.slice a8 n8 k8)) := (Hb.out.trans (h8.2.1.mono (by omega))).setCell (by simp) _
            have z9 : w.heap.size + 3 ≤ (w8.setCell ⟨w.heap.size + 1 + 1, 0, none⟩ (.slice a8 n8 k8)).heap.size := by have := h8.2.1.size; simp only [World.setCell, Array.size_modify]; omega
            clear h8
            go_wp2_with fail
            go_roundw
            case rel => exact ⟨i + 1, _, by omega, by go_num, c9, by rw [HSi.out]; exact own9, b9, f9, z9⟩
            case measure => simp [intOf]; omega
    · have hiC : i = C := by omega
      obtain ⟨sa, sn, sc, rfl, -⟩ := own.shape
      have HO := Lib.hid own
      clear own
      go_wp2_with fail
      refine bodyPost_ret (v := .agg #[.slice sa sn sc]) (by simp [results, Try.results93, go_sem, r0']) rfl ⟨_, rfl, ⟨_, rfl, ?_⟩, ?_⟩
      · have h2 := HO.out.reads (Nat.le_refl _)
        rw [HH.out, ← hiC]
        have hw : Within ⟨w.heap.size + 1, w.heap.size + 2, true⟩ wr (wr.setCell ⟨w.heap.size + 1, 0, none⟩ (.slice sa sn sc)) := (Within.refl _ wr).setCell (p := ⟨w.heap.size + 1, 0, none⟩) ⟨by simp, by simp⟩ _
        refine stable_rows.sub (stable_rows.within h2 hw (fun k h1 h2 => by have q1 := h1.1; have q2 := h2.2; simp only at q1 q2; omega)) ⟨fun k hk => ⟨by have q1 := hk.1; simp only [Zone.new] at *; omega, by have q2 := hk.2; simp only [Zone.new, World.setCell, Array.size_modify] at *; omega⟩, fun _ => rfl⟩
      · exact eW.setCell (by simp) _
end Go.Proofs.Ytgagjibjnaappaa
