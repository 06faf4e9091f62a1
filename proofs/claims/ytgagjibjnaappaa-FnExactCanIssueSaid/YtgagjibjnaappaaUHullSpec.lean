/- Proved: the hull of keys, as the reference makes it. -/
import Derived.Test.YtgagjibjnaappaaChecked
import Derived.Test.YtgagjibjnaappaaUIsSystem
import Derived.Test.YtgagjibjnaappaaUOwnRows
import Derived.Test.YtgagjibjnaappaaUAreKeys
namespace Go.Proofs.Ytgagjibjnaappaa
open Go.ChangeShapes Go.WideShapes Go.ChangeAt Go.RowKit
set_option linter.unusedVariables false

/-- a lock that the call has made -/
def LockP (l : List (List Int)) (w : World) (r : Value) (w' : World) : Prop := ∃ x, r = .agg #[x] ∧ RowsR (.new w w') w' x l

set_option maxRecDepth 20000 in
set_option maxHeartbeats 2000000 in
theorem l04Hull_c (w : World) (mk : MK) (hc6 : 2 ≤ mk.c ∧ mk.c ≤ 6) (hd8 : 2 ≤ mk.d ∧ mk.d ≤ 8) (v : Value) (z : Zone) (keys : List (List Int)) (h : RowsR z w v keys) (hk : ∀ r ∈ keys, (r.length : Int) = mk.c) :
    Calls Try.prog 127 #[mk.v, v] w (Ret w (LockP (hull mk keys) w)) := by
  obtain ⟨C, hC⟩ : ∃ C : Nat, mk.c = C := ⟨mk.c.toNat, by omega⟩
  obtain ⟨D, hD⟩ : ∃ D : Nat, mk.d = D := ⟨mk.d.toNat, by omega⟩
  have HH : Hid (hull mk keys = hullTo mk keys C) := by show _ = _; unfold hull; rw [hC]; rfl
  have HS : Hid (∀ i, hullTo mk keys (i+1) = hullTo mk keys i ++ [setAt keys i D]) := fun i => by have := hullTo_succ mk keys i; rw [hD] at this; exact this
  have HL := Lib.hid (hullTo_len mk keys)
  have H0 : Hid (hullTo mk keys 0 = []) := rfl
  generalize hull mk keys = res at *
  generalize hullTo mk keys = hT at *
  obtain ⟨a, n, cap, rfl, hn, hmax, -⟩ := SliceR.shape h
  have HT := Lib.hid (fun (k : Nat) (hk : k < n) => rows_at h hk)
  have HR : Hid (∀ k, k < n → (keys.getD k []).length = C) := fun k hkn => by
    have hk' : k < keys.length := by omega
    have := hk _ (List.getElem_mem hk')
    have e : keys.getD k [] = keys[k] := by simp [hk']
    rw [e]; omega
  have Hn := Lib.hid hn
  clear hn h hk
  unfold MK.v
  rw [hC, hD]
  rw [hC] at hc6
  rw [hD] at hd8
  generalize mk.s = ms
  generalize mk.m = mm
  generalize mk.l = ml
  clear hC hD
  go_enter Try.func127, Try.ntmps127
  go_wp2_with fail
  generalize hw1 : World.alloc _ _ = w1
  obtain ⟨e1, c0, c1, r0, f0, o1⟩ : Ext w w1 ∧ w1.cell? ⟨w.heap.size, 0, none⟩ = some (.int .i64 C) ∧ w1.cell? ⟨w.heap.size, 1, none⟩ = some (.int .i64 D) ∧ w1.cell? ⟨w.heap.size + 1, 0, none⟩ = some (.slice none 0 0) ∧ w1.frozen? ⟨w.heap.size + 1, 0, none⟩ = false ∧ OwnR true (w.heap.size+2) IntsR 27 (w.heap.size+2) w1 (.slice (some ⟨w.heap.size + 2, 0, none⟩) 0 0) [] := by
    subst hw1
    refine ⟨((Ext.alloc _ _).trans (Ext.alloc _ _)).trans (Ext.alloc _ _), by go_simp, by go_simp, by go_simp, by go_simp, ?_⟩
    have := OwnR.empty (b := true) (L := w.heap.size + 2) (E := IntsR) (e := 27) (B := w.heap.size + 2) (w := (w.alloc (.cells #[.int .i64 C, .int .i64 D, .int .i64 ms, .int .i64 mm, .int .i64 ml] 32)).alloc (.cells #[.slice none 0 0] 69)) (by simp)
    simpa using this
  have HI : Hid ((w.heap.size + 2 : Nat) < w1.heap.size) := by rw [← hw1]; show _ < _; simp
  clear hw1
  go_loopw [5, 6, 7, 8, 9, 10] (fun s5 s6 _ _ _ _ wr => ∃ i : Nat, i ≤ C ∧ s6 = .int .i64 i ∧ OwnR true (w.heap.size+2) IntsR 27 (w.heap.size+2) wr s5 (hT i) ∧ Below (w.heap.size+2) w1 wr) (fun _ s6 _ _ _ _ _ => C - (intOf s6).toNat)
  case atStart => exact ⟨0, Nat.zero_le _, rfl, by rw [H0.out]; exact o1, Below.refl _ _⟩
  case round =>
    obtain ⟨i, hi, rfl, own, hb⟩ := hrel
    have hsz := hb.size
    have hI := HI.out
    have eW : Ext w wr := Below.trans e1 (hb.mono (by omega))
    have c0' := (hb.cell (p := ⟨w.heap.size, 0, none⟩) (by simp)).trans c0
    have c1' := (hb.cell (p := ⟨w.heap.size, 1, none⟩) (by simp)).trans c1
    by_cases hlt : i < C
    · have hlen := HL.out i
      have Hown := Lib.hid own
      have hbk := own.block
      have HSi := Lib.hid (HS.out i)
      go_wp2_with fail
      generalize hw2 : World.alloc _ _ = w2
      obtain ⟨e2, o2⟩ : Ext wr w2 ∧ OwnP (Value.int .i64) 2 wr.heap.size w2 (.slice (some ⟨wr.heap.size, 0, none⟩) 0 0) [] := by
        subst hw2
        exact ⟨Ext.alloc _ _, OwnP.empty (Nat.le_refl _)⟩
      clear hw2
      obtain ⟨wo, rfl⟩ : ∃ wo, wo = wr := ⟨_, rfl⟩
      have HSz : Hid (wo.heap.size < w2.heap.size) := (o2.block _ rfl).2
      go_loopw [7, 8, 9, 10] (fun s7 s8 _ _ wr => ∃ d : Nat, d ≤ D ∧ s8 = .int .i64 d ∧ OwnP (Value.int .i64) 2 wo.heap.size wr s7 (setAt keys i d) ∧ Below wo.heap.size wo wr ∧ wo.heap.size < wr.heap.size) (fun _ s8 _ _ _ => D - (intOf s8).toNat)
      case atStart => exact ⟨0, Nat.zero_le _, rfl, o2, e2, HSz.out⟩
      case round =>
        obtain ⟨d, hd, rfl, own2, hb2, hs2⟩ := hrel
        have eWo : Ext w wr := eW.trans hb2
        have c0 := Ext.cell hb2 c0'
        have c1 := Ext.cell hb2 c1'
        by_cases hltd : d < D
        · go_wp2_with fail
          obtain ⟨wd, rfl⟩ : ∃ wd, wd = wr := ⟨_, rfl⟩
          go_loopw [9, 10] (fun s9 s10 wr => ∃ k : Nat, k ≤ n ∧ s10 = .int .i64 k ∧ s9 = .bool ((keys.take k).any fun r => r.getD i 0 == (d : Int)) ∧ Drew wd wr) (fun _ s10 _ => n - (intOf s10).toNat)
          case atStart => exact ⟨0, Nat.zero_le _, rfl, rfl, Drew.refl _⟩
          case round =>
            obtain ⟨k, hk, rfl, rfl, hdk⟩ := hrel
            by_cases hltk : k < n
            · obtain ⟨b, off, rfl, a1, n1, k1, hn1, hm1, -, hc, -, hel⟩ := HT.out k hltk
              have hin : i < n1 := by rw [hn1, HR.out k hltk]; exact hlt
              obtain ⟨b1, o1', rfl, hx, hc1⟩ := hel i hin
              replace hc := hc _ (eWo.trans (Ext.ofDrew hdk))
              replace hc1 := hc1 _ (eWo.trans (Ext.ofDrew hdk))
              have HA := Lib.hid (anyTake_succ keys (fun r => r.getD i 0 == (d : Int)) [] (i := k) (by rw [← Hn.out]; exact hltk))
              generalize (keys.take k).any (fun r => r.getD i 0 == (d : Int)) = q at *
              clear hel hn1
              generalize (keys.getD k []).getD i 0 = x at *
              cases q with
              | true =>
                go_wp2_with fail
                go_roundw
                case rel => exact ⟨k+1, by omega, by go_num, by rw [HA.out]; rfl, hdk⟩
                case measure => simp [intOf]; omega
              | false =>
                cases hxb : x == (d : Int) with
                | true =>
                  have HX : Hid (((keys.take (k+1)).any fun r => r.getD i 0 == (d : Int)) = true) := by show _ = _; rw [HA.out, hxb]; rfl
                  clear HA
                  go_wp2_with fail
                  go_roundw
                  case rel => exact ⟨k+1, by omega, by go_num, by rw [HX.out], hdk⟩
                  case measure => simp [intOf]; omega
                | false =>
                  have HX : Hid (((keys.take (k+1)).any fun r => r.getD i 0 == (d : Int)) = false) := by show _ = _; rw [HA.out, hxb]; rfl
                  clear HA
                  go_wp2_with fail
                  go_roundw
                  case rel => exact ⟨k+1, by omega, by go_num, by rw [HX.out], hdk⟩
                  case measure => simp [intOf]; omega
            · have HQ : Hid (((keys.take k).any fun r => r.getD i 0 == (d : Int)) = keys.any fun r => r.getD i 0 == (d : Int)) := by
                show _ = _
                have : keys.take k = keys := List.take_of_length_le (by have := Hn.out; omega)
                rw [this]
              have HU := Lib.hid (setAt_succ keys i d)
              have hle := setAt_len keys i d
              have hdr : wd.heap.size ≤ wr.heap.size := by have := hdk.size; omega
              have own3 := own2.ext (Ext.ofDrew hdk)
              generalize hst : setAt keys i d = st at *
              clear hst own2
              generalize (keys.take k).any (fun r => r.getD i 0 == (d : Int)) = q at *
              cases q with
              | true =>
                have HV : Hid (setAt keys i (d+1) = st ++ [(d : Int)]) := by show _ = _; rw [HU.out, if_pos HQ.out.symm]
                clear HU HQ
                go_wp2_with (at_builtin; (refine wpList_append1 (f := Value.int .i64) (e := 2) (B := wo.heap.size) (xs := st) rfl _ _ 27 rfl 0 8 Try.underlying27 Try.infoI64 rfl (fun _ => rfl) rfl own3 (d : Int) rfl (by omega) (by omega) (by omega) ?_); intro v6 w6 hown6 hg6 hb6)
                go_roundw
                case rel => exact ⟨d + 1, by omega, by go_num, by rw [HV.out]; exact hown6, (hb2.trans (hdk.below _)).trans hb6, by have := hb6.size; omega⟩
                case measure => simp [intOf]; omega
              | false =>
                have HV : Hid (setAt keys i (d+1) = st) := by show _ = _; rw [HU.out, if_neg (by rw [← HQ.out]; decide), List.append_nil]
                clear HU HQ
                go_wp2_with fail
                go_roundw
                case rel => exact ⟨d + 1, by omega, by go_num, by rw [HV.out]; exact own3, hb2.trans (hdk.below _), by omega⟩
                case measure => simp [intOf]; omega
        · have hdD : d = D := by omega
          subst hdD
          have hset := OwnP.ints (lo := wo.heap.size) own2 (fun x hx => by have := (setAt_mem.1 hx).1; unfold I64; omega) (Nat.le_refl _)
          obtain ⟨a7, n7, k7, rfl, -⟩ := own2.shape
          generalize setAt keys i d = st at *
          generalize hst : hT i = hs at *
          clear hst
          go_wp2_with (at_builtin; (refine wpList_appendRow (E := IntsR) (L := w.heap.size + 2) (B := w.heap.size + 2) (xs := hs) stable_ints slRepr_slice rfl _ _ 24 rfl Try.underlying24 Try.infoInts rfl Hown.out hb2 (a7, n7, k7) st hset rfl (by omega) (by omega) (by omega) ?_); intro v6 w6 hown6 hb6 hs6 hg6 hat6)
          go_roundw
          case rel => exact ⟨i + 1, by omega, by go_num, by rw [HSi.out]; exact hown6, hb.trans hb6⟩
          case measure => simp [intOf]; omega
    · have hiC : i = C := by omega
      obtain ⟨sa, sn, sc, rfl, -⟩ := own.shape
      have r0' := (hb.cell (p := ⟨w.heap.size + 1, 0, none⟩) (by show w.heap.size + 1 < w.heap.size + 2; omega)).trans r0
      have f0' := (hb.frozen (p := ⟨w.heap.size + 1, 0, none⟩) (by show w.heap.size + 1 < w.heap.size + 2; omega)).trans f0
      have HO := Lib.hid own
      clear own
      go_wp2_with fail
      refine bodyPost_ret (v := .agg #[.slice sa sn sc]) (by simp [results, Try.results127, go_sem, r0']) rfl ⟨_, rfl, ⟨_, rfl, ?_⟩, ?_⟩
      · have h2 := HO.out.reads (Nat.le_refl _)
        rw [HH.out, ← hiC]
        have hw : Within ⟨w.heap.size + 1, w.heap.size + 2, true⟩ wr (wr.setCell ⟨w.heap.size + 1, 0, none⟩ (.slice sa sn sc)) := (Within.refl _ wr).setCell (p := ⟨w.heap.size + 1, 0, none⟩) ⟨by simp, by simp⟩ _
        refine stable_rows.sub (stable_rows.within h2 hw (fun k h1 h2 => by have q1 := h1.1; have q2 := h2.2; simp only at q1 q2; omega)) ⟨fun k hk => ⟨by have q1 := hk.1; simp only [Zone.new] at *; omega, by have q2 := hk.2; simp only [Zone.new, World.setCell, Array.size_modify] at *; omega⟩, fun _ => rfl⟩
      · exact eW.setCell (by simp) _
end Go.Proofs.Ytgagjibjnaappaa
