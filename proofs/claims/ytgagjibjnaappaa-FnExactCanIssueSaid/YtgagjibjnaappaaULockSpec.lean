/- Proved: the locks of a system, as the reference makes them. -/
import Derived.Test.YtgagjibjnaappaaChecked
import Derived.Test.YtgagjibjnaappaaUHullSpec
import Derived.Test.YtgagjibjnaappaaUAlias
namespace Go.Proofs.Ytgagjibjnaappaa
open Go.ChangeShapes Go.WideShapes Go.ChangeAt Go.RowKit
set_option linter.unusedVariables false

set_option maxRecDepth 20000 in
set_option maxHeartbeats 2000000 in
theorem l15Lock_c (w : World) (mk : MK) (hc6 : 2 ≤ mk.c ∧ mk.c ≤ 6) (hd8 : 2 ≤ mk.d ∧ mk.d ≤ 8) (v : Value) (z : Zone) (t : List (List Int)) (h : RowsR z w v t) (u : Value) (y : Zone) (cuts : List (List Int)) (hc : RowsR y w u cuts) (hlen : cuts.length ≤ t.length) (hl10 : t.length ≤ 10) (hk : ∀ r ∈ cuts, (r.length : Int) = mk.c) (d : Nat) (hd : ∀ k, k < t.length → d < (t.getD k []).length) :
    Calls Try.prog 90 #[sysV mk v, u, .int .i64 d] w (Ret w (LockP (hull mk (keysAt t cuts d cuts.length)) w)) := by
  have HK : Hid (∀ w', Ext w w' → ∀ x, RowsR ⟨0, w'.heap.size, false⟩ w' x (keysAt t cuts d cuts.length) → Calls Try.prog 127 #[mk.v, x] w' (Ret w' (LockP (hull mk (keysAt t cuts d cuts.length)) w'))) := fun w' e x hx => l04Hull_c w' mk hc6 hd8 x _ _ hx (fun r hr => hk r (keysAt_mem (Nat.le_refl _) hr))
  have HS := Lib.hid (fun n => keysAt_succ t cuts d n)
  have HL := Lib.hid (fun n => keysAt_len t cuts d n)
  have H0 : Hid (keysAt t cuts d 0 = []) := rfl
  generalize hull mk (keysAt t cuts d cuts.length) = res at *
  generalize keysAt t cuts d = kT at *
  obtain ⟨a, n, cap, rfl, hn, hmax, -⟩ := SliceR.shape h
  obtain ⟨a2, n2, cap2, rfl, hn2, hmax2, -⟩ := SliceR.shape hc
  have HT := Lib.hid (fun (k : Nat) (hk : k < n) => rows_at h hk)
  have HC := Lib.hid (fun (k : Nat) (hk : k < n2) => rows_at hc hk)
  have Hd : Hid (∀ k, k < n → d < (t.getD k []).length) := fun k hk => hd k (by omega)
  rw [← hn, ← hn2] at hlen
  rw [← hn] at hl10
  have Hn2 := Lib.hid hn2
  clear hn hn2 h hc hd hk hc6 hd8
  unfold sysV MK.v at *
  go_enter Try.func90, Try.ntmps90
  go_wp2_with fail
  generalize hw1 : World.alloc _ _ = w1
  obtain ⟨e1, S0, r0, f0, o1⟩ : Ext w w1 ∧ SysAt w1 w.heap.size mk (.slice a n cap) ∧ w1.cell? ⟨w.heap.size + 1, 0, none⟩ = some (.slice none 0 0) ∧ w1.frozen? ⟨w.heap.size + 1, 0, none⟩ = false ∧ AliasR 27 (w.heap.size+2) w1 (.slice (some ⟨w.heap.size + 2, 0, none⟩) 0 0) [] := by
    subst hw1
    obtain ⟨f1, f2⟩ := sys_box (w := w) (mk := mk) (u := .slice a n cap) (t := 34) rfl
    refine ⟨(f1.trans (Ext.alloc _ _)).trans (Ext.alloc _ _), (f2.ext (Ext.alloc _ _)).ext (Ext.alloc _ _), by go_simp, by go_simp, ?_⟩
    have := AliasR.empty (e := 27) (B := w.heap.size + 2) (w := (w.alloc (.cells #[.int .i64 mk.c, .int .i64 mk.d, .int .i64 mk.s, .int .i64 mk.m, .int .i64 mk.l, .slice a n cap] 34)).alloc (.cells #[.slice none 0 0] 69)) (by simp)
    simpa using this
  have HI : Hid ((w.heap.size + 2 : Nat) < w1.heap.size) := (o1.block _ rfl).2
  have HSy := Lib.hid S0
  clear hw1
  obtain ⟨c0, c1, c2, c3, c4, c5⟩ := S0
  go_loopw [7, 8] (fun s7 s8 wr => ∃ k : Nat, k ≤ n2 ∧ s8 = .int .i64 k ∧ AliasR 27 (w.heap.size+2) wr s7 (kT k) ∧ Below (w.heap.size+2) w1 wr) (fun _ s8 _ => n2 - (intOf s8).toNat)
  case atStart => exact ⟨0, Nat.zero_le _, rfl, by rw [H0.out]; exact o1, Below.refl _ _⟩
  case round =>
    obtain ⟨k, hk, rfl, own, hb⟩ := hrel
    have hsz := hb.size
    have hI := HI.out
    have eW : Ext w wr := Below.trans e1 (hb.mono (by omega))
    have c0' := (hb.cell (p := ⟨w.heap.size, 0, none⟩) (by simp)).trans c0
    have c1' := (hb.cell (p := ⟨w.heap.size, 1, none⟩) (by simp)).trans c1
    have c2' := (hb.cell (p := ⟨w.heap.size, 2, none⟩) (by simp)).trans c2
    have c3' := (hb.cell (p := ⟨w.heap.size, 3, none⟩) (by simp)).trans c3
    have c4' := (hb.cell (p := ⟨w.heap.size, 4, none⟩) (by simp)).trans c4
    have c5' := (hb.cell (p := ⟨w.heap.size, 5, none⟩) (by simp)).trans c5
    by_cases hlt : k < n2
    · have hle := HL.out k
      have HSk := Lib.hid (HS.out k)
      obtain ⟨b, off, rfl, a1, n1, k1, hn1, hm1, -, hc, -, hel⟩ := HT.out k (by omega)
      have hdn := Hd.out k (by omega)
      rw [← hn1] at hdn
      obtain ⟨b1, o1', rfl, hx, hc1⟩ := hel d hdn
      replace hc := hc wr eW
      replace hc1 := hc1 wr eW
      have hkn : k < n := by omega
      clear hel hn1
      generalize (t.getD k []).getD d 0 = x at *
      by_cases hx1 : x = 1
      · have hq : (x == 1) = true := by simpa using hx1
        obtain ⟨b', off', rfl, a1', n1', k1', hn1', hm1', -, hc', ⟨yy, -, hy⟩, -⟩ := HC.out k hlt
        have hU := IntsR.free (hy w (Ext.refl _))
        have hUW := stable_ints.ext hU eW
        replace hc' := hc' wr eW
        have HV : Hid (kT (k+1) = kT k ++ [cuts.getD k []]) := by show _ = _; rw [HSk.out, if_pos hq]
        clear hy hn1' HSk hU
        generalize hup : kT k = up at *
        clear hup
        generalize cuts.getD k [] = row at *
        go_wp2_with (at_builtin; (refine wpList_appendAlias (B := w.heap.size + 2) (xs := up) (w0 := w) rfl _ _ 24 rfl Try.underlying24 Try.infoInts rfl own (a1', n1', k1') row hUW (by omega) rfl (by omega) (by omega) ?_); intro v6 w6 hown6 hb6 hg6 hat6)
        go_roundw
        case rel => exact ⟨k + 1, by omega, by go_num, by rw [HV.out]; exact hown6, hb.trans hb6⟩
        case measure => simp [intOf]; omega
      · have hq : (x == 1) = false := by simpa using hx1
        have HV : Hid (kT (k+1) = kT k) := by show _ = _; rw [HSk.out, if_neg (by rw [hq]; decide), List.append_nil]
        clear hx1 HSk
        go_wp2_with fail
        go_roundw
        case rel => exact ⟨k + 1, by omega, by go_num, by rw [HV.out]; exact own, hb⟩
        case measure => simp [intOf]; omega
    · have hkn : k = cuts.length := by have := Hn2.out; omega
      have hx := own.rows
      rw [hkn] at hx
      have hcall := HK.out wr eW _ hx
      have r0' := (hb.cell (p := ⟨w.heap.size + 1, 0, none⟩) (by show w.heap.size + 1 < w.heap.size + 2; omega)).trans r0
      have f0' := (hb.frozen (p := ⟨w.heap.size + 1, 0, none⟩) (by show w.heap.size + 1 < w.heap.size + 2; omega)).trans f0
      clear hx own
      go_wp2_with fail
      refine Calls.mono hcall ?_
      rintro e w2 hr
      obtain ⟨r, rfl, ⟨x, rfl, hx⟩, e2⟩ := ret_ext hr
      clear hr hcall
      have r2 := e2.cell r0'
      have f2 := (Below.frozen (p := ⟨w.heap.size + 1, 0, none⟩) e2 (by show w.heap.size + 1 < wr.heap.size; omega)).trans f0'
      obtain ⟨sa, sn, sc, rfl, -⟩ := SliceR.shape hx
      have HO := Lib.hid hx
      clear hx
      have hs2 := e2.size
      go_wp2_with fail
      refine bodyPost_ret (v := .agg #[.slice sa sn sc]) (by simp [results, Try.results90, go_sem, r2]) rfl ⟨_, rfl, ⟨_, rfl, ?_⟩, ?_⟩
      · have hw : Within ⟨w.heap.size + 1, w.heap.size + 2, true⟩ w2 (w2.setCell ⟨w.heap.size + 1, 0, none⟩ (.slice sa sn sc)) := (Within.refl _ w2).setCell (p := ⟨w.heap.size + 1, 0, none⟩) ⟨by simp, by simp⟩ _
        refine stable_rows.sub (stable_rows.within HO.out hw (fun k h1 h2 => by have q1 := h1.1; have q2 := h2.2; simp only [Zone.new] at q1 q2; omega)) ⟨fun k hk => ⟨by have q1 := hk.1; simp only [Zone.new] at *; omega, by have q2 := hk.2; simp only [Zone.new, World.setCell, Array.size_modify] at *; omega⟩, fun _ => rfl⟩
      · exact (eW.trans e2).setCell (by simp) _
end Go.Proofs.Ytgagjibjnaappaa
