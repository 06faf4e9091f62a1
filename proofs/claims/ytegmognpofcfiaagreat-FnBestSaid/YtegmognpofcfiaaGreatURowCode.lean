/- Proved: the code of a system, a design, a further row and a key, program and reference. -/
import Derived.Test.YtegmognpofcfiaaGreatChecked
import Derived.Test.YtegmognpofcfiaaGreatUPkD
import Derived.Test.YtegmognpofcfiaaGreatUPkC
namespace Go.Proofs.YtegmognpofcfiaaGreat
open Go.ChangeShapes Go.WideShapes Go.ChangeAt Go.RowKit
set_option linter.unusedVariables false

def rowOk (t : List (List Int)) (row : List Int) : Bool := decide (row.length = doorsOf t) && allB row 0 1
def rowCode (mk : MK) (t cuts : List (List Int)) (row : List Int) (keys : List (List Int)) : Int := if designCode mk t cuts ≠ 0 then designCode mk t cuts else if (rowOk t row && areKeysB mk keys) = false then 2 else if t.length = 10 then 3 else 0
theorem rowCode_bad {mk : MK} {t cuts : List (List Int)} {row : List Int} {keys : List (List Int)} (h : designCode mk t cuts ≠ 0) : rowCode mk t cuts row keys = designCode mk t cuts := by unfold rowCode; rw [if_pos h]
theorem rowCode_range {mk : MK} {t cuts : List (List Int)} {row : List Int} {keys : List (List Int)} (h : designCode mk t cuts = 0) (h2 : (rowOk t row && areKeysB mk keys) = false) : rowCode mk t cuts row keys = 2 := by unfold rowCode; rw [if_neg (by omega), if_pos h2]
theorem rowCode_ok {mk : MK} {t cuts : List (List Int)} {row : List Int} {keys : List (List Int)} (h : designCode mk t cuts = 0) (h2 : (rowOk t row && areKeysB mk keys) = true) : rowCode mk t cuts row keys = if t.length = 10 then 3 else 0 := by unfold rowCode; rw [if_neg (by omega), if_neg (by rw [h2]; decide)]
structure RowCodeOk (mk : MK) (t cuts : List (List Int)) (rr : List Int) (ks : List (List Int)) : Prop extends DesignOk mk t cuts where
  row_len : rr.length = doorsOf t
  row_bit : allB rr 0 1 = true
  row_keys : ∀ r ∈ ks, KeyOk mk r
  lt10 : t.length < 10
theorem rowCode_zero {mk : MK} {t cuts : List (List Int)} {row : List Int} {keys : List (List Int)} (h : rowCode mk t cuts row keys = 0) : RowCodeOk mk t cuts row keys := by
  by_cases h1 : designCode mk t cuts = 0
  · cases h2 : (rowOk t row && areKeysB mk keys) with
    | false => rw [rowCode_range h1 h2] at h; omega
    | true =>
      rw [rowCode_ok h1 h2] at h
      obtain ⟨h3, h4⟩ := Bool.and_eq_true_iff.1 h2
      unfold rowOk at h3
      obtain ⟨h5, h6⟩ := Bool.and_eq_true_iff.1 h3
      have hd := designCode_zero h1
      have := hd.len
      exact ⟨hd, of_decide_eq_true h5, h6, keysOk h4, by split at h <;> omega⟩
  · rw [rowCode_bad h1] at h; exact absurd h h1
/-- one list in a row of its own -/
theorem rows_one {w w1 : World} {z : Zone} {a : Option Addr} {n c : Nat} {xs : List Int} {e : TypeId} (h : IntsR z w (.slice a n c) xs) (hw : w.alloc (.cells #[.slice a n c] e) = w1) : Ext w w1 ∧ RowsR ⟨0, w1.heap.size, false⟩ w1 (.slice (some ⟨w.heap.size, 0, none⟩) 1 1) [xs] := by
  subst hw
  have := SliceR.one (e := e) stable_ints (u := (a, n, c)) (IntsR.free h) (Nat.le_refl _) (Nat.le_refl _) (Nat.zero_le _)
  refine ⟨Ext.alloc _ _, ?_⟩
  simp only [World.size_alloc]
  exact this

set_option maxHeartbeats 1000000 in
theorem isRow_c (w : World) (mk : MK) (v : Value) (z : Zone) (t : List (List Int)) (h : RowsR z w v t) (ht : 0 < t.length) (u : Value) (y : Zone) (row : List Int) (hr : IntsR y w u row) :
    Calls Tryz.prog 188 #[sysV mk v, u] w (Ret w fun r _ => r = .bool (rowOk t row)) := by
  have HC := Lib.hid (fun (w' : World) (e : Ext w w') => allWithin_c w' u y row 0 1 (stable_ints.ext hr e))
  obtain ⟨a, n, cap, rfl, hn, -⟩ := SliceR.shape h
  obtain ⟨a2, n2, cap2, rfl, hn2, -⟩ := SliceR.shape hr
  obtain ⟨b, off, rfl, a0, m, cp, hmE, hmm, -, hcr, -⟩ := rows_at h (k := 0) (by omega)
  have hn0 : 0 < n := by omega
  have Hm : Hid (m = doorsOf t) := hmE
  have Hn2 := Lib.hid hn2
  have HQ : Hid (rowOk t row = (decide (row.length = doorsOf t) && allB row 0 1)) := rfl
  generalize rowOk t row = res at *
  generalize allB row 0 1 = q at *
  have hc0 := hcr w (Ext.refl _)
  have hbl := World.block_lt_of_cell? _ _ hc0
  simp only at hbl
  rw [Nat.add_zero] at hc0
  unfold sysV
  clear hn hn2 hmE h hr ht hcr
  go_enter Tryz.func188, Tryz.ntmps188
  by_cases hl : n2 = m
  · have hb : ((n2 : Int) == (m : Int)) = true := by rw [hl]; simp
    have HR : Hid (res = q) := by show _ = _; rw [HQ.out, ← Hn2.out, ← Hm.out, decide_eq_true hl, Bool.true_and]
    clear hl HQ
    go_wp2_with fail
    generalize hw0 : World.alloc _ _ = w0
    obtain ⟨e0, S0⟩ := sys_box hw0
    clear hw0
    refine Calls.mono (HC.out w0 e0) ?_
    rintro e w1 ⟨rfl, hd⟩
    go_wp2_with fail
    go_ret
    exact ⟨_, rfl, congrArg Value.bool HR.out.symm, e0.trans (Ext.ofDrew hd)⟩
  · have hb : ((n2 : Int) == (m : Int)) = false := by rw [beq_eq_false_iff_ne]; omega
    have HR : Hid (res = false) := by show _ = _; rw [HQ.out, ← Hn2.out, ← Hm.out, decide_eq_false hl, Bool.false_and]
    clear hl HQ
    go_wp2_with fail
    go_ret
    exact ⟨_, rfl, congrArg Value.bool HR.out.symm, Ext.alloc _ _⟩

set_option maxRecDepth 20000 in
set_option maxHeartbeats 1000000 in
theorem rowCode_c (w : World) (mk : MK) (v : Value) (z : Zone) (t : List (List Int)) (h : RowsR z w v t) (u : Value) (y : Zone) (cuts : List (List Int)) (hc : RowsR y w u cuts) (v3 : Value) (z3 : Zone) (row : List Int) (hr : IntsR z3 w v3 row) (v4 : Value) (z4 : Zone) (keys : List (List Int)) (hk : RowsR z4 w v4 keys) :
    Calls Tryz.prog 104 #[sysV mk v, u, v3, v4] w (Ret w fun r _ => r = .int .i64 (rowCode mk t cuts row keys)) := by
  have H1 : Hid (designCode mk t cuts ≠ 0 → rowCode mk t cuts row keys = designCode mk t cuts) := rowCode_bad
  have H2 : Hid (designCode mk t cuts = 0 → (rowOk t row && areKeysB mk keys) = false → rowCode mk t cuts row keys = 2) := rowCode_range
  have H3 : Hid (designCode mk t cuts = 0 → (rowOk t row && areKeysB mk keys) = true → rowCode mk t cuts row keys = if t.length = 10 then 3 else 0) := rowCode_ok
  have HM : Hid (designCode mk t cuts = 0 → (2 ≤ mk.d ∧ mk.d ≤ 8) ∧ 0 ≤ mk.m ∧ 0 < t.length) := fun h => by
    have hd := designCode_zero h
    obtain ⟨-, a, -, b, -⟩ := isMaker_iff.1 (sysMaker hd.sys)
    have := hd.len
    exact ⟨a, by omega, by omega⟩
  have HC1 := Lib.hid (fun (w' : World) (e : Ext w w') => designCode_c w' mk v z t (stable_rows.ext h e) u y cuts (stable_rows.ext hc e))
  have HC2 := Lib.hid (fun (ht : 0 < t.length) (w' : World) (e : Ext w w') => isRow_c w' mk v z t (stable_rows.ext h e) ht v3 z3 row (stable_ints.ext hr e))
  have HC3 := Lib.hid (fun (h1 : 2 ≤ mk.d ∧ mk.d ≤ 8) (h2 : 0 ≤ mk.m) (w' : World) (e : Ext w w') => areKeys_c w' mk h1 h2 v4 z4 keys (stable_rows.ext hk e))
  generalize rowCode mk t cuts row keys = res at *
  generalize designCode mk t cuts = dc at *
  generalize rowOk t row = q1 at *
  generalize areKeysB mk keys = q2 at *
  obtain ⟨a, n, cap, rfl, hn, hmax, -⟩ := SliceR.shape h
  obtain ⟨a2, n2, cap2, rfl, -⟩ := SliceR.shape hc
  obtain ⟨a3, n3, cap3, rfl, -⟩ := SliceR.shape hr
  obtain ⟨a4, n4, cap4, rfl, -⟩ := SliceR.shape hk
  have Hn := Lib.hid hn
  clear hn h hc hr hk
  unfold sysV MK.v at *
  go_enter Tryz.func104, Tryz.ntmps104
  go_wp2_with fail
  generalize hw0 : World.alloc _ _ = w0
  obtain ⟨e0, S0⟩ := sys_box hw0
  clear hw0
  have HS := Lib.hid S0
  clear S0
  refine Calls.mono (HC1.out w0 e0) ?_
  rintro e w1 hr
  obtain ⟨r, rfl, rfl, e1⟩ := ret_ext hr
  clear hr
  have et := e0.trans e1
  obtain ⟨c0, c1, c2, c3, c4, c5⟩ := HS.out.all e1
  by_cases hd : dc = 0
  · have hb : (dc != 0) = false := by rw [hd]; rfl
    obtain ⟨m1, m2, m3⟩ := HM.out hd
    have H2' := Lib.hid (H2.out hd)
    have H3' := Lib.hid (H3.out hd)
    have hcall := HC2.out m3 w1 et
    have HC3' := Lib.hid (HC3.out m1 m2)
    clear hd H1 H2 H3 HM HC2 HC3
    go_wp2_with fail
    refine Calls.mono hcall ?_
    rintro e w2 hr
    obtain ⟨r, rfl, rfl, e2⟩ := ret_ext hr
    clear hr hcall c0 c1 c2 c3 c4 c5
    have et2 := et.trans e2
    obtain ⟨c0, c1, c2, c3, c4, c5⟩ := HS.out.all (e1.trans e2)
    cases q1 with
    | false =>
      have HH := Lib.hid (H2'.out rfl)
      go_wp2_with fail
      go_ret
      exact ⟨_, rfl, congrArg (Value.int .i64) HH.out.symm, et2⟩
    | true =>
      have hcall := HC3'.out w2 et2
      go_wp2_with fail
      refine Calls.mono hcall ?_
      rintro e w3 hr
      obtain ⟨r, rfl, rfl, e3⟩ := ret_ext hr
      clear hr hcall c0 c1 c2 c3 c4 c5
      have et3 := et2.trans e3
      obtain ⟨c0, c1, c2, c3, c4, c5⟩ := HS.out.all ((e1.trans e2).trans e3)
      cases q2 with
      | false =>
        have HH := Lib.hid (H2'.out rfl)
        go_wp2_with fail
        go_ret
        exact ⟨_, rfl, congrArg (Value.int .i64) HH.out.symm, et3⟩
      | true =>
        have HH := Lib.hid (H3'.out rfl)
        by_cases h10 : n = 10
        · have hb10 : ((n : Int) == 10) = true := by rw [h10]; rfl
          have HR : Hid (res = 3) := by show _ = _; rw [HH.out, if_pos (by rw [← Hn.out]; exact h10)]
          clear h10
          go_wp2_with fail
          go_ret
          exact ⟨_, rfl, congrArg (Value.int .i64) HR.out.symm, et3⟩
        · have hb10 : ((n : Int) == 10) = false := by rw [beq_eq_false_iff_ne]; omega
          have HR : Hid (res = 0) := by show _ = _; rw [HH.out, if_neg (by rw [← Hn.out]; exact h10)]
          clear h10
          go_wp2_with fail
          go_ret
          exact ⟨_, rfl, congrArg (Value.int .i64) HR.out.symm, et3⟩
  · have hb : (dc != 0) = true := by rw [bne_iff_ne]; exact hd
    have HH := Lib.hid (H1.out hd)
    clear hd H1 H2 H3 HM
    go_wp2_with fail
    go_ret
    exact ⟨_, rfl, congrArg (Value.int .i64) HH.out.symm, et⟩
end Go.Proofs.YtegmognpofcfiaaGreat
