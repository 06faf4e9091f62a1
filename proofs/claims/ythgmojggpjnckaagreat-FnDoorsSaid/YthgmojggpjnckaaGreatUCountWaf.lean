/- Proved: CountWafers at a lock of a design, the program; likeLocks and likeOwnLock. -/
import Derived.Test.YthgmojggpjnckaaGreatChecked
import Derived.Deep.RegionHeld3
import Derived.Test.YthgmojggpjnckaaGreatULockOk
import Derived.Test.YthgmojggpjnckaaGreatUWafers
import Derived.Test.YthgmojggpjnckaaGreatUPkF6
namespace Go.Proofs.YthgmojggpjnckaaGreat
open Go.ChangeShapes Go.WideShapes Go.ChangeAt Go.RowKit
set_option linter.unusedVariables false

set_option maxRecDepth 20000 in
set_option maxHeartbeats 1000000 in
theorem CountWafers_c (w : World) (mk : MK) (v : Value) (z : Zone) (l : List (List Int)) (h : RowsR z w v l) (hok : LockOk mk l) (hb : LockB l) :
    Calls Tryz.prog 44 #[mk.v, .agg #[v]] w (Ret w fun r _ => r = IntCode (wafersB l, 0)) := by
  have HC := Lib.hid (fun (w' : World) (v : Value) (q : Zone) (g : LocksR q w' v [l]) => locksCode_c w' mk hok.maker v q [l] g (fun i hi => by
    have : i = 0 := by simp at hi; omega
    subst this; exact hok))
  have HW := Lib.hid (fun (w' : World) (e : Ext w w') => wafersOf_c w' v z l (stable_rows.ext h e) hb)
  have HR := Lib.hid (fun (w' : World) (e : Ext w w') => stable_rows.ext h e)
  obtain ⟨a, n, cap, rfl, -⟩ := SliceR.shape h
  obtain ⟨c, d, s, m, l0⟩ := mk
  clear h hok hb
  generalize wafersB l = x at *
  unfold MK.v at *
  simp only at HC ⊢
  go_enter Tryz.func44, Tryz.ntmps44
  go_wp2_with fail
  generalize hw0 : World.alloc (World.alloc w _) _ = w0
  obtain ⟨e0, cl0, hz⟩ : Ext w w0 ∧ w0.cell? ⟨w.heap.size + 1, 0, none⟩ = some (.slice a n cap) ∧ w0.heap.size = w.heap.size + 1 + 1 := by
    subst hw0
    refine ⟨(Ext.alloc _ _).trans (Ext.alloc _ _), ?_, by simp⟩
    all_goals (clear HC HW HR; go_simp; done)
  clear hw0
  have HL := Lib.hid cl0
  generalize hw1 : World.alloc w0 _ = w1
  obtain ⟨e1, hL1⟩ := locks_one (HR.out w0 e0) hw1
  have hcall := HC.out w1 _ _ hL1
  rw [hz] at hcall
  clear hw1 hL1 cl0 hz
  refine Calls.mono hcall ?_
  rintro e w2 hr
  obtain ⟨r, rfl, rfl, e2⟩ := ret_ext hr
  clear hr hcall
  have e02 := e1.trans e2
  have et := e0.trans e02
  have cl := e02.cell HL.out
  go_wp2_with fail
  refine Calls.mono (HW.out w2 et) ?_
  rintro e w3 hr
  obtain ⟨r, rfl, rfl, e3⟩ := ret_ext hr
  clear hr
  go_wp2_with fail
  go_ret2
  exact ⟨_, rfl, rfl, et.trans e3⟩

set_option maxRecDepth 20000 in
set_option maxHeartbeats 1000000 in
theorem likeLocks_c (w : World) (u v : Value) (y z : Zone) (xs ys : List (List Int)) (hx : RowsR y w u xs) (hy : RowsR z w v ys) :
    Calls Tryz.prog 45 #[.agg #[u], .agg #[v]] w (Ret w fun r _ => r = .bool (decide (xs = ys))) := by
  have HL := Lib.hid (fun (w' : World) (e : Ext w w') => likeLists_c w' u v y z xs ys (stable_rows.ext hx e) (stable_rows.ext hy e))
  obtain ⟨a, n, k, rfl, -⟩ := SliceR.shape hx
  obtain ⟨a2, n2, k2, rfl, -⟩ := SliceR.shape hy
  clear hx hy
  generalize decide (xs = ys) = q at *
  go_enter Tryz.func45, Tryz.ntmps45
  go_wp2_with fail
  generalize hw0 : World.alloc (World.alloc w _) _ = w0
  obtain ⟨e0, c0, c1⟩ : Ext w w0 ∧ w0.cell? ⟨w.heap.size, 0, none⟩ = some (.slice a n k) ∧ w0.cell? ⟨w.heap.size + 1, 0, none⟩ = some (.slice a2 n2 k2) := by
    subst hw0
    refine ⟨(Ext.alloc _ _).trans (Ext.alloc _ _), ?_, ?_⟩
    all_goals (clear HL; go_simp; done)
  clear hw0
  try go_wp2_with fail
  refine Calls.mono (HL.out _ e0) ?_
  rintro e w1 hr
  obtain ⟨rfl, -, e1⟩ := retq_ext hr
  go_wp2_with fail
  go_ret
  exact ⟨_, rfl, rfl, e0.trans e1⟩

set_option maxRecDepth 20000 in
set_option maxHeartbeats 1000000 in
theorem likeOwnLock_c (w : World) (u v : Value) (y z : Zone) (ls : List (List (List Int))) (hx : LocksR y w u ls) (hy : LocksR z w v ls) :
    Calls Tryz.prog 41 #[u, v] w (RetQ w (.bool true)) := by
  obtain ⟨a, n, cap, rfl, hn, hmax, -⟩ := SliceR.shape hx
  obtain ⟨b, m, cap', rfl, hm, -⟩ := SliceR.shape hy
  obtain rfl : m = n := by omega
  have HX := Lib.hid (fun (k : Nat) (hk : k < m) => locks_at hx hk)
  have HY := Lib.hid (fun (k : Nat) (hk : k < m) => locks_at hy hk)
  clear hx hy hn hm
  go_enter Tryz.func41, Tryz.ntmps41
  go_wp2_with fail
  go_loopw [5] (fun s wr => ∃ k : Nat, k ≤ m ∧ s = .int .i64 k ∧ Drew w wr) (fun s _ => m - (intOf s).toNat)
  case atStart => exact ⟨0, Nat.zero_le _, rfl, Drew.refl _⟩
  case round =>
    obtain ⟨k, hk, rfl, hd⟩ := hrel
    by_cases hlt : k < m
    · obtain ⟨b1, o1, rfl, a1, n1, k1, -, hc1, y1, -, hy1⟩ := HX.out k hlt
      obtain ⟨b2, o2, rfl, a2, n2, k2, -, hc2, y2, -, hy2⟩ := HY.out k hlt
      have ed := Ext.ofDrew hd
      have HR := Lib.hid (fun (q : Nat) => likeRows_c (wr.drewN q) _ _ _ _ _ _ (hy1 _ (ed.trans (Ext.drewN wr q))) (hy2 _ (ed.trans (Ext.drewN wr q))))
      rw [show decide (ls.getD k [] = ls.getD k []) = true by simp] at HR
      have hc1' := hc1 wr ed
      have hc2' := hc2 wr ed
      clear hc1 hc2 hy1 hy2
      go_wp2_with fail
      go_quiet ((go_at_call 94; exact RetQ.quiet (HR.out _)))
      go_wp2_with fail
      go_roundw
      case rel => exact ⟨k + 1, by omega, by go_num, hd.drewN _⟩
      case measure => simp [intOf]; omega
    · go_wp2_with fail
      go_ret
      exact ⟨ret_bool' rfl, hd⟩
end Go.Proofs.YthgmojggpjnckaaGreat
