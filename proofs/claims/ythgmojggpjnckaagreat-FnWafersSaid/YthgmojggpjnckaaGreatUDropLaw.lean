/- Proved: what DropDoor computes, and the reference's check of a pair. -/
import Derived.Test.YthgmojggpjnckaaGreatChecked
import Derived.Test.YthgmojggpjnckaaGreatUPkD
import Derived.Test.YthgmojggpjnckaaGreatUPkE
namespace Go.Proofs.YthgmojggpjnckaaGreat
open Go.ChangeShapes Go.WideShapes Go.ChangeAt Go.RowKit
set_option linter.unusedVariables false

def delAt (d : Nat) (r : List Int) : List Int := r.take d ++ r.drop (d + 1)
def dropDoor (mk : MK) (t cuts : List (List Int)) (d : Int) : (MK × List (List Int)) × Int :=
  if designCode mk t cuts ≠ 0 then ((noSys, []), designCode mk t cuts) else if inB d 0 ((doorsOf t : Int) - 1) = false then ((noSys, []), 2) else if doorsOf t = 1 then ((noSys, []), 5) else ((mk, mapI (fun _ r => delAt d.toNat r) t t.length), 0)
theorem dropDoor_bad {mk : MK} {t cuts : List (List Int)} {d : Int} (h : designCode mk t cuts ≠ 0) : dropDoor mk t cuts d = ((noSys, []), designCode mk t cuts) := by unfold dropDoor; rw [if_pos h]
theorem dropDoor_range {mk : MK} {t cuts : List (List Int)} {d : Int} (h : designCode mk t cuts = 0) (h2 : inB d 0 ((doorsOf t : Int) - 1) = false) : dropDoor mk t cuts d = ((noSys, []), 2) := by unfold dropDoor; rw [if_neg (by omega), if_pos h2]
theorem dropDoor_one {mk : MK} {t cuts : List (List Int)} {d : Int} (h : designCode mk t cuts = 0) (h2 : inB d 0 ((doorsOf t : Int) - 1) = true) (h3 : doorsOf t = 1) : dropDoor mk t cuts d = ((noSys, []), 5) := by unfold dropDoor; rw [if_neg (by omega), if_neg (by rw [h2]; decide), if_pos h3]
theorem dropDoor_ok {mk : MK} {t cuts : List (List Int)} {d : Int} (h : designCode mk t cuts = 0) (h2 : inB d 0 ((doorsOf t : Int) - 1) = true) (h3 : doorsOf t ≠ 1) : dropDoor mk t cuts d = ((mk, mapI (fun _ r => delAt d.toNat r) t t.length), 0) := by unfold dropDoor; rw [if_neg (by omega), if_neg (by rw [h2]; decide), if_neg h3]
def pairB (t : List (List Int)) (k d : Int) : Bool := inB k 0 ((t.length : Int) - 1) && inB d 0 ((doorsOf t : Int) - 1)

set_option maxHeartbeats 1000000 in
theorem l15Pair_c (w : World) (mk : MK) (v : Value) (z : Zone) (t : List (List Int)) (h : RowsR z w v t) (ht : 0 < t.length) (k d : Int) :
    Calls Tryz.prog 72 #[sysV mk v, .int .i64 k, .int .i64 d] w (Ret w fun r _ => r = .bool (pairB t k d)) := by
  obtain ⟨a, n, cap, rfl, hn, hmx, -⟩ := SliceR.shape h
  obtain ⟨b, off, rfl, a0, m, cp, hmE, hmm, -, hcr, -⟩ := rows_at h (k := 0) (by omega)
  have hn0 : 0 < n := by omega
  have HQ : Hid (pairB t k d = (inB k 0 ((n : Int) - 1) && inB d 0 ((m : Int) - 1))) := by show _ = _; unfold pairB doorsOf; rw [hn, hmE]
  generalize pairB t k d = res at *
  have hc0 := hcr w (Ext.refl _)
  rw [Nat.add_zero] at hc0
  have HC1 := Lib.hid (fun w' => l01In_c w' k 0 ((n : Int) - 1))
  have HC2 := Lib.hid (fun w' => l01In_c w' d 0 ((m : Int) - 1))
  clear hn hmE h ht hcr
  generalize inB k 0 ((n : Int) - 1) = q1 at *
  generalize inB d 0 ((m : Int) - 1) = q2 at *
  unfold sysV
  go_enter Tryz.func72, Tryz.ntmps72
  go_wp2_with fail
  generalize hw0 : World.alloc _ _ = w0
  obtain ⟨e0, S0⟩ := sys_box hw0
  clear hw0
  have c5 := S0.c5
  clear S0
  replace hc0 := e0.cell hc0
  refine Calls.mono (HC1.out w0) ?_
  rintro e w1 ⟨rfl, hd⟩
  have e1 := Ext.ofDrew hd
  clear hd
  replace hc0 := e1.cell hc0
  replace c5 := e1.cell c5
  cases q1 with
  | false =>
    go_wp2_with fail
    go_ret
    exact ⟨_, rfl, congrArg Value.bool (by rw [HQ.out]; rfl), e0.trans e1⟩
  | true =>
    go_wp2_with fail
    refine Calls.mono (HC2.out w1) ?_
    rintro e w2 ⟨rfl, hd⟩
    have e2 := Ext.ofDrew hd
    clear hd
    go_wp2_with fail
    go_ret
    exact ⟨_, rfl, congrArg Value.bool (by rw [HQ.out]; rfl), (e0.trans e1).trans e2⟩
end Go.Proofs.YthgmojggpjnckaaGreat
