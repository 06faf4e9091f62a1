/- Proved: the rooms behind a door. -/
import Derived.Test.YtbkijealdjghgaaUOtherDoors
import Derived.Test.YtbkijealdjghgaaURoutesCode
import Derived.Test.YtbkijealdjghgaaUPkA
namespace Go.Proofs.Ytbkijealdjghgaa
open Go.ChangeShapes Go.WideShapes Go.ChangeAt Go.RowKit
set_option linter.unusedVariables false

theorem _root_.Go.Calls.ret' {P : Program} {f : FuncId} {args : Array Value} {w : World} {v : Value} (h : Calls P f args w (RetQ w v)) : Calls P f args w (Ret w fun r _ => r = v) := h.mono fun _ _ h => h.ret

def behindB (c : Int) (ds : List (List Int)) (f d i : Int) : Bool := (reachL c ds f (otherDoors ds.length [])).getD i.toNat false && !(reachL c ds f (otherDoors ds.length [d])).getD i.toNat false
def roomsBehind (x : Int × List (List Int)) (f d : Int) : List Int × Int := if roomsCode x.1 x.2 [d] [f] = 0 then (upto (behindB x.1 x.2 f d) x.1.toNat, 0) else ([], roomsCode x.1 x.2 [d] [f])
theorem roomsBehind_ok {x : Int × List (List Int)} {f d : Int} (h : roomsCode x.1 x.2 [d] [f] = 0) : roomsBehind x f d = (upto (behindB x.1 x.2 f d) x.1.toNat, 0) := by unfold roomsBehind; rw [if_pos h]
theorem roomsBehind_no {x : Int × List (List Int)} {f d : Int} (h : roomsCode x.1 x.2 [d] [f] ≠ 0) : roomsBehind x f d = ([], roomsCode x.1 x.2 [d] [f]) := by unfold roomsBehind; rw [if_neg h]
theorem roomsBehind_length (x : Int × List (List Int)) (f d : Int) : ((roomsBehind x f d).1.length : Int) ≤ 1048576 := by
  unfold roomsBehind
  split
  · next h =>
    have := upto_length (behindB x.1 x.2 f d) x.1.toNat
    have := (roomsOk_sides (roomsCode_ok h).1).1
    simp only; omega
  · simp
theorem rising_one (d : Int) (n : Nat) : rising [d] n = inB d 0 ((n : Int) - 1) := by
  rw [Bool.eq_iff_iff]
  simp [rising, risingAt, inB]
  omega
theorem roomsCode_door {c : Int} {ds : List (List Int)} {f d : Int} : roomsCode c ds [d] [f] = if roomsCode c ds [] [f] = 0 then (if inB d 0 ((ds.length : Int) - 1) = true then 0 else 2) else roomsCode c ds [] [f] := by
  unfold roomsCode
  rw [rising_one]
  have e : rising [] ds.length = true := by simp [rising]
  rw [e]
  cases roomsOk c ds <;> cases allB [f] 0 (c - 1) <;> cases inB d 0 ((ds.length : Int) - 1) <;> simp
theorem upto_filter (p q : Int → Bool) (n : Nat) : (upto p n).filter q = upto (fun i => p i && q i) n := by
  unfold upto
  rw [List.filter_map, List.filter_filter]
  congr 1
  exact List.filter_congr (fun i _ => by simp [Bool.and_comm])
theorem upto_congr {p q : Int → Bool} {n : Nat} (h : ∀ i : Int, 0 ≤ i → i < n → p i = q i) : upto p n = upto q n := by
  unfold upto
  congr 1
  exact List.filter_congr (fun i hi => h i (by omega) (by have := List.mem_range.1 hi; omega))
theorem behind_eq {c : Int} {ds : List (List Int)} {f d : Int} : (reachInts c ds f (otherDoors ds.length [])).filter (fun i => !has (reachInts c ds f (otherDoors ds.length [d])) i) = upto (behindB c ds f d) c.toNat := by
  unfold reachInts
  rw [upto_filter]
  refine upto_congr (fun i h0 h1 => ?_)
  unfold behindB
  rw [has_upto _ _ _ h0 h1]
/-- what has been kept of the first k -/
def keptUpto (q : Int → Bool) (l : List Int) (k : Nat) : List Int := (l.take k).filter q
theorem keptUpto_yes {q : Int → Bool} {l : List Int} {k : Nat} (hk : k < l.length) (h : q l[k] = true) : keptUpto q l (k+1) = keptUpto q l k ++ [l[k]] := by
  unfold keptUpto; rw [List.take_succ_eq_append_getElem hk, List.filter_append]; simp [h]
theorem keptUpto_no {q : Int → Bool} {l : List Int} {k : Nat} (hk : k < l.length) (h : q l[k] = false) : keptUpto q l (k+1) = keptUpto q l k := by
  unfold keptUpto; rw [List.take_succ_eq_append_getElem hk, List.filter_append]; simp [h]
theorem keptUpto_length (q : Int → Bool) (l : List Int) (k : Nat) : (keptUpto q l k).length ≤ k := by
  unfold keptUpto
  have := List.length_filter_le q (l.take k)
  have := List.length_take_le k l
  omega
theorem keptUpto_all {q : Int → Bool} {l : List Int} : keptUpto q l l.length = l.filter q := by unfold keptUpto; rw [List.take_length]
theorem keptUpto_mem {q : Int → Bool} {l : List Int} {k : Nat} {x : Int} (h : x ∈ keptUpto q l k) : x ∈ l := List.mem_of_mem_take (List.mem_filter.1 h).1
end Go.Proofs.Ytbkijealdjghgaa
