/- Proved: what ReachWith computes. -/
import Derived.Test.YtbkijealdjghgaaURoomsCode
import Derived.Test.YtbkijealdjghgaaUReachLaw
import Derived.Test.YtbkijealdjghgaaUPkA
namespace Go.Proofs.Ytbkijealdjghgaa
open Go.ChangeShapes Go.WideShapes Go.ChangeAt Go.RowKit
set_option linter.unusedVariables false

/-- the rooms that can be reached -/
def reachInts (c : Int) (ds : List (List Int)) (f : Int) (op : List Int) : List Int := upto (fun i => (reachL c ds f op).getD i.toNat false) c.toNat

def reachWith (x : Int × List (List Int)) (f : Int) (op : List Int) : List Int × Int := if roomsCode x.1 x.2 op [f] = 0 then (reachInts x.1 x.2 f op, 0) else ([], roomsCode x.1 x.2 op [f])
theorem reachWith_ok {x : Int × List (List Int)} {f : Int} {op : List Int} (h : roomsCode x.1 x.2 op [f] = 0) : reachWith x f op = (reachInts x.1 x.2 f op, 0) := by unfold reachWith; rw [if_pos h]
theorem reachWith_no {x : Int × List (List Int)} {f : Int} {op : List Int} (h : roomsCode x.1 x.2 op [f] ≠ 0) : reachWith x f op = ([], roomsCode x.1 x.2 op [f]) := by unfold reachWith; rw [if_neg h]
end Go.Proofs.Ytbkijealdjghgaa
