/- Proved: the laws' own helper that marks a plan of rooms. -/
import Derived.Test.YtaogpbhgoeepbaaChecked
import Derived.Test.YtaogpbhgoeepbaaULawRooms
import Derived.Test.YtaogpbhgoeepbaaUMarkRows
namespace Go.Proofs.Ytaogpbhgoeepbaa
open Go.ChangeShapes Go.WideShapes Go.ChangeAt Go.RowKit
set_option linter.unusedVariables false

/-- what markRooms leaves: a box more, and the doors' numbers marked -/
def MarkRoomsPost (w : World) (z : Zone) (v : Value) (k : Int) (xss : List (List Int)) (e : Ending) (w' : World) : Prop :=
  e = .returned (.int .i64 (k + (offs xss xss.length : Int))) ∧ RowsR z w' v (markRows k xss) ∧ ∃ w1, Below w.heap.size w w1 ∧ Within z w1 w'

set_option maxHeartbeats 400000 in
theorem markRooms_c (w : World) (c : Int) (v : Value) (z : Zone) (ds : List (List Int)) (k0 : Int) (h : RowsR z w v ds) (ho : z.own = true) (h0 : 0 ≤ k0) (h1 : k0 + (offs ds ds.length : Int) ≤ 4611686018427387904) :
    Calls Try.prog 16 #[.agg #[.int .i64 c, v], .int .i64 k0] w (MarkRoomsPost w z v k0 ds) := by
  have hcall := fun (wq : World) (hb : Below w.heap.size w wq) => markInt64SS_c wq v z ds k0 (stable_rows.below h hb) ho h0 h1
  obtain ⟨a, n, cap, rfl, -⟩ := SliceR.shape h
  clear h1
  generalize he : (Value.int .i64 (k0 + (offs ds ds.length : Int))) = r at *
  have HE := Lib.hid he
  clear he
  go_enter Try.func16, Try.ntmps16
  go_wp2_with fail
  generalize hw0 : World.alloc w _ = w0
  have hb0 : Below w.heap.size w w0 := by rw [← hw0]; exact (Below.refl _ _).alloc (Nat.le_refl _) _
  have q1 : w0.cell? ⟨w.heap.size, 1, none⟩ = some (.slice a n cap) := by rw [← hw0]; simp
  clear hw0
  go_wp2_with fail
  refine Calls.mono (hcall w0 hb0) ?_
  rintro e w1 ⟨rfl, r1, hw1⟩
  go_wp2_with fail
  go_ret
  exact ⟨rfl, r1, w0, hb0, hw1⟩

/-! ### the helpers for a plan of rooms whose number and doors stand apart -/
theorem szRoomsA_c (w : World) (c : Int) (v : Value) (z : Zone) (ds : List (List Int)) (l : Int) (hc : I64 c) (h : RowsR z w v ds) (h0 : 0 ≤ l) (h1 : l ≤ 1048576) :
    Calls Try.prog 9 #[.agg #[.int .i64 c, v], .int .i64 l] w (Ret w fun r _ => r = .int .i64 (szLeft l (bulk ds))) :=
  szRooms_c w _ z (c, ds) l ⟨_, rfl, hc, h⟩ h0 h1
theorem toRoomsA_c (w : World) (c : Int) (v : Value) (z : Zone) (ds : List (List Int)) (hc : I64 c) (h : RowsR z w v ds) (hs : bulk ds ≤ 1048576) :
    Calls Try.prog 11 #[.agg #[.int .i64 c, v]] w (Ret w fun r w' => ∃ u, r = .agg #[.int .i64 c, u] ∧ RowsR (.new w w') w' u ds) :=
  (toRooms_c w _ z (c, ds) ⟨_, rfl, hc, h⟩ hs).mono fun e w' h => by
    obtain ⟨r, he, ⟨u, h1, _, h2⟩, hb⟩ := h
    exact ⟨r, he, ⟨u, h1, h2⟩, hb⟩
theorem eqRoomsA_c (w : World) (c : Int) (u v : Value) (y z : Zone) (ds : List (List Int)) (hc : I64 c) (h1 : RowsR y w u ds) (h2 : RowsR z w v ds) :
    Calls Try.prog 15 #[.agg #[.int .i64 c, u], .agg #[.int .i64 c, v]] w (Ret w fun r _ => r = .bool true) :=
  (eqRooms_c w _ _ y z (c, ds) (c, ds) ⟨_, rfl, hc, h1⟩ ⟨_, rfl, hc, h2⟩).mono fun e w' h => by
    obtain ⟨r, he, hr, hb⟩ := h
    exact ⟨r, he, by rw [hr, decide_eq_true rfl], hb⟩
theorem Within.cell {z : Zone} {w w' : World} (h : Within z w w') {p : Addr} (hp : ¬ z.Has p.block) : w'.cell? p = w.cell? p := World.cell?_of_block (h.block _ hp)
end Go.Proofs.Ytaogpbhgoeepbaa
