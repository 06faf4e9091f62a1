/- Proved: what ExtendSystem computes. -/
import Derived.Test.YtgagjibjnaappaaGreatChecked
import Derived.Test.YtgagjibjnaappaaGreatURetireLaw
import Derived.Test.YtgagjibjnaappaaGreatUCanSpec
import Derived.Test.YtgagjibjnaappaaGreatUWithRowO
namespace Go.Proofs.YtgagjibjnaappaaGreat
open Go.ChangeShapes Go.WideShapes Go.ChangeAt Go.RowKit
set_option linter.unusedVariables false

def extendSys (mk : MK) (t cuts : List (List Int)) (row key : List Int) : SysRows :=
  if rowCode mk t cuts row [key] ≠ 0 then noRes (rowCode mk t cuts row [key]) else if stays mk (t ++ [row]) cuts key = false then noRes 5 else ((mk, t ++ [row]), (cuts ++ [key], 0))
theorem extend_bad {mk : MK} {t cuts : List (List Int)} {row key : List Int} (h : rowCode mk t cuts row [key] ≠ 0) : extendSys mk t cuts row key = noRes (rowCode mk t cuts row [key]) := by unfold extendSys; rw [if_pos h]
theorem extend_state {mk : MK} {t cuts : List (List Int)} {row key : List Int} (h : rowCode mk t cuts row [key] = 0) (h2 : stays mk (t ++ [row]) cuts key = false) : extendSys mk t cuts row key = noRes 5 := by unfold extendSys; rw [if_neg (by omega), if_pos h2]
theorem extend_ok {mk : MK} {t cuts : List (List Int)} {row key : List Int} (h : rowCode mk t cuts row [key] = 0) (h2 : stays mk (t ++ [row]) cuts key = true) : extendSys mk t cuts row key = ((mk, t ++ [row]), (cuts ++ [key], 0)) := by unfold extendSys; rw [if_neg (by omega), if_neg (by rw [h2]; decide)]
theorem withFirstOI (w : World) (mk : MK) (v : Value) (z : Zone) (t : List (List Int)) (h : RowsR z w v t) (u : Value) (y : Zone) (row : List Int) {cuts keys : List (List Int)} (hr : IntsR y w u row) (ok : RowCodeOk mk t cuts row keys) :
    Calls Tryz.prog 30 #[sysV mk v, u] w (Ret w fun r w' => ∃ v', r = sysV mk v' ∧ RowsR ⟨w.heap.size, w'.heap.size, true⟩ w' v' (t ++ [row])) :=
  withRowO_c w mk v z t h u y row hr (by have := ok.len; omega) (fun k hk => by rw [ok.row k hk]; have := ok.doors; omega) (by rw [ok.row_len]; have := ok.doors; omega)
theorem withFirstOS (w : World) (mk : MK) (v : Value) (z : Zone) (t : List (List Int)) (h : RowsR z w v t) (u : Value) (y : Zone) (row : List Int) {cuts keys : List (List Int)} (hr : IntsR y w u row) (ok : RowCodeOk mk t cuts row keys) :
    Calls Tryz.prog 25 #[sysV mk v, u] w (Ret w fun r w' => ∃ v', r = sysV mk v' ∧ RowsR ⟨w.heap.size, w'.heap.size, true⟩ w' v' (t ++ [row])) :=
  l24WithO_c w mk v z t h u y row hr (by have := ok.len; omega) (fun k hk => by rw [ok.row k hk]; have := ok.doors; omega) (by rw [ok.row_len]; have := ok.doors; omega)
theorem RowCodeOk.keyLen {mk : MK} {t cuts : List (List Int)} {row key : List Int} (ok : RowCodeOk mk t cuts row [key]) : key.length ≤ 6 := by
  have := (ok.row_keys key (List.mem_singleton.2 rfl)).len
  have := ok.mk1
  omega
end Go.Proofs.YtgagjibjnaappaaGreat
