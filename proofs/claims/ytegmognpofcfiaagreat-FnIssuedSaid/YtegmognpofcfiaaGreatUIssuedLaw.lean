/- Proved: an extended design is a design; the easiest key (plain). -/
import Derived.Test.YtegmognpofcfiaaGreatUPkEx
import Derived.Test.YtegmognpofcfiaaGreatUDrawSysP
import Derived.Test.YtegmognpofcfiaaGreatUDoorsOp
namespace Go.Proofs.YtegmognpofcfiaaGreat
open Go.ChangeShapes Go.WideShapes Go.ChangeAt Go.RowKit
set_option linter.unusedVariables false

theorem system_of {mk : MK} {t : List (List Int)} (hm : isMaker mk = true) (ok : SysOk mk t) (ho : openTo t (doorsOf t)) : isSystem mk t = true := by
  have hl := ok.len
  have hd := ok.doors
  refine tab_system hm ⟨rfl, fun r hr => ?_, fun r hr x hx => ?_⟩ hl hd ho
  · obtain ⟨k, hk, rfl⟩ := List.getElem_of_mem hr
    have := ok.row k hk
    rw [show t.getD k [] = t[k] by simp [hk]] at this
    exact this
  · obtain ⟨k, hk, rfl⟩ := List.getElem_of_mem hr
    obtain ⟨d, hd', rfl⟩ := List.getElem_of_mem hx
    have e : t.getD k [] = t[k] := by simp [hk]
    have h1 := ok.row k hk
    have h2 := ok.bit k d hk (by rw [← h1, e]; exact hd')
    rw [e, show t[k].getD d 0 = t[k][d] by simp [hd']] at h2
    omega
theorem openTo_of {mk : MK} {t : List (List Int)} (h : isSystem mk t = true) : openTo t (doorsOf t) := fun j hj => by
  unfold isSystem at h
  have := List.all_eq_true.1 (Bool.and_eq_true_iff.1 (Bool.and_eq_true_iff.1 h).2).2 j (List.mem_range.2 hj)
  unfold doorOpen at this
  obtain ⟨r, hr, h1⟩ := List.any_eq_true.1 this
  exact ⟨r, hr, by simpa using h1⟩
theorem maker_of {mk : MK} {t : List (List Int)} (h : isSystem mk t = true) : isMaker mk = true := by
  unfold isSystem at h
  exact (Bool.and_eq_true_iff.1 h).1
theorem system_app {mk : MK} {t cuts : List (List Int)} {row : List Int} {keys : List (List Int)} (h : RowCodeOk mk t cuts row keys) : isSystem mk (t ++ [row]) = true := by
  have h0 := h.len
  refine system_of (maker_of h.sys) (sysOk_app h) (fun j hj => ?_)
  rw [doorsOf_app (by omega)] at hj
  obtain ⟨r, hr, h1⟩ := openTo_of h.sys j hj
  exact ⟨r, List.mem_append.2 (.inl hr), h1⟩
theorem design_app {mk : MK} {t cuts : List (List Int)} {row key : List Int} (h : rowCode mk t cuts row [key] = 0) (hs : stays mk (t ++ [row]) cuts key = true) : isDesign mk (t ++ [row]) (cuts ++ [key]) = true := by
  have ok := rowCode_zero h
  have hko := ok.row_keys key (List.mem_singleton.2 rfl)
  have hf := stays_law (row := row) ok.toDesignOk (rowCode_design h) hko
  rw [hs] at hf
  have hk := rowCode_isKey h
  have hks := ok.keys
  unfold isDesign
  rw [system_app ok, Bool.true_and, Bool.and_eq_true, Bool.and_eq_true]
  refine ⟨⟨?_, ?_⟩, hf⟩
  · rw [decide_eq_true_iff]; have := ok.eq; simp; omega
  · unfold areKeysB at *
    rw [List.all_append, hks]
    simp [hk]
/-- what is told of an extension -/
theorem issued_facts {mk : MK} {t cuts : List (List Int)} {row key : List Int} : (canIssue mk t cuts row key).1 = decide ((extendSys mk t cuts row key).2.2 = 0) ∧ ((extendSys mk t cuts row key).2.2 = 0 → extendSys mk t cuts row key = ((mk, t ++ [row]), (cuts ++ [key], 0)) ∧ isDesign mk (t ++ [row]) (cuts ++ [key]) = true) := by
  by_cases hr : rowCode mk t cuts row [key] = 0
  · cases hs : stays mk (t ++ [row]) cuts key with
    | true =>
      rw [extend_ok hr hs, canIssue_ok hr, hs]
      exact ⟨rfl, fun _ => ⟨rfl, design_app hr hs⟩⟩
    | false =>
      rw [extend_state hr hs, canIssue_ok hr, hs]
      exact ⟨rfl, fun h => by cases h⟩
  · rw [extend_bad hr, canIssue_bad hr]
    exact ⟨(decide_eq_false hr).symm, fun h => absurd h hr⟩
end Go.Proofs.YtegmognpofcfiaaGreat
