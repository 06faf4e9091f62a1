/- Proved: a region that draws its order, by what holds after each of its operations. -/
import Derived.RegionTactic
import Derived.Test.YtaogpbhgoeepbaaUExt
namespace Go.Proofs.Ytaogpbhgoeepbaa
open Go.ChangeShapes Go.WideShapes Go.ChangeAt Go.RowKit
set_option linter.unusedVariables false

section
variable {P : Program} {ops : Array Oper} {Q : Exit → Act → World → Prop} {md : Region.Mode}
def unlisted (n : Nat) (listed : Array Bool) : Nat := (List.range n).countP fun j => !listed.getD j true
theorem countP_drop {p q : Nat → Bool} {l : List Nat} {i : Nat} (hi : i ∈ l) (hp : p i = true) (hq : q i = false) (h : ∀ j, q j = true → p j = true) : l.countP q < l.countP p := by
  induction l with
  | nil => simp at hi
  | cons a l ih =>
    rw [List.countP_cons, List.countP_cons]
    rcases List.mem_cons.1 hi with e | hi'
    · subst e
      rw [hp, hq]
      have := List.countP_mono_left (l := l) (fun j _ hj => h j hj)
      simp only [if_true, Bool.false_eq_true, if_false]; omega
    · have := ih hi'
      cases hqa : q a with
      | true => rw [h a hqa]; simp only [if_true]; omega
      | false => simp only [Bool.false_eq_true, if_false]; split <;> omega
theorem wpAny_inv (I : Array Bool → Act → World → Prop) (hsz : ∀ listed a w, I listed a w → listed.size = ops.size)
    (step : ∀ listed a w, I listed a w → ∀ i ∈ Region.ready md ops listed, wpOp P ops Q i (I (listed.setIfInBounds i true)) a w)
    (done : ∀ listed a w, I listed a w → Region.ready md ops listed = [] → Q .normal a w) :
    ∀ fuel listed a w, I listed a w → unlisted ops.size listed ≤ fuel → wpAny P md ops Q fuel listed a w := by
  intro fuel
  induction fuel with
  | zero =>
    intro listed a w h hf
    have hr : Region.ready md ops listed = [] := by
      rw [List.eq_nil_iff_forall_not_mem]
      intro j hj
      obtain ⟨h0, o, ho, -⟩ := mem_ready.1 hj
      have hlt : j < ops.size := (Array.getElem?_eq_some_iff.1 ho).1
      have : 0 < unlisted ops.size listed := List.countP_pos_iff.2 ⟨j, List.mem_range.2 hlt, by rw [h0]; rfl⟩
      omega
    exact ⟨hr, done listed a w h hr⟩
  | succ fuel ih =>
    intro listed a w h hf
    refine ⟨fun hr => done listed a w h hr, fun i hi => ?_⟩
    refine wpOp_mono (fun a' w' h' => ih _ a' w' h' ?_) (step listed a w h i hi)
    obtain ⟨h0, o, ho, -⟩ := mem_ready.1 hi
    have hlt : i < ops.size := (Array.getElem?_eq_some_iff.1 ho).1
    have hls := hsz listed a w h
    have : unlisted ops.size (listed.setIfInBounds i true) < unlisted ops.size listed := by
      refine countP_drop (List.mem_range.2 hlt) (by rw [h0]; rfl) ?_ (fun j hj => ?_)
      · rw [Array.getD_eq_getD_getElem?, Array.getElem?_setIfInBounds, if_pos rfl, if_pos (by omega)]; rfl
      · by_cases e : i = j
        · subst e
          rw [Array.getD_eq_getD_getElem?, Array.getElem?_setIfInBounds, if_pos rfl, if_pos (by omega)] at hj
          cases hj
        · rw [getD_set_ne true e] at hj; exact hj
    omega
end
/-- operation j has been done -/
def Lst (listed : Array Bool) (j : Nat) : Prop := listed.getD j false = true
theorem Lst.set {listed : Array Bool} {i j : Nat} (h : Lst (listed.setIfInBounds i true) j) : i = j ∨ Lst listed j := by
  by_cases e : i = j
  · exact .inl e
  · right; unfold Lst at *; rw [getD_set_ne false e] at h; exact h
theorem lst_dep {md : Region.Mode} {ops : Array Oper} {listed : Array Bool} {i : Nat} {o : Oper} (hi : i ∈ Region.ready md ops listed) (ho : ops[i]? = some o) {j : Nat} {g : Ground} (he : (⟨j, g⟩ : Edge) ∈ o.after) (hb : Region.binds md ⟨j, g⟩ = true) : Lst listed j := by
  obtain ⟨-, o', ho', ha⟩ := mem_ready.1 hi
  rw [ho] at ho'; injection ho' with ho'; subst ho'
  exact ha _ he hb
theorem not_lst {md : Region.Mode} {ops : Array Oper} {listed : Array Bool} {i : Nat} (hi : i ∈ Region.ready md ops listed) : ¬ Lst listed i := fun h => by
  obtain ⟨h0, -⟩ := mem_ready.1 hi
  unfold Lst at h
  rw [Array.getD_eq_getD_getElem?] at h h0
  cases e : listed[i]? with
  | none => rw [e] at h0; cases h0
  | some b => rw [e] at h h0; simp only [Option.getD_some] at h h0; rw [h0] at h; cases h
theorem lst_all {md : Region.Mode} {ops : Array Oper} {listed : Array Bool} (hsz : listed.size = ops.size) (hr : Region.ready md ops listed = []) {i : Nat} {o : Oper} (ho : ops[i]? = some o) (ha : ∀ e ∈ o.after, Region.binds md e = true → Lst listed e.on) : Lst listed i := by
  by_cases h : Lst listed i
  · exact h
  · exfalso
    have : i ∈ Region.ready md ops listed := by
      refine mem_ready.2 ⟨?_, o, ho, ha⟩
      have hlt : i < listed.size := by rw [hsz]; exact (Array.getElem?_eq_some_iff.1 ho).1
      unfold Lst at h
      rw [Array.getD_eq_getD_getElem?, Array.getElem?_eq_getElem hlt] at h ⊢
      simp only [Option.getD_some] at h ⊢
      simpa using h
    rw [hr] at this
    simp at this
end Go.Proofs.Ytaogpbhgoeepbaa
