/- Proved: the best design of a search (plain). -/
import Derived.Test.YthgmojggpjnckaaGreatUSearchV
import Derived.Test.YthgmojggpjnckaaGreatUPkF2
import Derived.Test.YthgmojggpjnckaaGreatUPkWa
namespace Go.Proofs.YthgmojggpjnckaaGreat
open Go.ChangeShapes Go.WideShapes Go.ChangeAt Go.RowKit
set_option linter.unusedVariables false

def bestStep (f : List (List Int) → Int) (s : Option (List (List Int))) (x : List (List Int)) : Option (List (List Int)) := match s with
  | none => some x
  | some b => if f x < f b then some x else some b
def bestL (f : List (List Int) → Int) (L : List (List (List Int))) : Option (List (List Int)) := L.foldl (bestStep f) none
/-- all designs within the limit -/
def allS (mk : MK) (t : List (List Int)) (limit : Int) : SS := searchS mk t limit 1000000
def bestD (mk : MK) (t : List (List Int)) (limit : Int) : List (List Int) × Int :=
  if searchC mk t limit ≠ 0 then ([], searchC mk t limit) else if (allS mk t limit).over = true then ([], 3) else match bestL (sysWafers mk t) (allS mk t limit).found with
    | none => ([], 4)
    | some b => (b, 0)
theorem bestD_bad {mk : MK} {t : List (List Int)} {limit : Int} (h : searchC mk t limit ≠ 0) : bestD mk t limit = ([], searchC mk t limit) := by unfold bestD; rw [if_pos h]
theorem bestD_over {mk : MK} {t : List (List Int)} {limit : Int} (h : searchC mk t limit = 0) (h1 : (allS mk t limit).over = true) : bestD mk t limit = ([], 3) := by unfold bestD; rw [if_neg (by omega), if_pos h1]
theorem bestD_none {mk : MK} {t : List (List Int)} {limit : Int} (h : searchC mk t limit = 0) (h1 : (allS mk t limit).over = false) (h2 : bestL (sysWafers mk t) (allS mk t limit).found = none) : bestD mk t limit = ([], 4) := by unfold bestD; rw [if_neg (by omega), if_neg (by rw [h1]; decide), h2]
theorem bestD_some {mk : MK} {t : List (List Int)} {limit : Int} {b : List (List Int)} (h : searchC mk t limit = 0) (h1 : (allS mk t limit).over = false) (h2 : bestL (sysWafers mk t) (allS mk t limit).found = some b) : bestD mk t limit = (b, 0) := by unfold bestD; rw [if_neg (by omega), if_neg (by rw [h1]; decide), h2]
theorem bestFold_mem {f : List (List Int) → Int} : ∀ (L : List (List (List Int))) (s : Option (List (List Int))) {b : List (List Int)}, L.foldl (bestStep f) s = some b → s = some b ∨ b ∈ L
  | [], s, b, h => .inl h
  | x :: L, s, b, h => by
    rcases bestFold_mem L (bestStep f s x) h with q | q
    · cases s with
      | none => injection q with q; exact .inr (q ▸ List.mem_cons_self ..)
      | some c =>
        unfold bestStep at q
        simp only at q
        split at q
        · injection q with q; exact .inr (q ▸ List.mem_cons_self ..)
        · exact .inl q
    · exact .inr (List.mem_cons_of_mem _ q)
theorem bestL_mem {f : List (List Int) → Int} {L : List (List (List Int))} {b : List (List Int)} (h : bestL f L = some b) : b ∈ L := by
  rcases bestFold_mem L none h with q | q
  · cases q
  · exact q
theorem bestFold_some {f : List (List Int) → Int} : ∀ (L : List (List (List Int))) (b : List (List Int)), ∃ c, L.foldl (bestStep f) (some b) = some c
  | [], b => ⟨b, rfl⟩
  | x :: L, b => by
    show ∃ c, L.foldl (bestStep f) (bestStep f (some b) x) = some c
    unfold bestStep
    simp only
    split
    · exact bestFold_some L x
    · exact bestFold_some L b
/-- the program's search from the start goes hand in hand with the reference's -/
theorem search_sim {σ : Type} {mk : MK} {t : List (List Int)} {limit most : Int} (h : isSystem mk t = true) (hl : 0 ≤ limit) {step : σ → List (List Int) → σ} {more : σ → List (List Int) → Bool} {v0 : σ} (hm : ∀ (fs : List (List (List Int))) (x : List (List Int)), (fs.length : Int) < limit → more (fs.foldl step v0) x = !decide (most ≤ ((fs.length + 1 : Nat) : Int))) :
    Sim step v0 (searchS mk t limit most) (goV mk t limit step more t.length [] ⟨0, false, v0⟩).2 :=
  (go_sim (sys_mkOk h) (sysOk h) hm t.length [] ⟨0, false, []⟩ ⟨0, false, v0⟩ (by simp) (by simp) (by rw [faults_zero]; intro k hk; simp at hk) (Int.le_refl _) hl (by simp) (by
    have := (sysOk h).len
    rw [if_neg (by omega)]; simp) ⟨rfl, rfl, rfl⟩).1
theorem all_sim {σ : Type} {mk : MK} {t : List (List Int)} {limit : Int} (h : searchC mk t limit = 0) {step : σ → List (List Int) → σ} {v0 : σ} :
    Sim step v0 (allS mk t limit) (goV mk t limit step (fun _ _ => true) t.length [] ⟨0, false, v0⟩).2 := by
  obtain ⟨h1, h2, h3⟩ := searchC_zero h
  exact search_sim h1 h2 (fun fs x hx => by rw [decide_eq_false (by omega)]; rfl)
theorem goods_part {mk : MK} {t x : List (List Int)} (h : isSystem mk t = true) (g : Goods mk t x) : PartOk mk t x := ⟨sysOk h, by have := g.len; omega, g.key⟩
end Go.Proofs.YthgmojggpjnckaaGreat
