/- Proved: doors with equal locks have the same ghosts, and the cheapest door has the fewest wafers (plain). -/
import Derived.Test.YthgmojggpjnckaaGreatUPkF4
import Derived.Test.YthgmojggpjnckaaGreatUCheapDoor
import Derived.Test.YthgmojggpjnckaaGreatUGhostLaw
import Derived.Test.YthgmojggpjnckaaGreatULocksOf
import Derived.Test.YthgmojggpjnckaaGreatULockOk
namespace Go.Proofs.YthgmojggpjnckaaGreat
open Go.ChangeShapes Go.WideShapes Go.ChangeAt Go.RowKit
set_option linter.unusedVariables false

theorem design_sysCode {mk : MK} {t cuts : List (List Int)} (h : designCode mk t cuts = 0) : sysCode mk t cuts = 0 := by
  have ok := designCode_zero h
  rw [sysCode_key ok.sys ok.eq, if_pos ok.keys]
theorem firstSame_lt {ls : List (List (List Int))} {k : Nat} (hk : k < ls.length) : firstSame ls k < ls.length ∧ ls.getD (firstSame ls k) [] = ls.getD k [] := by
  have ha : (ls.any fun l => decide (ls.getD k [] = l)) = true := by
    rw [List.any_eq_true]
    exact ⟨ls[k], List.getElem_mem hk, decide_eq_true (by simp [hk])⟩
  have h1 := firstIdx_any (fun l => decide (ls.getD k [] = l)) ls
  rw [ha] at h1
  have h2 := of_decide_eq_true h1
  refine ⟨h2, ?_⟩
  have key : ∀ (p : List (List Int) → Bool) (l : List (List (List Int))) (h : firstIdx p l < l.length), p l[firstIdx p l] = true := by
    intro p l
    induction l with
    | nil => intro h; simp at h
    | cons x l ih =>
      intro h
      by_cases hx : p x = true
      · simp only [firstIdx, hx, if_true, List.getElem_cons_zero]
      · have e : firstIdx p (x :: l) = firstIdx p l + 1 := by simp only [firstIdx, hx]; rfl
        have hl : firstIdx p l < l.length := by rw [e, List.length_cons] at h; omega
        have := ih hl
        simp only [e, List.getElem_cons_succ]
        exact this
  have h3 := of_decide_eq_true (key _ ls h2)
  have e : ls.getD (firstSame ls k) [] = ls[firstIdx (fun l => decide (ls.getD k [] = l)) ls] := by
    unfold firstSame
    rw [List.getD_eq_getElem?_getD, List.getElem?_eq_getElem h2]; rfl
  rw [e, ← h3]
/-- what the law on doors tells -/
structure DoorsF (mk : MK) (ls : List (List (List Int))) (h gs : List Int) (n c : Nat) : Prop where
  n12 : 1 ≤ n ∧ n ≤ 12
  ll : ls.length = n
  hl : h.length = n
  gl : gs.length = n
  clt : c < n
  same : ∀ k, k < n → ∃ m : Nat, m < n ∧ h.getD k 0 = (m : Int) ∧ ls.getD k [] = ls.getD m [] ∧ gs.getD k 0 = gs.getD m 0
  least : ∀ k, k < n → wafersB (ls.getD c []) ≤ wafersB (ls.getD k [])
  lock : ∀ k, k < n → LockOk mk (ls.getD k []) ∧ LockB (ls.getD k [])
theorem doors_facts {mk : MK} {t cuts : List (List Int)} {h : List Int} {c bad : Int} {one : Int} (hs : sharedOf mk t cuts = (h, bad)) (hc : cheapDoor mk t cuts = (c, one)) (h0 : bad = 0) :
    ∃ (ls : List (List (List Int))) (gs : List Int) (n cn : Nat), c = (cn : Int) ∧ locksOf mk t cuts = (ls, 0) ∧ ghostTab mk t cuts = (gs, 0) ∧ DoorsF mk ls h gs n cn := by
  subst h0
  have hd : designCode mk t cuts = 0 := by
    by_cases hd : designCode mk t cuts = 0
    · exact hd
    · rw [sharedOf_bad hd] at hs; exact absurd (congrArg Prod.snd hs) hd
  have ok := designCode_zero hd
  have hll := locks_len mk t cuts
  have hdr := ok.doors
  rw [sharedOf_ok hd] at hs
  rw [cheapDoor_ok hd] at hc
  injection hs with hs1 _
  injection hc with hc1 _
  subst hs1; subst hc1
  refine ⟨locks mk t cuts, ghosts mk t cuts, doorsOf t, _, rfl, locksOf_ok (design_sysCode hd), ghostTab_ok hd, hdr, hll, sharedB_len _ _, ghosts_len _ _ _, cheapTo_lt (by omega), fun k hk => ?_, fun k hk => ?_, fun k hk => ⟨design_lock ok hk, lockB ok.toPartOk.toSysOk hk⟩⟩
  · have hk2 : k < (locks mk t cuts).length := by rw [hll]; exact hk
    obtain ⟨h1, h2⟩ := firstSame_lt hk2
    rw [hll] at h1
    refine ⟨firstSame (locks mk t cuts) k, h1, by simp [sharedB, hk], h2.symm, ?_⟩
    rw [ghosts_at hk, ghosts_at h1, h2]
  · exact cheapTo_least (f := fun d => wafersB ((locks mk t cuts).getD d [])) hk
end Go.Proofs.YthgmojggpjnckaaGreat
