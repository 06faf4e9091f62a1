/- Proved: the program's visit of the keys that are not cut. -/
import Derived.Test.YthgmojggpjnckaaGreatChecked
import Derived.Deep.RegionHeld3
import Derived.Laws.EntriesVeiled
import Derived.Test.YthgmojggpjnckaaGreatUGhostImpl
import Derived.Test.YthgmojggpjnckaaGreatUPkC
namespace Go.Proofs.YthgmojggpjnckaaGreat
open Go.ChangeShapes Go.WideShapes Go.ChangeAt Go.RowKit
set_option linter.unusedVariables false

theorem opened_in {ls : List (List (List Int))} {key : List Int} {n : Nat} : ∀ k, k < (openedB ls key n).length → 0 ≤ (openedB ls key n).getD k 0 ∧ (openedB ls key n).getD k 0 < n := fun k hk => by
  have e : (openedB ls key n).getD k 0 = (openedB ls key n)[k] := by simp [hk]
  rw [e]
  have := upto_mem.1 (List.getElem_mem hk)
  exact ⟨this.1, this.2.1⟩

set_option maxRecDepth 20000 in
set_option maxHeartbeats 2000000 in
theorem outsider1_c {b g n : Nat} {F : Nat → Prop} {s : List Int} {ls : List (List (List Int))} {cuts : List (List Int)} (w : World) (hI : GAt b g n F s w) (hn : ls.length = n) (h12 : n ≤ 12)
    {b4 b5 b6 : Nat} {u vl : Value} {y zl : Zone} (hc : RowsR y w u cuts) (hL : LocksR zl w vl ls) (c4 : w.cell? ⟨b4, 0, none⟩ = some u) (c5 : w.cell? ⟨b5, 0, none⟩ = some (.func (.func 96) #[] #[.pointer (some ⟨b, 0, none⟩)])) (c6 : w.cell? ⟨b6, 0, none⟩ = some vl)
    (n4 : ¬ F b4) (n5 : ¬ F b5) (n6 : ¬ F b6) (v : Value) (z : Zone) (key : List Int) (hk : IntsR z w v key) (hlk : ∀ d, d < ls.length → (ls.getD d []).length = key.length) :
    Calls Tryz.prog 128 #[v, .pointer (some ⟨b4, 0, none⟩), .pointer (some ⟨b5, 0, none⟩), .pointer (some ⟨b6, 0, none⟩)] w (fun e w' => e = .returned (.bool true) ∧ GAt b g n F (if (!hasL cuts key) = true then ghostStep ls s key else s) w' ∧ Frame F w w') := by
  have hGo := Tryz.goesGhost1
  unfold Goes at hGo
  have HCo := Lib.hid (fun (w' : World) (e : Ext w w') => contains_c w' u y cuts (stable_rows.ext hc e) v z key (stable_ints.ext hk e))
  have HDo : Hid (∀ (w' : World), Ext w w' → Calls Tryz.prog 129 #[vl, v] w' (Ret w' fun r w'' => ∃ ds, ds = openedB ls key ls.length ∧ IntsR ⟨w'.heap.size, w''.heap.size, true⟩ w'' r ds)) := fun w' e => by
    refine (doorsOpened_c w' vl zl ls (stable_locks.ext hL e) v z key (stable_ints.ext hk e) (by omega) hlk).mono ?_
    rintro e' w'' hr
    obtain ⟨r, rfl, ho, ee⟩ := ret_ext hr
    exact ⟨r, rfl, ⟨_, rfl, OwnP.ints ho (opened_i64 (by omega)) (Nat.le_refl _)⟩, ee⟩
  have HG := Lib.hid (fun (w1 w2 : World) (e1 : Ext w w1) (e2 : Ext w1 w2) (r : Value) (ds : List Int) (hds : ds = openedB ls key ls.length) (hr : IntsR ⟨w1.heap.size, w2.heap.size, true⟩ w2 r ds) =>
    ghost1_c w2 v r _ ds (hI.keep (fun k hk => Below.block (e1.trans e2) k (hI.lt k hk)) (e1.trans e2).size) hr (fun k hk hF => by have h1 := hI.lt k hF; have h2 := hk.1; have h3 := e1.size; simp only at h2; omega) (by rw [hds, ← hn]; exact opened_in))
  have HSt : Hid (∀ ds, ds = openedB ls key ls.length → bumps s ds ds.length = ghostStep ls s key) := fun ds h => by rw [h]; rfl
  have HI := Lib.hid (fun (w' : World) (e : Ext w w') => hI.keep (fun k hk => Below.block e k (hI.lt k hk)) e.size)
  have HCel : Hid (∀ w', Frame F w w' → w'.cell? ⟨b4, 0, none⟩ = some u ∧ w'.cell? ⟨b5, 0, none⟩ = some (.func (.func 96) #[] #[.pointer (some ⟨b, 0, none⟩)]) ∧ w'.cell? ⟨b6, 0, none⟩ = some vl) := fun w' f => ⟨f.cell n4 c4, f.cell n5 c5, f.cell n6 c6⟩
  generalize ghostStep ls s key = st at *
  generalize hasL cuts key = q at *
  obtain ⟨a4, m4, k4, rfl, -⟩ := SliceR.shape hc
  obtain ⟨la, ln, lc, rfl, -⟩ := SliceR.shape hL
  obtain ⟨a0, m0, k0, rfl, -⟩ := SliceR.shape hk
  clear hI hc hL hk hlk n4 n5 n6 hn h12
  go_enter Tryz.func128, Tryz.ntmps128
  go_wp2_with fail
  cases q with
  | true =>
    refine wp_region_noPanic ?_
    refine wp_region_held_drew (S := (fun w' => w'.cell? ⟨b4, 0, none⟩ = some (.slice a4 m4 k4) ∧ w'.cell? ⟨b5, 0, none⟩ = some (.func (.func 96) #[] #[.pointer (some ⟨b, 0, none⟩)]) ∧ w'.cell? ⟨b6, 0, none⟩ = some (.slice la ln lc))) (by kernel_rfl) (HCel.out _ (Frame.of_ext (Ext.drew _))) (fun hHeld => ?_)
    (refine take_at 0 6 (v := ?_) rfl rfl (by kernel_rfl) (by kernel_rfl) (by kernel_rfl) (fun _ _ _ h => h) (by rfl) ?_ (by assumption) ?_; rotate_left; focus (intro w999 hSw; (try dsimp only at hSw); go_simp <;> with_reducible rfl); (try simp only [Act.put, List.setIfInBounds_toArray, List.set_cons_zero, List.set_cons_succ]))
    (refine take_at 1 7 (v := ?_) rfl rfl (by kernel_rfl) (by kernel_rfl) (by kernel_rfl) (fun _ _ _ h => h) (by rfl) ?_ (by assumption) ?_; rotate_left; focus (intro w999 hSw; (try dsimp only at hSw); go_simp <;> with_reducible rfl); (try simp only [Act.put, List.setIfInBounds_toArray, List.set_cons_zero, List.set_cons_succ]))
    (refine wpAnyH_ready (rs := [2]) (by kernel_rfl) (by simp) ?_; refine AllReadyH.cons rfl (fun K hK => ?_) AllReadyH.nil; go_simp)
    refine (HCo.out _ (Ext.drew _)).mono ?_
    rintro e w1 hr
    obtain ⟨r, rfl, rfl, e1⟩ := ret_ext hr
    have e01 : Ext w w1 := (Ext.drew w).trans e1
    clear hr
    (refine hK.out _ _ ?_ (fun hHeld => ?_))
    · exact HCel.out _ (Frame.of_ext e01)
    (clear hK K; try simp only [Act.put, List.setIfInBounds_toArray, List.set_cons_zero, List.set_cons_succ])
    (refine take_at 3 9 (v := ?_) rfl rfl (by kernel_rfl) (by kernel_rfl) (by kernel_rfl) (fun _ _ _ h => h) (by rfl) ?_ (by assumption) ?_; rotate_left; focus (intro w999 hSw; (try dsimp only at hSw); go_simp <;> with_reducible rfl); (try simp only [Act.put, List.setIfInBounds_toArray, List.set_cons_zero, List.set_cons_succ]))
    (refine skip_at 4 10 rfl rfl (by kernel_rfl) (by kernel_rfl) (by kernel_rfl) (fun _ _ _ h => h) (by rfl) (by assumption) ?_; (try simp only [Act.put, List.setIfInBounds_toArray, List.set_cons_zero, List.set_cons_succ]))
    (refine skip_at 5 11 rfl rfl (by kernel_rfl) (by kernel_rfl) (by kernel_rfl) (fun _ _ _ h => h) (by rfl) (by assumption) ?_; (try simp only [Act.put, List.setIfInBounds_toArray, List.set_cons_zero, List.set_cons_succ]))
    (refine skip_at 6 12 rfl rfl (by kernel_rfl) (by kernel_rfl) (by kernel_rfl) (fun _ _ _ h => h) (by rfl) (by assumption) ?_; (try simp only [Act.put, List.setIfInBounds_toArray, List.set_cons_zero, List.set_cons_succ]))
    (refine skip_at 7 13 rfl rfl (by kernel_rfl) (by kernel_rfl) (by kernel_rfl) (fun _ _ _ h => h) (by rfl) (by assumption) ?_; (try simp only [Act.put, List.setIfInBounds_toArray, List.set_cons_zero, List.set_cons_succ]))
    (refine skip_at 8 14 rfl rfl (by kernel_rfl) (by kernel_rfl) (by kernel_rfl) (fun _ _ _ h => h) (by rfl) (by assumption) ?_; (try simp only [Act.put, List.setIfInBounds_toArray, List.set_cons_zero, List.set_cons_succ]))
    (refine skip_at 9 15 rfl rfl (by kernel_rfl) (by kernel_rfl) (by kernel_rfl) (fun _ _ _ h => h) (by rfl) (by assumption) ?_; (try simp only [Act.put, List.setIfInBounds_toArray, List.set_cons_zero, List.set_cons_succ]))
    (refine take_at 10 16 (v := ?_) rfl rfl (by kernel_rfl) (by kernel_rfl) (by kernel_rfl) (fun _ _ _ h => h) (by rfl) ?_ (by assumption) ?_; rotate_left; focus (intro w999 hSw; (try dsimp only at hSw); go_simp <;> with_reducible rfl); (try simp only [Act.put, List.setIfInBounds_toArray, List.set_cons_zero, List.set_cons_succ]))
    (refine take_at 11 5 (v := ?_) rfl rfl (by kernel_rfl) (by kernel_rfl) (by kernel_rfl) (fun _ _ _ h => h) (by rfl) ?_ (by assumption) ?_; rotate_left; focus (intro w999 hSw; (try dsimp only at hSw); go_simp <;> with_reducible rfl); (try simp only [Act.put, List.setIfInBounds_toArray, List.set_cons_zero, List.set_cons_succ]))
    refine wpAnyH_done (by kernel_rfl) ?_ _
    refine NoPanic.normal ?_
    go_wp2_with fail
    go_ret
    exact ⟨rfl, HI.out _ e01, Frame.of_ext e01⟩
  | false =>
    refine wp_region_noPanic ?_
    refine wp_region_held_drew (S := (fun w' => w'.cell? ⟨b4, 0, none⟩ = some (.slice a4 m4 k4) ∧ w'.cell? ⟨b5, 0, none⟩ = some (.func (.func 96) #[] #[.pointer (some ⟨b, 0, none⟩)]) ∧ w'.cell? ⟨b6, 0, none⟩ = some (.slice la ln lc))) (by kernel_rfl) (HCel.out _ (Frame.of_ext (Ext.drew _))) (fun hHeld => ?_)
    (refine take_at 0 6 (v := ?_) rfl rfl (by kernel_rfl) (by kernel_rfl) (by kernel_rfl) (fun _ _ _ h => h) (by rfl) ?_ (by assumption) ?_; rotate_left; focus (intro w999 hSw; (try dsimp only at hSw); go_simp <;> with_reducible rfl); (try simp only [Act.put, List.setIfInBounds_toArray, List.set_cons_zero, List.set_cons_succ]))
    (refine take_at 1 7 (v := ?_) rfl rfl (by kernel_rfl) (by kernel_rfl) (by kernel_rfl) (fun _ _ _ h => h) (by rfl) ?_ (by assumption) ?_; rotate_left; focus (intro w999 hSw; (try dsimp only at hSw); go_simp <;> with_reducible rfl); (try simp only [Act.put, List.setIfInBounds_toArray, List.set_cons_zero, List.set_cons_succ]))
    (refine wpAnyH_ready (rs := [2]) (by kernel_rfl) (by simp) ?_; refine AllReadyH.cons rfl (fun K hK => ?_) AllReadyH.nil; go_simp)
    refine (HCo.out _ (Ext.drew _)).mono ?_
    rintro e w1 hr
    obtain ⟨r, rfl, rfl, e1⟩ := ret_ext hr
    have e01 : Ext w w1 := (Ext.drew w).trans e1
    clear hr
    (refine hK.out _ _ ?_ (fun hHeld => ?_))
    · exact HCel.out _ (Frame.of_ext e01)
    (clear hK K; try simp only [Act.put, List.setIfInBounds_toArray, List.set_cons_zero, List.set_cons_succ])
    (refine take_at 3 9 (v := ?_) rfl rfl (by kernel_rfl) (by kernel_rfl) (by kernel_rfl) (fun _ _ _ h => h) (by rfl) ?_ (by assumption) ?_; rotate_left; focus (intro w999 hSw; (try dsimp only at hSw); go_simp <;> with_reducible rfl); (try simp only [Act.put, List.setIfInBounds_toArray, List.set_cons_zero, List.set_cons_succ]))
    (refine take_at 4 10 (v := ?_) rfl rfl (by kernel_rfl) (by kernel_rfl) (by kernel_rfl) (fun _ _ _ h => h) (by rfl) ?_ (by assumption) ?_; rotate_left; focus (intro w999 hSw; (try dsimp only at hSw); go_simp <;> with_reducible rfl); (try simp only [Act.put, List.setIfInBounds_toArray, List.set_cons_zero, List.set_cons_succ]))
    (refine take_at 5 11 (v := ?_) rfl rfl (by kernel_rfl) (by kernel_rfl) (by kernel_rfl) (fun _ _ _ h => h) (by rfl) ?_ (by assumption) ?_; rotate_left; focus (intro w999 hSw; (try dsimp only at hSw); go_simp <;> with_reducible rfl); (try simp only [Act.put, List.setIfInBounds_toArray, List.set_cons_zero, List.set_cons_succ]))
    (refine take_at 6 12 (v := ?_) rfl rfl (by kernel_rfl) (by kernel_rfl) (by kernel_rfl) (fun _ _ _ h => h) (by rfl) ?_ (by assumption) ?_; rotate_left; focus (intro w999 hSw; (try dsimp only at hSw); go_simp <;> with_reducible rfl); (try simp only [Act.put, List.setIfInBounds_toArray, List.set_cons_zero, List.set_cons_succ]))
    (refine take_at 7 13 (v := ?_) rfl rfl (by kernel_rfl) (by kernel_rfl) (by kernel_rfl) (fun _ _ _ h => h) (by rfl) ?_ (by assumption) ?_; rotate_left; focus (intro w999 hSw; (try dsimp only at hSw); go_simp <;> with_reducible rfl); (try simp only [Act.put, List.setIfInBounds_toArray, List.set_cons_zero, List.set_cons_succ]))
    (refine wpAnyH_ready (rs := [8]) (by kernel_rfl) (by simp) ?_; refine AllReadyH.cons rfl (fun K hK => ?_) AllReadyH.nil; go_simp)
    refine (HDo.out _ e01).mono ?_
    rintro e w2 hr
    obtain ⟨r, rfl, ⟨ds, hds, hr2⟩, e2⟩ := ret_ext hr
    clear hr
    have hcall := HG.out w1 w2 e01 e2 r ds hds hr2
    obtain ⟨ra, rn, rc, rfl, -⟩ := SliceR.shape hr2
    have HStd := Lib.hid (HSt.out ds hds)
    have e02 := e01.trans e2
    clear hds hr2
    (refine hK.out _ _ ?_ (fun hHeld => ?_))
    · exact HCel.out _ (Frame.of_ext e02)
    (clear hK K; try simp only [Act.put, List.setIfInBounds_toArray, List.set_cons_zero, List.set_cons_succ])
    (refine wpAnyH_ready (rs := [9]) (by kernel_rfl) (by simp) ?_; refine AllReadyH.cons rfl (fun K hK => ?_) AllReadyH.nil; go_simp)
    refine hcall.mono ?_
    rintro e w3 ⟨rfl, hG3, hF3⟩
    have hf := Frame.trans (Frame.of_ext (F := F) e02) hF3 (fun i hi _ => hi)
    rw [HStd.out] at hG3
    have HEnd : Hid (GAt b g n F st w3 ∧ Frame F w w3) := ⟨hG3, hf⟩
    clear hG3 hF3 hcall
    (refine hK.out _ _ ?_ (fun hHeld => ?_))
    · exact HCel.out _ hf
    (clear hK K; try simp only [Act.put, List.setIfInBounds_toArray, List.set_cons_zero, List.set_cons_succ])
    (refine take_at 10 16 (v := ?_) rfl rfl (by kernel_rfl) (by kernel_rfl) (by kernel_rfl) (fun _ _ _ h => h) (by rfl) ?_ (by assumption) ?_; rotate_left; focus (intro w999 hSw; (try dsimp only at hSw); go_simp <;> with_reducible rfl); (try simp only [Act.put, List.setIfInBounds_toArray, List.set_cons_zero, List.set_cons_succ]))
    (refine take_at 11 5 (v := ?_) rfl rfl (by kernel_rfl) (by kernel_rfl) (by kernel_rfl) (fun _ _ _ h => h) (by rfl) ?_ (by assumption) ?_; rotate_left; focus (intro w999 hSw; (try dsimp only at hSw); go_simp <;> with_reducible rfl); (try simp only [Act.put, List.setIfInBounds_toArray, List.set_cons_zero, List.set_cons_succ]))
    refine wpAnyH_done (by kernel_rfl) ?_ _
    refine NoPanic.normal ?_
    go_wp2_with fail
    go_ret
    exact ⟨rfl, HEnd.out.1, HEnd.out.2⟩
end Go.Proofs.YthgmojggpjnckaaGreat
