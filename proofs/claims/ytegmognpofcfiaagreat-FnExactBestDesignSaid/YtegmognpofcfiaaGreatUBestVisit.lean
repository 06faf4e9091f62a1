/- Proved: the best design so far: the closure that BestDesign gives to the search. -/
import Derived.Test.YtegmognpofcfiaaGreatChecked
import Derived.Test.YtegmognpofcfiaaGreatUBestAt
import Derived.Test.YtegmognpofcfiaaGreatUWafers
namespace Go.Proofs.YtegmognpofcfiaaGreat
open Go.ChangeShapes Go.WideShapes Go.ChangeAt Go.RowKit
set_option linter.unusedVariables false

theorem Tryz.goesBestDesign1 : Goes Tryz.prog 152 := goes_of Tryz.func152 (by kernel_rfl) (by kernel_rfl)

set_option maxRecDepth 20000 in
set_option maxHeartbeats 2000000 in
theorem best1_c {bs bb bl : Nat} {F : Nat → Prop} {s : Option (List (List Int))} {mk : MK} {t : List (List Int)} (w : World) (v : Value) (z : Zone) (x : List (List Int)) (hI : BestInv (sysWafers mk t) bb bl F s w) (hx : RowsR z w v x) (hp : PartOk mk t x) (h1 : 1 ≤ x.length)
    {vt : Value} {zt : Zone} (hT : RowsR zt w vt t) (hS : SysAt w bs mk vt) :
    Calls Tryz.prog 152 #[v, .pointer (some ⟨bs, 0, none⟩), .pointer (some ⟨bb, 0, none⟩), .pointer (some ⟨bl, 0, none⟩)] w (fun e w' => e = .returned (.bool true) ∧ ∃ F', BestInv (sysWafers mk t) bb bl F' (bestStep (sysWafers mk t) s x) w' ∧ (∀ k, F' k → F k ∨ w.heap.size ≤ k) ∧ Frame F w w') := by
  obtain ⟨lv, hB⟩ := hI
  have HW := Lib.hid (fun (w' : World) (e : Ext w w') => systemWafers_c w' mk vt zt t (stable_rows.ext hT e) v z x (stable_rows.ext hx e) hp)
  have HCl := Lib.hid (fun (w' : World) (e : Ext w w') => copyLists_c w' v z x (stable_rows.ext hx e) (by have := hp.le; have := hp.len; omega) (fun k hk => by
    have := (hp.key _ (List.getElem_mem hk)).len
    have e : x.getD k [] = x[k] := by simp [hk]
    have := hp.mk1
    rw [e]; omega))
  have HB := Lib.hid hB
  have hbound := sysWafers_bound (cuts := x) hp.toSysOk
  have HL : Hid (0 < x.length) := h1
  have HSet := Lib.hid (fun (w2 : World) (v8 : Value) (e : Ext w w2) (o : OwnR true w.heap.size IntsR 29 w.heap.size w2 v8 x) (hn : ∃ ad n c, v8 = .slice (some ad) n c) => HB.out.set e o hn)
  obtain ⟨c0, c1, c2, c3, c4, c5⟩ := hS
  obtain ⟨ax, nx, cx, rfl, -⟩ := SliceR.shape hx
  obtain ⟨at', nt, ct, rfl, -⟩ := SliceR.shape hT
  obtain ⟨ab, nb, cb, rfl, hnb, -⟩ := OwnA.shape hB.rows.own
  have hnil := hB.nil
  have hfull := hB.full
  have hne : bb ≠ bl := hB.rows.box.2
  clear hnb hB hx hT hp h1
  generalize sysWafers mk t = f at *
  unfold sysV at *
  go_enter Tryz.func152, Tryz.ntmps152
  go_wp2_with fail
  refine Calls.mono (HW.out w (Ext.refl _)) ?_
  rintro e w1 hr
  obtain ⟨r, rfl, rfl, e1⟩ := ret_ext hr
  clear hr
  have hB1 := HB.out.keep (fun k hk => Below.block e1 k (HB.out.lt k hk)) e1.size
  have HB1 := Lib.hid hB1
  have x1 := hB1.least
  have x2 := hB1.rows.cell
  clear hB1 c0 c1 c2 c3 c4 c5
  have hcall := HCl.out w1 e1
  have HN : Hid (∀ (w2 : World) (r : Value), OwnR true w1.heap.size IntsR 29 w1.heap.size w2 r x → ∃ ad n c, r = .slice (some ad) n c) := fun w2 r o => by
    obtain ⟨a, n, c, rfl, hn, -, -, -, hnone, -⟩ := SliceR.shape (OwnR.rows o)
    cases a with
    | none => have h0 := (hnone rfl).1; have h1 := HL.out; omega
    | some ad => exact ⟨ad, n, c, rfl⟩
  have HSt : Hid (∀ (w2 : World) (r : Value), Ext w1 w2 → OwnR true w1.heap.size IntsR 29 w1.heap.size w2 r x → BestAt f bb bl (fun k => F k ∨ (w.heap.size ≤ k ∧ k < w2.heap.size)) (some x) ((w2.setCell ⟨bb, 0, none⟩ r).setCell ⟨bl, 0, none⟩ (.int .i64 (f x))) r ∧ Frame F w ((w2.setCell ⟨bb, 0, none⟩ r).setCell ⟨bl, 0, none⟩ (.int .i64 (f x)))) := fun w2 r e o => by
    have o' : OwnR true w.heap.size IntsR 29 w.heap.size w2 r x := OwnA.raise (OwnA.weaken o (fun k _ h => Nat.le_trans e1.size h)) (fun k hk => Nat.le_trans e1.size (OwnR.block o k hk).1)
    exact HSet.out w2 r (e1.trans e) o' (HN.out w2 r o)
  clear HSet HN HW HCl
  by_cases hmin : ∀ b, s = some b → f x < f b
  · have HS : Hid (bestStep f s x = some x) := by
      show _ = _
      cases s with
      | none => rfl
      | some b => exact if_pos (hmin b rfl)
    have hcase : (ab = none ∧ nb = 0 ∧ cb = 0) ∨ ((∃ ad, ab = some ad) ∧ f x < leastD f s) := by
      cases s with
      | none => left; have h := hnil rfl; injection h with h1 h2 h3; exact ⟨h1, h2, h3⟩
      | some b => right; obtain ⟨ad, n, c, h⟩ := hfull b rfl; injection h with h1 h2 h3; exact ⟨⟨ad, h1⟩, hmin b rfl⟩
    generalize leastD f s = ls at *
    clear hnil hfull hmin
    rcases hcase with ⟨rfl, rfl, rfl⟩ | ⟨⟨ad, rfl⟩, hlt⟩
    focus
      have hq := fun (wq : World) => Lib.run_eql_slice_nil (P := Tryz.prog) wq 26 29 none 0 0 0 0 Tryz.underlying26
      go_wp2_with fail
    rotate_left
    focus
      have hq := fun (wq : World) => Lib.run_eql_slice_nil (P := Tryz.prog) wq 26 29 (some ad) nb cb 0 0 Tryz.underlying26
      have hf1 : decide (f x < ls) = true := decide_eq_true hlt
      go_wp2_with fail
    all_goals
      refine Calls.mono hcall ?_
      rintro e w2 hr
      obtain ⟨r, rfl, o2, e2⟩ := ret_ext hr
      clear hr hcall
      have HP := Lib.hid (HSt.out w2 r e2 o2)
      have hB2 := HB1.out.keep (fun k hk => Below.block e2 k (HB1.out.lt k hk)) e2.size
      have d1 := hB2.rows.cell
      have d2 := hB2.rows.free
      have d3 := hB2.least
      have d4 := hB2.lfree
      have d6 := Ne.symm hne
      obtain ⟨a8, n8, k8, rfl, -⟩ := OwnR.shape o2
      clear hB2 o2 x1 x2 HSt
      go_wp2_with fail
      go_ret
      exact ⟨rfl, fun k => F k ∨ (w.heap.size ≤ k ∧ k < w2.heap.size), ⟨_, by rw [HS.out]; exact HP.out.1⟩, fun k hk => Or.elim hk .inl (fun q => .inr q.1), HP.out.2⟩
  · have hmin' : ∃ b, s = some b ∧ ¬ f x < f b := by
      cases s with
      | none => exact absurd (fun b h => by cases h) hmin
      | some b => exact ⟨b, rfl, fun h => hmin (fun b' hb => by injection hb with hb; subst hb; exact h)⟩
    obtain ⟨b, rfl, hb⟩ := hmin'
    have HS : Hid (bestStep f (some b) x = some b) := if_neg hb
    obtain ⟨ad, n', c', hz⟩ := hfull b rfl
    injection hz with z1 z2 z3
    subst z1
    have hl : leastD f (some b) = f b := rfl
    rw [hl] at x1
    have hq := fun (wq : World) => Lib.run_eql_slice_nil (P := Tryz.prog) wq 26 29 (some ad) nb cb 0 0 Tryz.underlying26
    have hf1 : decide (f x < f b) = false := decide_eq_false hb
    generalize f b = fb at *
    clear hmin hb hl hnil hfull z2 z3 hcall HSt
    go_wp2_with fail
    go_ret
    exact ⟨rfl, F, ⟨_, by rw [HS.out]; exact HB1.out⟩, fun k hk => .inl hk, Frame.of_ext e1⟩
end Go.Proofs.YtegmognpofcfiaaGreat
