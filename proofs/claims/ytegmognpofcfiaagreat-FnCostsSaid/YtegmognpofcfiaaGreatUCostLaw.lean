/- Proved: the stock of a design has a bottom and a driver for each chamber of each door, and all wafers (plain). -/
import Derived.Test.YtegmognpofcfiaaGreatUSysStock
import Derived.Test.YtegmognpofcfiaaGreatUCost
namespace Go.Proofs.YtegmognpofcfiaaGreat
open Go.ChangeShapes Go.WideShapes Go.ChangeAt Go.RowKit
set_option linter.unusedVariables false

/-- numbers that are not negative, and their sum -/
structure Tot (l : List Int) (s : Int) : Prop where
  pos : ∀ x ∈ l, 0 ≤ x
  sum : l.sum = s
theorem sum_pos : ∀ {l : List Int}, (∀ x ∈ l, 0 ≤ x) → 0 ≤ l.sum
  | [], _ => by simp
  | a :: l, h => by
    have := sum_pos (l := l) (fun x hx => h x (List.mem_cons_of_mem _ hx))
    have := h a (List.mem_cons_self ..)
    rw [List.sum_cons]; omega
theorem mem_le_sum : ∀ {l : List Int}, (∀ x ∈ l, 0 ≤ x) → ∀ x ∈ l, x ≤ l.sum
  | [], _, x, hx => by cases hx
  | a :: l, h, x, hx => by
    have h1 := sum_pos (l := l) (fun x hx => h x (List.mem_cons_of_mem _ hx))
    have h2 := h a (List.mem_cons_self ..)
    rw [List.sum_cons]
    rcases List.mem_cons.1 hx with hx | hx
    · omega
    · have := mem_le_sum (l := l) (fun x hx => h x (List.mem_cons_of_mem _ hx)) x hx
      omega
theorem sum_set : ∀ (l : List Int) (i : Nat) (v : Int), i < l.length → (l.set i v).sum = l.sum - l.getD i 0 + v
  | [], i, v, h => by simp at h
  | a :: l, 0, v, h => by simp; omega
  | a :: l, i + 1, v, h => by
    have := sum_set l i v (by simpa using h)
    simp only [List.set_cons_succ, List.sum_cons, List.getD_cons_succ]
    omega
theorem getD_in {l : List Int} {i : Nat} (h : i < l.length) : l.getD i 0 ∈ l := by
  rw [show l.getD i 0 = l[i] by simp [h]]; exact List.getElem_mem h
theorem Tot.bump {l : List Int} {s : Int} (h : Tot l s) {i : Int} (hi : 0 ≤ i) (hl : i < l.length) (hs : s < 1000000) : Tot (bump l i) (s + 1) := by
  have hn : i.toNat < l.length := by omega
  have hm := getD_in hn
  have h1 := h.pos _ hm
  have h2 := mem_le_sum h.pos _ hm
  have h3 := h.sum
  have e : IntKind.i64.wrap (l.getD i.toNat 0 + 1) = l.getD i.toNat 0 + 1 := IntWalk.i64_in _ (by omega)
  unfold Go.Proofs.YtegmognpofcfiaaGreat.bump
  rw [e]
  refine ⟨fun x hx => ?_, ?_⟩
  · rcases List.mem_or_eq_of_mem_set hx with hx | hx
    · exact h.pos x hx
    · omega
  · rw [sum_set _ _ _ hn]; omega
theorem Tot.waf {l : List Int} {s : Int} (h : Tot l s) (st : List Int) : ∀ (n : Nat), (∀ k, k < n → 0 ≤ st.getD (k + 1) 0 ∧ st.getD (k + 1) 0 < l.length) → s + n < 1000000 → Tot (wafTo l st n) (s + n)
  | 0, _, _ => by simpa [wafTo] using h
  | n + 1, hk, hs => by
    have ih := Tot.waf h st n (fun k h => hk k (by omega)) (by omega)
    have := hk n (by omega)
    have := ih.bump this.1 (by rw [wafTo_len]; exact this.2) (by omega)
    rw [show s + ((n + 1 : Nat) : Int) = s + n + 1 by omega]
    exact this
structure Tot3 (D : Nat) (s : S3) (a b c : Int) : Prop extends Len3 D s where
  t0 : Tot s.1 a
  t1 : Tot s.2.1 b
  t2 : Tot s.2.2 c
theorem getD_mem {l : List Int} {i : Nat} (h : i < l.length) : l.getD i 0 ∈ l := getD_in h
theorem Tot3.stack {D : Nat} {s : S3} {a b c : Int} (h : Tot3 D s a b c) {st : List Int} (h2 : 2 ≤ st.length) (hm : ∀ x ∈ st, 0 ≤ x ∧ x < D) (ha : a < 900000) (hb : b + st.length < 900000) (hc : c < 900000) : Tot3 D (stackS s st) (a + 1) (b + ((st.length : Int) - 2)) (c + 1) := by
  have m0 := hm _ (getD_mem (l := st) (i := 0) (by omega))
  have m1 := hm _ (getD_mem (l := st) (i := st.length - 1) (by omega))
  refine ⟨h.toLen3.stack st, ?_, ?_, ?_⟩
  · exact h.t0.bump m0.1 (by rw [h.l0]; exact m0.2) (by omega)
  · have := h.t1.waf st (st.length - 2) (fun k hk => by
      have := hm _ (getD_mem (l := st) (i := k + 1) (by omega))
      rw [h.l1]; exact this) (by omega)
    rw [show b + ((st.length - 2 : Nat) : Int) = b + ((st.length : Int) - 2) by omega] at this
    exact this
  · exact h.t2.bump m1.1 (by rw [h.l2]; exact m1.2) (by omega)
theorem Tot3.pins {mk : MK} {l : List (List Int)} (hl : LockOk mk l) {s : S3} {a b c : Int} (h : Tot3 mk.d.toNat s a b c) (hb : LockB l) (ha : a < 800000) (hb2 : b < 800000) (hc : c < 800000) (hb0 : 0 ≤ b) :
    ∀ n, n ≤ l.length → Tot3 mk.d.toNat (pinsS s (pinsL mk.d l) n) (a + n) (b + wafersTo l n) (c + n)
  | 0, _ => by simpa [pinsS, wafersTo] using h
  | n + 1, hn => by
    have ih := Tot3.pins hl h hb ha hb2 hc hb0 n (by omega)
    have hlen := hb.len
    have hw := wafersTo_bound hb.row n (by omega)
    have hp : n < (pinsL mk.d l).length := by unfold pinsL; rw [pinsTo_len]; omega
    have hin := pins_in hl hp
    have hsz : ((pinsL mk.d l).getD n []).length = (l.getD n []).length + 1 := by
      have e : (pinsL mk.d l).getD n [] = stackL mk.d (l.getD n []) := by simp [pinsL, pinsTo, show n < l.length by omega]
      rw [e, stackL_len]
    have hr := hb.row n (by omega)
    have := ih.stack (st := (pinsL mk.d l).getD n []) hin.1 (fun x hx => by have := hin.2 x hx; omega) (by omega) (by omega) (by omega)
    rw [hsz] at this
    unfold pinsS wafersTo
    rw [show a + ((n + 1 : Nat) : Int) = a + n + 1 by omega, show c + ((n + 1 : Nat) : Int) = c + n + 1 by omega]
    rw [show b + (wafersTo l n + (((l.getD n []).length : Int) - 1)) = b + wafersTo l n + ((((l.getD n []).length + 1 : Nat) : Int) - 2) by omega]
    exact this
theorem Tot3.locks {mk : MK} {ls : List (List (List Int))} (C : Nat) (hC : C ≤ 6) (hok : ∀ i, i < ls.length → LockOk mk (ls.getD i []) ∧ LockB (ls.getD i []) ∧ (ls.getD i []).length = C ∧ 0 ≤ wafersB (ls.getD i [])) (hl : ls.length ≤ 100) {s : S3} (h : Tot3 mk.d.toNat s 0 0 0) :
    ∀ n, n ≤ ls.length → 0 ≤ sumTo ls n ∧ Tot3 mk.d.toNat (locksS mk.d s ls n) ((C : Int) * n) (sumTo ls n) ((C : Int) * n)
  | 0, _ => ⟨by simp [sumTo], by simpa [locksS, sumTo] using h⟩
  | n + 1, hn => by
    obtain ⟨i0, ih⟩ := Tot3.locks C hC hok hl h n (by omega)
    obtain ⟨o1, o2, o3, o4⟩ := hok n (by omega)
    have hb := sumTo_bound (ls := ls) (n := ls.length) (fun i hi => (hok i hi).2.1) n (by omega)
    have hcn : (C : Int) * n ≤ 6 * 100 := by
      have h1 : (C : Int) * n ≤ 6 * n := Int.mul_le_mul_of_nonneg_right (by omega) (by omega)
      omega
    have := Tot3.pins o1 ih o2 (by omega) (by omega) (by omega) i0 (ls.getD n []).length (Nat.le_refl _)
    have hlen : (pinsL mk.d (ls.getD n [])).length = (ls.getD n []).length := by unfold pinsL; rw [pinsTo_len]
    unfold locksS sumTo
    rw [hlen]
    have e1 : (C : Int) * ((n + 1 : Nat) : Int) = (C : Int) * n + ((ls.getD n []).length : Int) := by rw [o3]; push_cast; rw [Int.mul_add]; omega
    rw [e1]
    exact ⟨by omega, this⟩
theorem Tot3.zero (D : Nat) : Tot3 D (zeroS D) 0 0 0 := by
  have h : Tot (List.replicate D 0) 0 := ⟨fun x hx => by rw [List.eq_of_mem_replicate hx]; omega, by
    induction D with
    | zero => rfl
    | succ n ih => rw [List.replicate_succ, List.sum_cons, ih]; rfl⟩
  exact ⟨Len3.zero D, h, h, h⟩
theorem wafersTo_nn {mk : MK} {l : List (List Int)} (h : LockOk mk l) : ∀ n, n ≤ l.length → 0 ≤ wafersTo l n
  | 0, _ => by simp [wafersTo]
  | n + 1, hn => by
    have := wafersTo_nn h n (by omega)
    have := (h.set (i := n) (by omega)).ne
    unfold wafersTo
    omega
/-- the stock of a design: all chambers, all wafers -/
theorem stock_design {mk : MK} {t cuts : List (List Int)} (h : designCode mk t cuts = 0) : Tot3 mk.d.toNat (stockL mk.d (locks mk t cuts)) (mk.c * (doorsOf t : Int)) (sysWafers mk t cuts) (mk.c * (doorsOf t : Int)) := by
  have ok := designCode_zero h
  have hc := ok.mk1
  have hd := ok.doors
  have hl := locks_len mk t cuts
  have := (Tot3.locks (mk := mk) (ls := locks mk t cuts) mk.c.toNat (by omega) (fun i hi => by
    rw [hl] at hi
    have h1 := design_lock ok hi
    exact ⟨h1, lockB ok.toSysOk hi, lock_len hi, by unfold wafersB; exact wafersTo_nn h1 _ (Nat.le_refl _)⟩) (by rw [hl]; omega) (Tot3.zero _) (locks mk t cuts).length (Nat.le_refl _)).2
  unfold stockL sysWafers
  rw [hl] at this ⊢
  rw [show (mk.c.toNat : Int) = mk.c by omega] at this
  exact this
/-- the cost of a design by its stock -/
theorem cost_stock {mk : MK} {t cuts : List (List Int)} {ps : List Int} (h : designCode mk t cuts = 0) : costV mk t cuts ps = (stockL mk.d (locks mk t cuts)).1.sum * ps.getD 0 0 + sysWafers mk t cuts * ps.getD 1 0 + (stockL mk.d (locks mk t cuts)).2.2.sum * ps.getD 2 0 := by
  have := stock_design h
  rw [this.t0.sum, this.t2.sum]
  unfold costV
  rw [Int.mul_add]
  omega
theorem cost_free {mk : MK} {t cuts : List (List Int)} (h : designCode mk t cuts = 0) : costOf mk t cuts [0, 0, 0] = (0, 0) := by
  rw [costOf_ok h rfl]
  unfold costV
  simp
end Go.Proofs.YtegmognpofcfiaaGreat
