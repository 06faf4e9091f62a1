/- Proved: the greatest product of sizes is the product of even sizes, lists of bounded numbers are few, and the least number of wafers. -/
import Derived.Test.YthgmojggpjnckaaGreatUPkA
namespace Go.Proofs.YthgmojggpjnckaaGreat
open Go.ChangeShapes Go.WideShapes Go.ChangeAt Go.RowKit
set_option linter.unusedVariables false

def bestTo (f : Nat → Nat) (W : Nat) : Nat → Nat
  | 0 => 0
  | k + 1 => max (bestTo f W k) ((k + 1) * f (W - k))
def most (d : Nat) : Nat → Nat → Nat
  | 0, W => if 0 < W then 0 else 1
  | c + 1, W => bestTo (most d c) W (min d (W + 1))
theorem bestTo_congr {f g : Nat → Nat} {W : Nat} (h : ∀ x, x ≤ W → f x = g x) : ∀ k, bestTo f W k = bestTo g W k
  | 0 => rfl
  | k + 1 => by simp only [bestTo]; rw [bestTo_congr h k, h _ (Nat.sub_le _ _)]
theorem bestTo_le {f : Nat → Nat} {W B : Nat} (h : ∀ x, f x ≤ B) : ∀ k, bestTo f W k ≤ k * B
  | 0 => by simp [bestTo]
  | k + 1 => by
    simp only [bestTo]
    have h1 := bestTo_le (W := W) h k
    have h2 : k * B ≤ (k + 1) * B := Nat.mul_le_mul_right _ (Nat.le_succ _)
    have h3 : (k + 1) * f (W - k) ≤ (k + 1) * B := Nat.mul_le_mul_left _ (h _)
    omega
theorem most_le (d : Nat) : ∀ c W, most d c W ≤ d ^ c
  | 0, W => by simp only [most]; split <;> simp
  | c + 1, W => by
    simp only [most]
    have h1 := bestTo_le (W := W) (most_le d c) (min d (W + 1))
    have h2 : min d (W + 1) * d ^ c ≤ d * d ^ c := Nat.mul_le_mul_right _ (Nat.min_le_left _ _)
    rw [Nat.pow_succ, Nat.mul_comm (d ^ c)]
    omega
def prodTo (c W : Nat) : Nat → Nat
  | 0 => 1
  | k + 1 => prodTo c W k * (1 + W / c + if k < W % c then 1 else 0)
def tabT (d : Nat) : Nat → List Nat
  | 0 => (List.range 43).map fun W => if 0 < W then 0 else 1
  | c + 1 => (List.range 43).map fun W => bestTo (fun x => (tabT d c).getD x 0) W (min d (W + 1))
theorem tab_at (d : Nat) : ∀ c W, W < 43 → (tabT d c).getD W 0 = most d c W
  | 0, W, h => by simp [tabT, most, h]
  | c + 1, W, h => by
    have : (tabT d (c + 1)).getD W 0 = bestTo (fun x => (tabT d c).getD x 0) W (min d (W + 1)) := by simp [tabT, h]
    rw [this, most]
    exact bestTo_congr (fun x hx => tab_at d c x (by omega)) _
def checkD (d c : Nat) : Bool := (List.range (c * (d - 1) + 1)).all fun W => (tabT d c).getD W 0 == prodTo c W c
def checkAll : Bool := (List.range 8).all fun d => (List.range 7).all fun c => checkD (d + 1) c
set_option maxRecDepth 100000 in
theorem checkAll_ok : checkAll = true := by decide +kernel
theorem most_prod {d c W : Nat} (hd0 : 1 ≤ d) (hd : d ≤ 8) (hc : c ≤ 6) (hW : W ≤ c * (d - 1)) : most d c W = prodTo c W c := by
  have h := checkAll_ok
  unfold checkAll at h
  have h1 := List.all_eq_true.1 h (d - 1) (List.mem_range.2 (by omega))
  simp only [show d - 1 + 1 = d by omega] at h1
  have h2 := List.all_eq_true.1 h1 c (List.mem_range.2 (by omega))
  unfold checkD at h2
  have h3 := List.all_eq_true.1 h2 W (List.mem_range.2 (by omega))
  have hb : c * (d - 1) ≤ 6 * 7 := Nat.mul_le_mul hc (by omega)
  rw [← tab_at d c W (by omega)]
  exact eq_of_beq h3
theorem nodup_lt : ∀ (N : Nat) (l : List Nat), l.Nodup → (∀ x ∈ l, x < N) → l.length ≤ N
  | 0, l, _, h => by
    cases l with
    | nil => exact Nat.le_refl _
    | cons x l => exact absurd (h x (by simp)) (Nat.not_lt_zero _)
  | N + 1, l, hn, h => by
    have h1 : (l.erase N).length ≤ N := nodup_lt N (l.erase N) (hn.erase N) (fun x hx => by
      have hx' := (List.Nodup.mem_erase_iff hn).1 hx
      have := h x hx'.2
      have := hx'.1
      omega)
    have h2 : l.length ≤ (l.erase N).length + 1 := by rw [List.length_erase]; split <;> omega
    omega
def enc (d : Nat) : List Int → Nat
  | [] => 0
  | x :: l => x.toNat + d * enc d l
theorem enc_lt (d : Nat) : ∀ l : List Int, (∀ x ∈ l, 0 ≤ x ∧ x < d) → enc d l < d ^ l.length
  | [], _ => by simp [enc]
  | x :: l, h => by
    have h1 := enc_lt d l (fun y hy => h y (List.mem_cons_of_mem _ hy))
    have h2 := h x (by simp)
    have h3 : d * enc d l + d ≤ d * d ^ l.length := by
      rw [← Nat.mul_succ]; exact Nat.mul_le_mul_left _ h1
    simp only [enc, List.length_cons, Nat.pow_succ]
    rw [Nat.mul_comm (d ^ l.length) d]
    omega
theorem enc_inj (d : Nat) : ∀ a b : List Int, a.length = b.length → (∀ x ∈ a, 0 ≤ x ∧ x < d) → (∀ x ∈ b, 0 ≤ x ∧ x < d) → enc d a = enc d b → a = b
  | [], [], _, _, _, _ => rfl
  | [], _ :: _, h, _, _, _ => by simp at h
  | _ :: _, [], h, _, _, _ => by simp at h
  | x :: a, y :: b, hl, ha, hb, he => by
    have h1 := ha x (by simp)
    have h2 := hb y (by simp)
    simp only [enc] at he
    have hx : x.toNat < d := by omega
    have hy : y.toNat < d := by omega
    have e1 : (x.toNat + d * enc d a) % d = x.toNat := by rw [Nat.add_mul_mod_self_left]; exact Nat.mod_eq_of_lt hx
    have e2 : (y.toNat + d * enc d b) % d = y.toNat := by rw [Nat.add_mul_mod_self_left]; exact Nat.mod_eq_of_lt hy
    rw [he, e2] at e1
    have e3 : x = y := by omega
    subst e3
    have e4 : enc d a = enc d b := Nat.eq_of_mul_eq_mul_left (by omega : 0 < d) (by omega)
    rw [enc_inj d a b (by simpa using hl) (fun z hz => ha z (List.mem_cons_of_mem _ hz)) (fun z hz => hb z (List.mem_cons_of_mem _ hz)) e4]
theorem lists_le {d c : Nat} {K : List (List Int)} (hn : K.Nodup) (hk : ∀ l ∈ K, l.length = c ∧ ∀ x ∈ l, 0 ≤ x ∧ x < d) : K.length ≤ d ^ c := by
  have h1 : (K.map (enc d)).Nodup := by
    rw [List.Nodup, List.pairwise_map]
    refine List.Pairwise.imp_of_mem (fun {a b} ha hb hab he => ?_) hn
    exact hab (enc_inj d a b (by rw [(hk a ha).1, (hk b hb).1]) (hk a ha).2 (hk b hb).2 he)
  have h2 := nodup_lt (d ^ c) _ h1 (fun x hx => by
    obtain ⟨l, hl, rfl⟩ := List.mem_map.1 hx
    have := enc_lt d l (hk l hl).2
    rwa [(hk l hl).1] at this)
  simpa using h2
def hasL (L : List (List Int)) (x : List Int) : Bool := L.any fun y => decide (y = x)
def distI (L : List (List Int)) (n : Nat) : List Nat := (List.range n).filter fun i => !hasL (L.take i) (L.getD i [])
theorem distI_succ (L : List (List Int)) (n : Nat) : distI L (n + 1) = distI L n ++ if hasL (L.take n) (L.getD n []) = true then [] else [n] := by
  unfold distI; rw [List.range_succ, List.filter_append]; congr 1
  generalize hq : hasL (L.take n) (L.getD n []) = q
  cases q <;> simp only [List.filter_cons, List.filter_nil, hq] <;> simp
def diffN (L : List (List Int)) (n : Nat) : Nat := (distI L n).length
theorem diffN_succ (L : List (List Int)) (n : Nat) : diffN L (n + 1) = diffN L n + if hasL (L.take n) (L.getD n []) = true then 0 else 1 := by
  unfold diffN; rw [distI_succ, List.length_append]; split <;> simp
theorem diffN_le (L : List (List Int)) (n : Nat) : diffN L n ≤ n := by
  unfold diffN distI; exact Nat.le_trans (List.length_filter_le _ _) (by simp)
theorem distI_pair (L : List (List Int)) (n : Nat) (hn : n ≤ L.length) : (distI L n).Pairwise fun i j => i < j ∧ j < n ∧ L.getD i [] ≠ L.getD j [] := by
  unfold distI
  have h1 : ((List.range n).filter fun i => !hasL (L.take i) (L.getD i [])).Pairwise (· < ·) := List.Pairwise.filter _ List.pairwise_lt_range
  refine List.Pairwise.imp_of_mem (fun {i j} hi hj hij => ?_) h1
  have h2 := List.mem_filter.1 hj
  have h3 := List.mem_range.1 h2.1
  refine ⟨hij, h3, fun e => ?_⟩
  have h4 : hasL (L.take j) (L.getD j []) = true := by
    unfold hasL
    rw [List.any_eq_true]
    have hlt : i < L.length := by omega
    refine ⟨L[i], List.mem_iff_getElem.2 ⟨i, by rw [List.length_take]; omega, by simp⟩, ?_⟩
    rw [← e]; simp [hlt]
  have h5 := h2.2
  rw [h4] at h5
  exact absurd h5 (by decide)

theorem prod_top {c d : Nat} (hc : 0 < c) : ∀ k, prodTo c (c * d) k = (1 + d) ^ k
  | 0 => rfl
  | k + 1 => by
    simp only [prodTo]
    rw [prod_top hc k, Nat.mul_div_cancel_left _ hc, Nat.mul_mod_right, if_neg (Nat.not_lt_zero _), Nat.add_zero, Nat.pow_succ]
/-- the least number of wafers with enough openers -/
def wafN (c d n : Nat) : Nat := firstIdx (fun W => decide (n ≤ prodTo c W c)) (List.range (c * (d - 1) + 1))
theorem wafN_at {c d n W : Nat} (hW : W ≤ c * (d - 1)) (h : n ≤ prodTo c W c) (hb : ∀ j, j < W → ¬ n ≤ prodTo c j c) : wafN c d n = W := by
  unfold wafN
  exact firstIdx_at _ _ W (by simp; omega) (by simpa using h) (fun j hj hjW => by simpa using hb j hjW)
theorem wafN_le {c d n : Nat} (hc : 0 < c) (hd : 1 ≤ d) (h : n ≤ d ^ c) : wafN c d n ≤ c * (d - 1) := by
  unfold wafN
  have h1 : decide (firstIdx (fun W => decide (n ≤ prodTo c W c)) (List.range (c * (d - 1) + 1)) < (List.range (c * (d - 1) + 1)).length) = true := by
    rw [firstIdx_any, List.any_eq_true]
    refine ⟨c * (d - 1), List.mem_range.2 (Nat.lt_succ_self _), ?_⟩
    rw [prod_top hc, show 1 + (d - 1) = d by omega]
    simpa using h
  have := of_decide_eq_true h1
  rw [List.length_range] at this
  omega
theorem wafN_end {c d n : Nat} (hc : 0 < c) (hd : 1 ≤ d) (h : n ≤ d ^ c) (hb : ∀ j, j < c * (d - 1) + 1 → ¬ n ≤ prodTo c j c) : False := by
  refine hb (c * (d - 1)) (Nat.lt_succ_self _) ?_
  rw [prod_top hc, show 1 + (d - 1) = d by omega]
  exact h
end Go.Proofs.YthgmojggpjnckaaGreat
