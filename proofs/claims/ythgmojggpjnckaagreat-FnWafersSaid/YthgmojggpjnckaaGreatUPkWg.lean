/- Proved: the greatest product of sizes is the product of even sizes, lists of bounded numbers are few, and the least number of wafers; the least number of wafers with enough openers, program and reference; the least number of wafers for some openers, program and reference; the least number of wafers for any number of openers, or -1, program and reference; WafersFor and MostOpeners, program and reference. -/
import Derived.Test.YthgmojggpjnckaaGreatChecked
import Derived.Test.YthgmojggpjnckaaGreatUPkA
import Derived.Test.YthgmojggpjnckaaGreatUPkB
namespace Go.Proofs.YthgmojggpjnckaaGreat
open Go.ChangeShapes Go.WideShapes Go.ChangeAt Go.RowKit
set_option linter.unusedVariables false

def bestTo (f : Nat → Nat) (W : Nat) : Nat → Nat
  | 0 => 0
  | k + 1 => max (bestTo f W k) ((k + 1) * f (W - k))
def most (d : Nat) : Nat → Nat → Nat
  | 0, W => if 0 < W then 0 else 1
  | c + 1, W => bestTo (most d c) W (min d (W + 1))
theorem bestTo_congr {f g : Nat → Nat} {W : Nat} (h : ∀ x, x ≤ W → f x = g x) : ∀ k, bestTo f W k = bestTo g W k
  | 0 => rfl
  | k + 1 => by simp only [bestTo]; rw [bestTo_congr h k, h _ (Nat.sub_le _ _)]
theorem bestTo_le {f : Nat → Nat} {W B : Nat} (h : ∀ x, f x ≤ B) : ∀ k, bestTo f W k ≤ k * B
  | 0 => by simp [bestTo]
  | k + 1 => by
    simp only [bestTo]
    have h1 := bestTo_le (W := W) h k
    have h2 : k * B ≤ (k + 1) * B := Nat.mul_le_mul_right _ (Nat.le_succ _)
    have h3 : (k + 1) * f (W - k) ≤ (k + 1) * B := Nat.mul_le_mul_left _ (h _)
    omega
theorem most_le (d : Nat) : ∀ c W, most d c W ≤ d ^ c
  | 0, W => by simp only [most]; split <;> simp
  | c + 1, W => by
    simp only [most]
    have h1 := bestTo_le (W := W) (most_le d c) (min d (W + 1))
    have h2 : min d (W + 1) * d ^ c ≤ d * d ^ c := Nat.mul_le_mul_right _ (Nat.min_le_left _ _)
    rw [Nat.pow_succ, Nat.mul_comm (d ^ c)]
    omega
def prodTo (c W : Nat) : Nat → Nat
  | 0 => 1
  | k + 1 => prodTo c W k * (1 + W / c + if k < W % c then 1 else 0)
def tabT (d : Nat) : Nat → List Nat
  | 0 => (List.range 43).map fun W => if 0 < W then 0 else 1
  | c + 1 => (List.range 43).map fun W => bestTo (fun x => (tabT d c).getD x 0) W (min d (W + 1))
theorem tab_at (d : Nat) : ∀ c W, W < 43 → (tabT d c).getD W 0 = most d c W
  | 0, W, h => by simp [tabT, most, h]
  | c + 1, W, h => by
    have : (tabT d (c + 1)).getD W 0 = bestTo (fun x => (tabT d c).getD x 0) W (min d (W + 1)) := by simp [tabT, h]
    rw [this, most]
    exact bestTo_congr (fun x hx => tab_at d c x (by omega)) _
def checkD (d c : Nat) : Bool := (List.range (c * (d - 1) + 1)).all fun W => (tabT d c).getD W 0 == prodTo c W c
def checkAll : Bool := (List.range 8).all fun d => (List.range 7).all fun c => checkD (d + 1) c
set_option maxRecDepth 100000 in
theorem checkAll_ok : checkAll = true := by decide +kernel
theorem most_prod {d c W : Nat} (hd0 : 1 ≤ d) (hd : d ≤ 8) (hc : c ≤ 6) (hW : W ≤ c * (d - 1)) : most d c W = prodTo c W c := by
  have h := checkAll_ok
  unfold checkAll at h
  have h1 := List.all_eq_true.1 h (d - 1) (List.mem_range.2 (by omega))
  simp only [show d - 1 + 1 = d by omega] at h1
  have h2 := List.all_eq_true.1 h1 c (List.mem_range.2 (by omega))
  unfold checkD at h2
  have h3 := List.all_eq_true.1 h2 W (List.mem_range.2 (by omega))
  have hb : c * (d - 1) ≤ 6 * 7 := Nat.mul_le_mul hc (by omega)
  rw [← tab_at d c W (by omega)]
  exact eq_of_beq h3
theorem nodup_lt : ∀ (N : Nat) (l : List Nat), l.Nodup → (∀ x ∈ l, x < N) → l.length ≤ N
  | 0, l, _, h => by
    cases l with
    | nil => exact Nat.le_refl _
    | cons x l => exact absurd (h x (by simp)) (Nat.not_lt_zero _)
  | N + 1, l, hn, h => by
    have h1 : (l.erase N).length ≤ N := nodup_lt N (l.erase N) (hn.erase N) (fun x hx => by
      have hx' := (List.Nodup.mem_erase_iff hn).1 hx
      have := h x hx'.2
      have := hx'.1
      omega)
    have h2 : l.length ≤ (l.erase N).length + 1 := by rw [List.length_erase]; split <;> omega
    omega
def enc (d : Nat) : List Int → Nat
  | [] => 0
  | x :: l => x.toNat + d * enc d l
theorem enc_lt (d : Nat) : ∀ l : List Int, (∀ x ∈ l, 0 ≤ x ∧ x < d) → enc d l < d ^ l.length
  | [], _ => by simp [enc]
  | x :: l, h => by
    have h1 := enc_lt d l (fun y hy => h y (List.mem_cons_of_mem _ hy))
    have h2 := h x (by simp)
    have h3 : d * enc d l + d ≤ d * d ^ l.length := by
      rw [← Nat.mul_succ]; exact Nat.mul_le_mul_left _ h1
    simp only [enc, List.length_cons, Nat.pow_succ]
    rw [Nat.mul_comm (d ^ l.length) d]
    omega
theorem enc_inj (d : Nat) : ∀ a b : List Int, a.length = b.length → (∀ x ∈ a, 0 ≤ x ∧ x < d) → (∀ x ∈ b, 0 ≤ x ∧ x < d) → enc d a = enc d b → a = b
  | [], [], _, _, _, _ => rfl
  | [], _ :: _, h, _, _, _ => by simp at h
  | _ :: _, [], h, _, _, _ => by simp at h
  | x :: a, y :: b, hl, ha, hb, he => by
    have h1 := ha x (by simp)
    have h2 := hb y (by simp)
    simp only [enc] at he
    have hx : x.toNat < d := by omega
    have hy : y.toNat < d := by omega
    have e1 : (x.toNat + d * enc d a) % d = x.toNat := by rw [Nat.add_mul_mod_self_left]; exact Nat.mod_eq_of_lt hx
    have e2 : (y.toNat + d * enc d b) % d = y.toNat := by rw [Nat.add_mul_mod_self_left]; exact Nat.mod_eq_of_lt hy
    rw [he, e2] at e1
    have e3 : x = y := by omega
    subst e3
    have e4 : enc d a = enc d b := Nat.eq_of_mul_eq_mul_left (by omega : 0 < d) (by omega)
    rw [enc_inj d a b (by simpa using hl) (fun z hz => ha z (List.mem_cons_of_mem _ hz)) (fun z hz => hb z (List.mem_cons_of_mem _ hz)) e4]
theorem lists_le {d c : Nat} {K : List (List Int)} (hn : K.Nodup) (hk : ∀ l ∈ K, l.length = c ∧ ∀ x ∈ l, 0 ≤ x ∧ x < d) : K.length ≤ d ^ c := by
  have h1 : (K.map (enc d)).Nodup := by
    rw [List.Nodup, List.pairwise_map]
    refine List.Pairwise.imp_of_mem (fun {a b} ha hb hab he => ?_) hn
    exact hab (enc_inj d a b (by rw [(hk a ha).1, (hk b hb).1]) (hk a ha).2 (hk b hb).2 he)
  have h2 := nodup_lt (d ^ c) _ h1 (fun x hx => by
    obtain ⟨l, hl, rfl⟩ := List.mem_map.1 hx
    have := enc_lt d l (hk l hl).2
    rwa [(hk l hl).1] at this)
  simpa using h2
def hasL (L : List (List Int)) (x : List Int) : Bool := L.any fun y => decide (y = x)
def distI (L : List (List Int)) (n : Nat) : List Nat := (List.range n).filter fun i => !hasL (L.take i) (L.getD i [])
theorem distI_succ (L : List (List Int)) (n : Nat) : distI L (n + 1) = distI L n ++ if hasL (L.take n) (L.getD n []) = true then [] else [n] := by
  unfold distI; rw [List.range_succ, List.filter_append]; congr 1
  generalize hq : hasL (L.take n) (L.getD n []) = q
  cases q <;> simp only [List.filter_cons, List.filter_nil, hq] <;> simp
def diffN (L : List (List Int)) (n : Nat) : Nat := (distI L n).length
theorem diffN_succ (L : List (List Int)) (n : Nat) : diffN L (n + 1) = diffN L n + if hasL (L.take n) (L.getD n []) = true then 0 else 1 := by
  unfold diffN; rw [distI_succ, List.length_append]; split <;> simp
theorem diffN_le (L : List (List Int)) (n : Nat) : diffN L n ≤ n := by
  unfold diffN distI; exact Nat.le_trans (List.length_filter_le _ _) (by simp)
theorem distI_pair (L : List (List Int)) (n : Nat) (hn : n ≤ L.length) : (distI L n).Pairwise fun i j => i < j ∧ j < n ∧ L.getD i [] ≠ L.getD j [] := by
  unfold distI
  have h1 : ((List.range n).filter fun i => !hasL (L.take i) (L.getD i [])).Pairwise (· < ·) := List.Pairwise.filter _ List.pairwise_lt_range
  refine List.Pairwise.imp_of_mem (fun {i j} hi hj hij => ?_) h1
  have h2 := List.mem_filter.1 hj
  have h3 := List.mem_range.1 h2.1
  refine ⟨hij, h3, fun e => ?_⟩
  have h4 : hasL (L.take j) (L.getD j []) = true := by
    unfold hasL
    rw [List.any_eq_true]
    have hlt : i < L.length := by omega
    refine ⟨L[i], List.mem_iff_getElem.2 ⟨i, by rw [List.length_take]; omega, by simp⟩, ?_⟩
    rw [← e]; simp [hlt]
  have h5 := h2.2
  rw [h4] at h5
  exact absurd h5 (by decide)

theorem prod_top {c d : Nat} (hc : 0 < c) : ∀ k, prodTo c (c * d) k = (1 + d) ^ k
  | 0 => rfl
  | k + 1 => by
    simp only [prodTo]
    rw [prod_top hc k, Nat.mul_div_cancel_left _ hc, Nat.mul_mod_right, if_neg (Nat.not_lt_zero _), Nat.add_zero, Nat.pow_succ]
/-- the least number of wafers with enough openers -/
def wafN (c d n : Nat) : Nat := firstIdx (fun W => decide (n ≤ prodTo c W c)) (List.range (c * (d - 1) + 1))
theorem wafN_at {c d n W : Nat} (hW : W ≤ c * (d - 1)) (h : n ≤ prodTo c W c) (hb : ∀ j, j < W → ¬ n ≤ prodTo c j c) : wafN c d n = W := by
  unfold wafN
  exact firstIdx_at _ _ W (by simp; omega) (by simpa using h) (fun j hj hjW => by simpa using hb j hjW)
theorem wafN_le {c d n : Nat} (hc : 0 < c) (hd : 1 ≤ d) (h : n ≤ d ^ c) : wafN c d n ≤ c * (d - 1) := by
  unfold wafN
  have h1 : decide (firstIdx (fun W => decide (n ≤ prodTo c W c)) (List.range (c * (d - 1) + 1)) < (List.range (c * (d - 1) + 1)).length) = true := by
    rw [firstIdx_any, List.any_eq_true]
    refine ⟨c * (d - 1), List.mem_range.2 (Nat.lt_succ_self _), ?_⟩
    rw [prod_top hc, show 1 + (d - 1) = d by omega]
    simpa using h
  have := of_decide_eq_true h1
  rw [List.length_range] at this
  omega
theorem wafN_end {c d n : Nat} (hc : 0 < c) (hd : 1 ≤ d) (h : n ≤ d ^ c) (hb : ∀ j, j < c * (d - 1) + 1 → ¬ n ≤ prodTo c j c) : False := by
  refine hb (c * (d - 1)) (Nat.lt_succ_self _) ?_
  rw [prod_top hc, show 1 + (d - 1) = d by omega]
  exact h

open Go.ChangeShapes Go.WideShapes Go.ChangeAt Go.RowKit
set_option linter.unusedVariables false

theorem prodTo_le {c W : Nat} : ∀ k, prodTo c W k ≤ (2 + W / c) ^ k
  | 0 => by simp [prodTo]
  | k + 1 => by
    simp only [prodTo]
    rw [Nat.pow_succ]
    refine Nat.mul_le_mul (prodTo_le k) ?_
    split <;> omega
theorem prodTo_small {c W k : Nat} (hc : 2 ≤ c) (hW : W ≤ 42) (hk : k ≤ 6) : prodTo c W k ≤ 148035889 := by
  have h1 : W / c ≤ 21 := Nat.le_trans (Nat.div_le_div hW hc (by omega)) (by decide)
  have h2 : (2 + W / c) ^ k ≤ 23 ^ k := Nat.pow_le_pow_left (by omega) _
  have h3 : 23 ^ k ≤ 23 ^ 6 := Nat.pow_le_pow_right (by omega) hk
  have := prodTo_le (c := c) (W := W) k
  omega
theorem most_small {d c W : Nat} (hd : d ≤ 8) (hc : c ≤ 6) : most d c W ≤ 262144 := by
  have h1 := most_le d c W
  have h2 : d ^ c ≤ 8 ^ c := Nat.pow_le_pow_left hd _
  have h3 : 8 ^ c ≤ 8 ^ 6 := Nat.pow_le_pow_right (by omega) hc
  omega
theorem bestTo_small {d c W k : Nat} (hd : d ≤ 8) (hc : c ≤ 6) (hk : k ≤ 8) : bestTo (most d c) W k ≤ 2097152 := by
  have := bestTo_le (f := most d c) (W := W) (fun x => most_small (W := x) hd hc) k
  have h2 : k * 262144 ≤ 8 * 262144 := Nat.mul_le_mul_right _ hk
  omega

set_option maxRecDepth 20000 in
set_option maxHeartbeats 1000000 in
theorem l20Most_c (mk : MK) (hd : 1 ≤ mk.d ∧ mk.d ≤ 8) (c : Nat) : c ≤ 6 → ∀ (w : World) (W : Nat), W ≤ 1000 →
    Calls Tryz.prog 57 #[mk.v, .int .i64 c, .int .i64 W] w (Ret w fun r _ => r = .int .i64 (most mk.d.toNat c W : Nat)) := by
  obtain ⟨mc, md, ms, mm, ml⟩ := mk
  simp only at hd
  obtain ⟨D, rfl⟩ := Int.eq_ofNat_of_zero_le (by omega : 0 ≤ md)
  simp only [Int.toNat_natCast]
  unfold MK.v
  simp only
  induction c with
  | zero =>
    intro _ w W hW
    have HQ : Hid (most D 0 W = if 0 < W then 0 else 1) := rfl
    generalize most D 0 W = q at *
    by_cases h0 : 0 < W
    · have HH : Hid (q = 0) := by show _ = _; rw [HQ.out, if_pos h0]
      clear HQ
      go_enter Tryz.func57, Tryz.ntmps57
      go_wp2_with fail
      go_ret
      exact ⟨_, rfl, by rw [HH.out]; rfl, Ext.alloc _ _⟩
    · have HH : Hid (q = 1) := by show _ = _; rw [HQ.out, if_neg h0]
      clear HQ
      go_enter Tryz.func57, Tryz.ntmps57
      go_wp2_with fail
      go_ret
      exact ⟨_, rfl, by rw [HH.out]; rfl, Ext.alloc _ _⟩
  | succ c ih =>
    intro hc w W hW
    have HIH := Lib.hid (ih (by omega))
    clear ih
    have HQ : Hid (most D (c + 1) W = bestTo (most D c) W (min D (W + 1))) := rfl
    have HS : Hid (∀ k, k ≤ 8 → bestTo (most D c) W k ≤ 2097152) := fun k hk => bestTo_small (by omega) (by omega) hk
    have HM : Hid (∀ x, most D c x ≤ 262144) := fun x => most_small (by omega) (by omega)
    have HN : Hid (∀ k, bestTo (most D c) W (k + 1) = max (bestTo (most D c) W k) ((k + 1) * most D c (W - k))) := fun k => rfl
    generalize most D (c + 1) W = res at *
    generalize most D c = f at *
    go_enter Tryz.func57, Tryz.ntmps57
    go_wp2_with fail
    generalize hw0 : World.alloc _ _ = w0
    have e0 : Ext w w0 := by rw [← hw0]; exact Ext.alloc _ _
    have c0 : w0.cell? ⟨w.heap.size, 0, none⟩ = some (.int .i64 mc) := by rw [← hw0]; clear hw0; go_simp
    have c1 : w0.cell? ⟨w.heap.size, 1, none⟩ = some (.int .i64 (D : Int)) := by rw [← hw0]; clear hw0; go_simp
    have c2 : w0.cell? ⟨w.heap.size, 2, none⟩ = some (.int .i64 ms) := by rw [← hw0]; clear hw0; go_simp
    have c3 : w0.cell? ⟨w.heap.size, 3, none⟩ = some (.int .i64 mm) := by rw [← hw0]; clear hw0; go_simp
    have c4 : w0.cell? ⟨w.heap.size, 4, none⟩ = some (.int .i64 ml) := by rw [← hw0]; clear hw0; go_simp
    clear hw0
    go_loopw [7, 8] (fun o s wr => ∃ k : Nat, k ≤ min D (W + 1) ∧ s = .int .i64 k ∧ o = .int .i64 (bestTo f W k : Nat) ∧ Ext w0 wr) (fun _ s _ => min D (W + 1) - (intOf s).toNat)
    case atStart => exact ⟨0, Nat.zero_le _, rfl, rfl, Ext.refl _⟩
    case round =>
      obtain ⟨k, hk, rfl, rfl, ew⟩ := hrel
      have hk' : k ≤ D ∧ k ≤ W + 1 := by omega
      clear hk
      obtain ⟨hk1, hk2⟩ := hk'
      have q1 := HS.out k (by omega)
      have HNk := Lib.hid (HN.out k)
      replace c0 := ew.cell c0
      replace c1 := ew.cell c1
      replace c2 := ew.cell c2
      replace c3 := ew.cell c3
      replace c4 := ew.cell c4
      by_cases hlt : k < D
      · by_cases hle : k ≤ W
        · have hcall := HIH.out wr (W - k) (by omega)
          have q2 := HM.out (W - k)
          have hwk : ((W - k : Nat) : Int) = (W : Int) - (k : Int) := by omega
          rw [hwk] at hcall
          generalize f (W - k) = x at *
          generalize bestTo f W k = y at *
          have hmul : (k + 1) * x ≤ 9 * 262144 := Nat.mul_le_mul (by omega) q2
          have hm : IntKind.i64.wrap (((k : Int) + 1) * (x : Int)) = (((k + 1) * x : Nat) : Int) := by
            have : ((k : Int) + 1) * (x : Int) = (((k + 1) * x : Nat) : Int) := by push_cast; rfl
            rw [this]; exact IntWalk.i64_in _ (by omega)
          clear hwk
          have hmx : IntKind.i64.wrap ((W : Int) - (k : Int)) = (W : Int) - (k : Int) := IntWalk.i64_in _ (by omega)
          have hxy : max (y : Int) (((k + 1) * x : Nat) : Int) = ((max y ((k + 1) * x) : Nat) : Int) := by omega
          generalize hz : (k + 1) * x = zz at *
          clear hz
          go_wp2_with fail
          refine Calls.mono hcall ?_
          rintro e w5 hr
          obtain ⟨r, rfl, rfl, e5⟩ := ret_ext hr
          clear hr hcall
          go_wp2_with fail
          all_goals
            go_roundw
            case rel => exact ⟨k + 1, by omega, by go_num, by rw [HNk.out]; omega, ew.trans e5⟩
            case measure => simp [intOf]; omega
        · have HH : Hid (res = bestTo f W k) := by show _ = _; rw [HQ.out, show min D (W + 1) = k by omega]
          clear HQ HS HM HN HNk HIH q1
          go_wp2_with fail
          go_ret
          exact ⟨_, rfl, by rw [HH.out]; rfl, e0.trans ew⟩
      · have HH : Hid (res = bestTo f W k) := by show _ = _; rw [HQ.out, show min D (W + 1) = k by omega]
        clear HQ HS HM HN HNk HIH q1
        go_wp2_with fail
        go_ret
        exact ⟨_, rfl, by rw [HH.out]; rfl, e0.trans ew⟩

open Go.ChangeShapes Go.WideShapes Go.ChangeAt Go.RowKit
set_option linter.unusedVariables false

theorem prodTo_next (c W k : Nat) : prodTo c W (k + 1) = prodTo c W k * (1 + W / c + if k < W % c then 1 else 0) := rfl

set_option maxRecDepth 20000 in
set_option maxHeartbeats 1000000 in
theorem mostOpeners_c (w : World) (mk : MK) (hc : 2 ≤ mk.c ∧ mk.c ≤ 6) (W : Nat) (hW : W ≤ 42) :
    Calls Tryz.prog 56 #[mk.v, .int .i64 W] w (Ret w fun r _ => r = .int .i64 (prodTo mk.c.toNat W mk.c.toNat : Nat)) := by
  obtain ⟨mc, md, ms, mm, ml⟩ := mk
  simp only at hc
  obtain ⟨C, rfl⟩ := Int.eq_ofNat_of_zero_le (by omega : 0 ≤ mc)
  simp only [Int.toNat_natCast]
  have HN := Lib.hid (fun k => prodTo_next C W k)
  have HB : Hid (∀ k, k ≤ 6 → prodTo C W k ≤ 148035889) := fun k hk => prodTo_small (by omega) hW hk
  have H0 : Hid (prodTo C W 0 = 1) := rfl
  have hC0 : ¬ ((C : Int) = 0) := by omega
  have hq : (W : Int).tdiv (C : Int) = ((W / C : Nat) : Int) := rfl
  have hm : (W : Int).tmod (C : Int) = ((W % C : Nat) : Int) := rfl
  have hqb : W / C ≤ 42 := Nat.le_trans (Nat.div_le_self _ _) hW
  generalize hP : prodTo C W = Pr at *
  clear hP
  generalize W / C = q at *
  generalize W % C = m at *
  unfold MK.v
  simp only
  go_enter Tryz.func56, Tryz.ntmps56
  go_wp2_with fail
  generalize hw0 : World.alloc _ _ = w0
  obtain ⟨e0, S0⟩ := mk_box (mk := ⟨C, md, ms, mm, ml⟩) hw0
  clear hw0
  have HS := Lib.hid S0
  obtain ⟨c0, c1, c2, c3, c4⟩ := S0
  go_wp2_with fail
  clear c0 c1 c2 c3 c4
  go_loopw [5, 6, 7, 10] (fun p _ _ s wr => ∃ k : Nat, k ≤ C ∧ s = .int .i64 k ∧ p = .int .i64 (Pr k : Nat) ∧ Ext w0 wr) (fun _ _ _ s _ => C - (intOf s).toNat)
  case atStart => exact ⟨0, Nat.zero_le _, rfl, by rw [H0.out]; rfl, Ext.refl _⟩
  case round =>
    obtain ⟨k, hk, rfl, rfl, ew⟩ := hrel
    obtain ⟨c0, c1, c2, c3, c4⟩ := HS.out.ext ew
    by_cases hlt : k < C
    · have HNk := Lib.hid (HN.out k)
      have q1 := HB.out (k + 1) (by omega)
      have q2 := HB.out k (by omega)
      by_cases hkm : k < m
      · have HE : Hid (Pr (k + 1) = Pr k * (1 + q + 1)) := by show _ = _; rw [HNk.out, if_pos hkm]
        have hmul : IntKind.i64.wrap (((Pr k : Nat) : Int) * (1 + (q : Int) + 1)) = ((Pr k * (1 + q + 1) : Nat) : Int) := by
          have : ((Pr k : Nat) : Int) * (1 + (q : Int) + 1) = ((Pr k * (1 + q + 1) : Nat) : Int) := by push_cast; rfl
          rw [this]; rw [HE.out] at q1; exact IntWalk.i64_in _ (by omega)
        clear HNk q1
        generalize Pr k = y at *
        go_wp2_with fail
        go_roundw
        case rel => exact ⟨k + 1, by omega, by go_num, by rw [HE.out]; push_cast; rfl, ew⟩
        case measure => simp [intOf]; omega
      · have HE : Hid (Pr (k + 1) = Pr k * (1 + q)) := by show _ = _; rw [HNk.out, if_neg hkm, Nat.add_zero]
        have hmul : IntKind.i64.wrap (((Pr k : Nat) : Int) * (1 + (q : Int))) = ((Pr k * (1 + q) : Nat) : Int) := by
          have : ((Pr k : Nat) : Int) * (1 + (q : Int)) = ((Pr k * (1 + q) : Nat) : Int) := by push_cast; rfl
          rw [this]; rw [HE.out] at q1; exact IntWalk.i64_in _ (by omega)
        clear HNk q1
        generalize Pr k = y at *
        go_wp2_with fail
        go_roundw
        case rel => exact ⟨k + 1, by omega, by go_num, by rw [HE.out]; push_cast; rfl, ew⟩
        case measure => simp [intOf]; omega
    · have hkC : k = C := by omega
      subst hkC
      go_wp2_with fail
      go_ret
      exact ⟨_, rfl, rfl, e0.trans ew⟩

/-- the first number of wafers with enough openers, or -1 -/
def forN (mk : MK) (n : Nat) : Int := if n ≤ mk.d.toNat ^ mk.c.toNat then (wafN mk.c.toNat mk.d.toNat n : Nat) else -1

set_option maxRecDepth 20000 in
set_option maxHeartbeats 1000000 in
theorem wafersFor_c (w : World) (mk : MK) (hc : 2 ≤ mk.c ∧ mk.c ≤ 6) (hd : 2 ≤ mk.d ∧ mk.d ≤ 8) (n : Nat) (hn : n ≤ mk.d.toNat ^ mk.c.toNat) :
    Calls Tryz.prog 52 #[mk.v, .int .i64 n] w (Ret w fun r _ => r = .int .i64 (wafN mk.c.toNat mk.d.toNat n : Nat)) := by
  obtain ⟨mc, md, ms, mm, ml⟩ := mk
  simp only at hc hd hn
  obtain ⟨C, rfl⟩ := Int.eq_ofNat_of_zero_le (by omega : 0 ≤ mc)
  obtain ⟨D, rfl⟩ := Int.eq_ofNat_of_zero_le (by omega : 0 ≤ md)
  simp only [Int.toNat_natCast] at hn ⊢
  have hCD : C * (D - 1) ≤ 42 := by
    have : C * (D - 1) ≤ 6 * 7 := Nat.mul_le_mul (by omega) (by omega)
    omega
  have HC := Lib.hid (fun (w' : World) (W : Nat) (h : W ≤ 42) => mostOpeners_c w' ⟨C, D, ms, mm, ml⟩ hc W h)
  have HW : Hid (∀ W, W ≤ C * (D - 1) → n ≤ prodTo C W C → (∀ j, j < W → ¬ n ≤ prodTo C j C) → wafN C D n = W) := fun W h1 h2 h3 => wafN_at h1 h2 h3
  have HT : Hid (n ≤ prodTo C (C * (D - 1)) C) := by
    show _ ≤ _
    rw [prod_top (by omega), show 1 + (D - 1) = D by omega]
    exact hn
  have hm1 : IntKind.i64.wrap ((D : Int) - 1) = ((D - 1 : Nat) : Int) := by rw [IntWalk.i64_in _ (by omega)]; omega
  have hm2 : IntKind.i64.wrap ((C : Int) * ((D - 1 : Nat) : Int)) = ((C * (D - 1) : Nat) : Int) := by
    have : (C : Int) * ((D - 1 : Nat) : Int) = ((C * (D - 1) : Nat) : Int) := by push_cast; rfl
    rw [this]; exact IntWalk.i64_in _ (by omega)
  generalize wafN C D n = res at *
  generalize hT : C * (D - 1) = T at *
  clear hT hn
  unfold MK.v at *
  simp only at HC ⊢
  simp only [Int.toNat_natCast] at HC
  go_enter Tryz.func52, Tryz.ntmps52
  go_wp2_with fail
  generalize hw0 : World.alloc _ _ = w0
  obtain ⟨e0, S0⟩ := mk_box (mk := ⟨C, D, ms, mm, ml⟩) hw0
  clear hw0
  have HS := Lib.hid S0
  obtain ⟨c0, c1, c2, c3, c4⟩ := S0
  go_wp2_with fail
  clear c0 c1 c2 c3 c4
  go_loopw [5, 13] (fun _ s wr => ∃ k : Nat, k ≤ T ∧ s = .int .i64 k ∧ (∀ j, j < k → ¬ n ≤ prodTo C j C) ∧ Ext w0 wr) (fun _ s _ => T + 1 - (intOf s).toNat)
  case atStart => exact ⟨0, Nat.zero_le _, rfl, fun j hj => absurd hj (Nat.not_lt_zero _), Ext.refl _⟩
  case round =>
    obtain ⟨k, hk, rfl, hall, ew⟩ := hrel
    have Hall := Lib.hid hall
    clear hall
    obtain ⟨c0, c1, c2, c3, c4⟩ := HS.out.ext ew
    have hcall := HC.out wr k (by omega)
    have HWk := Lib.hid (HW.out k hk)
    have HTk : Hid (k = T → n ≤ prodTo C k C) := fun h => by rw [h]; exact HT.out
    have HNx : Hid (¬ n ≤ prodTo C k C → ∀ j, j < k + 1 → ¬ n ≤ prodTo C j C) := fun h j hj => by
      by_cases e : j = k
      · rw [e]; exact h
      · exact Hall.out j (by omega)
    generalize prodTo C k C = y at *
    go_wp2_with fail
    refine Calls.mono hcall ?_
    rintro e w5 hr
    obtain ⟨r, rfl, rfl, e5⟩ := ret_ext hr
    clear hr hcall
    by_cases hny : n ≤ y
    · have HH := Lib.hid (HWk.out hny Hall.out)
      have hb : ((y : Int) ≥ (n : Int)) := by omega
      clear HWk HTk HNx Hall HW HT
      go_wp2_with fail
      go_ret
      exact ⟨_, rfl, by rw [HH.out]; rfl, (e0.trans ew).trans e5⟩
    · have hb : ¬ ((y : Int) ≥ (n : Int)) := by omega
      have HNy := Lib.hid (HNx.out hny)
      have hkT : k < T := by
        rcases Nat.lt_or_ge k T with h | h
        · exact h
        · exact absurd (HTk.out (by omega)) hny
      clear HWk HTk HNx HW HT
      go_wp2_with fail
      go_roundw
      case rel => exact ⟨k + 1, by omega, by go_num, HNy.out, ew.trans e5⟩
      case measure => simp [intOf]; omega

set_option maxRecDepth 20000 in
set_option maxHeartbeats 1000000 in
theorem l20For_c (w : World) (mk : MK) (hc : 2 ≤ mk.c ∧ mk.c ≤ 6) (hd : 2 ≤ mk.d ∧ mk.d ≤ 8) (n : Nat) (hn : n ≤ mk.d.toNat ^ mk.c.toNat) :
    Calls Tryz.prog 55 #[mk.v, .int .i64 n] w (Ret w fun r _ => r = .int .i64 (wafN mk.c.toNat mk.d.toNat n : Nat)) := by
  obtain ⟨mc, md, ms, mm, ml⟩ := mk
  simp only at hc hd hn
  obtain ⟨C, rfl⟩ := Int.eq_ofNat_of_zero_le (by omega : 0 ≤ mc)
  obtain ⟨D, rfl⟩ := Int.eq_ofNat_of_zero_le (by omega : 0 ≤ md)
  simp only [Int.toNat_natCast] at hn ⊢
  have hCD : C * (D - 1) ≤ 42 := by
    have : C * (D - 1) ≤ 6 * 7 := Nat.mul_le_mul (by omega) (by omega)
    omega
  have HC : Hid (∀ (w' : World) (W : Nat), W ≤ C * (D - 1) → Calls Tryz.prog 57 #[.agg #[.int .i64 C, .int .i64 D, .int .i64 ms, .int .i64 mm, .int .i64 ml], .int .i64 C, .int .i64 W] w' (Ret w' fun r _ => r = .int .i64 (prodTo C W C : Nat))) := fun w' W h => by
    have := l20Most_c ⟨C, D, ms, mm, ml⟩ ⟨by simp only; omega, by simp only; omega⟩ C (by omega) w' W (by omega)
    simp only [Int.toNat_natCast] at this
    rwa [most_prod (by omega) (by omega) (by omega) h] at this
  have HW : Hid (∀ W, W ≤ C * (D - 1) → n ≤ prodTo C W C → (∀ j, j < W → ¬ n ≤ prodTo C j C) → wafN C D n = W) := fun W h1 h2 h3 => wafN_at h1 h2 h3
  have HT : Hid (n ≤ prodTo C (C * (D - 1)) C) := by
    show _ ≤ _
    rw [prod_top (by omega), show 1 + (D - 1) = D by omega]
    exact hn
  have hm1 : IntKind.i64.wrap ((D : Int) - 1) = ((D - 1 : Nat) : Int) := by rw [IntWalk.i64_in _ (by omega)]; omega
  have hm2 : IntKind.i64.wrap ((C : Int) * ((D - 1 : Nat) : Int)) = ((C * (D - 1) : Nat) : Int) := by
    have : (C : Int) * ((D - 1 : Nat) : Int) = ((C * (D - 1) : Nat) : Int) := by push_cast; rfl
    rw [this]; exact IntWalk.i64_in _ (by omega)
  generalize wafN C D n = res at *
  generalize hT : C * (D - 1) = T at *
  clear hT hn
  unfold MK.v at *
  simp only
  go_enter Tryz.func55, Tryz.ntmps55
  go_wp2_with fail
  generalize hw0 : World.alloc _ _ = w0
  obtain ⟨e0, S0⟩ := mk_box (mk := ⟨C, D, ms, mm, ml⟩) hw0
  clear hw0
  have HS := Lib.hid S0
  obtain ⟨c0, c1, c2, c3, c4⟩ := S0
  go_wp2_with fail
  clear c0 c1 c2 c3 c4
  go_loopw [5] (fun s wr => ∃ k : Nat, k ≤ T ∧ s = .int .i64 k ∧ (∀ j, j < k → ¬ n ≤ prodTo C j C) ∧ Ext w0 wr) (fun s _ => T + 1 - (intOf s).toNat)
  case atStart => exact ⟨0, Nat.zero_le _, rfl, fun j hj => absurd hj (Nat.not_lt_zero _), Ext.refl _⟩
  case round =>
    obtain ⟨k, hk, rfl, hall, ew⟩ := hrel
    have Hall := Lib.hid hall
    clear hall
    obtain ⟨c0, c1, c2, c3, c4⟩ := HS.out.ext ew
    have hcall := HC.out wr k hk
    have HWk := Lib.hid (HW.out k hk)
    have HTk : Hid (k = T → n ≤ prodTo C k C) := fun h => by rw [h]; exact HT.out
    have HNx : Hid (¬ n ≤ prodTo C k C → ∀ j, j < k + 1 → ¬ n ≤ prodTo C j C) := fun h j hj => by
      by_cases e : j = k
      · rw [e]; exact h
      · exact Hall.out j (by omega)
    generalize prodTo C k C = y at *
    go_wp2_with fail
    refine Calls.mono hcall ?_
    rintro e w5 hr
    obtain ⟨r, rfl, rfl, e5⟩ := ret_ext hr
    clear hr hcall
    by_cases hny : n ≤ y
    · have HH := Lib.hid (HWk.out hny Hall.out)
      have hb : ((y : Int) ≥ (n : Int)) := by omega
      clear HWk HTk HNx Hall HW HT
      go_wp2_with fail
      go_ret
      exact ⟨_, rfl, by rw [HH.out]; rfl, (e0.trans ew).trans e5⟩
    · have hb : ¬ ((y : Int) ≥ (n : Int)) := by omega
      have HNy := Lib.hid (HNx.out hny)
      have hkT : k < T := by
        rcases Nat.lt_or_ge k T with h | h
        · exact h
        · exact absurd (HTk.out (by omega)) hny
      clear HWk HTk HNx HW HT
      go_wp2_with fail
      go_roundw
      case rel => exact ⟨k + 1, by omega, by go_num, HNy.out, ew.trans e5⟩
      case measure => simp [intOf]; omega

open Go.ChangeShapes Go.WideShapes Go.ChangeAt Go.RowKit
set_option linter.unusedVariables false

theorem prod_most {mk : MK} (hc : 2 ≤ mk.c ∧ mk.c ≤ 6) (hd : 2 ≤ mk.d ∧ mk.d ≤ 8) {W : Nat} (h : W ≤ mk.c.toNat * (mk.d.toNat - 1)) : prodTo mk.c.toNat W mk.c.toNat ≤ mk.d.toNat ^ mk.c.toNat := by
  rw [← most_prod (d := mk.d.toNat) (by omega) (by omega) (by omega) h]
  exact most_le _ _ _
theorem forN_at {mk : MK} {n : Nat} (hc : 2 ≤ mk.c ∧ mk.c ≤ 6) (hd : 2 ≤ mk.d ∧ mk.d ≤ 8) {W : Nat} (h1 : W ≤ mk.c.toNat * (mk.d.toNat - 1)) (h2 : n ≤ prodTo mk.c.toNat W mk.c.toNat) (h3 : ∀ j, j < W → ¬ n ≤ prodTo mk.c.toNat j mk.c.toNat) : forN mk n = (W : Int) := by
  unfold forN
  rw [if_pos (Nat.le_trans h2 (prod_most hc hd h1)), wafN_at h1 h2 h3]
theorem forN_none {mk : MK} {n : Nat} (hc : 2 ≤ mk.c ∧ mk.c ≤ 6) (hd : 2 ≤ mk.d ∧ mk.d ≤ 8) (h : ∀ j, j < mk.c.toNat * (mk.d.toNat - 1) + 1 → ¬ n ≤ prodTo mk.c.toNat j mk.c.toNat) : forN mk n = -1 := by
  unfold forN
  rw [if_neg (fun q => wafN_end (by omega) (by omega) q h)]

set_option maxRecDepth 20000 in
set_option maxHeartbeats 1000000 in
theorem wafersForG_c (w : World) (mk : MK) (hc : 2 ≤ mk.c ∧ mk.c ≤ 6) (hd : 2 ≤ mk.d ∧ mk.d ≤ 8) (n : Nat) (hn : n ≤ 4000000000000) :
    Calls Tryz.prog 52 #[mk.v, .int .i64 n] w (Ret w fun r _ => r = .int .i64 (forN mk n)) := by
  obtain ⟨mc, md, ms, mm, ml⟩ := mk
  simp only at hc hd
  obtain ⟨C, rfl⟩ := Int.eq_ofNat_of_zero_le (by omega : 0 ≤ mc)
  obtain ⟨D, rfl⟩ := Int.eq_ofNat_of_zero_le (by omega : 0 ≤ md)
  have hCD : C * (D - 1) ≤ 42 := by
    have : C * (D - 1) ≤ 6 * 7 := Nat.mul_le_mul (by omega) (by omega)
    omega
  have HC := Lib.hid (fun (w' : World) (W : Nat) (h : W ≤ 42) => mostOpeners_c w' ⟨C, D, ms, mm, ml⟩ hc W h)
  have HW : Hid (∀ W, W ≤ C * (D - 1) → n ≤ prodTo C W C → (∀ j, j < W → ¬ n ≤ prodTo C j C) → forN ⟨C, D, ms, mm, ml⟩ n = (W : Int)) := fun W h1 h2 h3 => forN_at (mk := ⟨C, D, ms, mm, ml⟩) hc hd h1 h2 h3
  have HT : Hid ((∀ j, j < C * (D - 1) + 1 → ¬ n ≤ prodTo C j C) → forN ⟨C, D, ms, mm, ml⟩ n = -1) := fun h => forN_none (mk := ⟨C, D, ms, mm, ml⟩) hc hd h
  have hm1 : IntKind.i64.wrap ((D : Int) - 1) = ((D - 1 : Nat) : Int) := by rw [IntWalk.i64_in _ (by omega)]; omega
  have hm2 : IntKind.i64.wrap ((C : Int) * ((D - 1 : Nat) : Int)) = ((C * (D - 1) : Nat) : Int) := by
    have : (C : Int) * ((D - 1 : Nat) : Int) = ((C * (D - 1) : Nat) : Int) := by push_cast; rfl
    rw [this]; exact IntWalk.i64_in _ (by omega)
  generalize forN ⟨C, D, ms, mm, ml⟩ n = res at *
  generalize hT : C * (D - 1) = T at *
  clear hT
  unfold MK.v at *
  simp only at HC ⊢
  simp only [Int.toNat_natCast] at HC
  go_enter Tryz.func52, Tryz.ntmps52
  go_wp2_with fail
  generalize hw0 : World.alloc _ _ = w0
  obtain ⟨e0, S0⟩ := mk_box (mk := ⟨C, D, ms, mm, ml⟩) hw0
  clear hw0
  have HS := Lib.hid S0
  obtain ⟨c0, c1, c2, c3, c4⟩ := S0
  go_wp2_with fail
  clear c0 c1 c2 c3 c4
  go_loopw [5, 13] (fun _ s wr => ∃ k : Nat, k ≤ T + 1 ∧ s = .int .i64 k ∧ (∀ j, j < k → ¬ n ≤ prodTo C j C) ∧ Ext w0 wr) (fun _ s _ => T + 1 - (intOf s).toNat)
  case atStart => exact ⟨0, Nat.zero_le _, rfl, fun j hj => absurd hj (Nat.not_lt_zero _), Ext.refl _⟩
  case round =>
    obtain ⟨k, hk, rfl, hall, ew⟩ := hrel
    have Hall := Lib.hid hall
    clear hall
    obtain ⟨c0, c1, c2, c3, c4⟩ := HS.out.ext ew
    by_cases hkT : k ≤ T
    · skip
      have hcall := HC.out wr k (by omega)
      have HWk := Lib.hid (HW.out k hkT)
      have HNx : Hid (¬ n ≤ prodTo C k C → ∀ j, j < k + 1 → ¬ n ≤ prodTo C j C) := fun h j hj => by
        by_cases e : j = k
        · rw [e]; exact h
        · exact Hall.out j (by omega)
      generalize prodTo C k C = y at *
      go_wp2_with fail
      refine Calls.mono hcall ?_
      rintro e w5 hr
      obtain ⟨r, rfl, rfl, e5⟩ := ret_ext hr
      clear hr hcall
      by_cases hny : n ≤ y
      · have HH := Lib.hid (HWk.out hny Hall.out)
        have hb : ((y : Int) ≥ (n : Int)) := by omega
        clear HWk HNx Hall HW HT
        go_wp2_with fail
        go_ret
        exact ⟨_, rfl, by rw [HH.out]; rfl, (e0.trans ew).trans e5⟩
      · have hb : ¬ ((y : Int) ≥ (n : Int)) := by omega
        have HNy := Lib.hid (HNx.out hny)
        clear HWk HNx HW HT
        go_wp2_with fail
        go_roundw
        case rel => exact ⟨k + 1, by omega, by go_num, HNy.out, ew.trans e5⟩
        case measure => simp [intOf]; omega
    · have HH : Hid (res = -1) := HT.out (fun j hj => Hall.out j (by omega))
      clear HW HT
      go_wp2_with fail
      go_ret
      exact ⟨_, rfl, by rw [HH.out]; rfl, e0.trans ew⟩

set_option maxRecDepth 20000 in
set_option maxHeartbeats 1000000 in
theorem l20ForG_c (w : World) (mk : MK) (hc : 2 ≤ mk.c ∧ mk.c ≤ 6) (hd : 2 ≤ mk.d ∧ mk.d ≤ 8) (n : Nat) (hn : n ≤ 4000000000000) :
    Calls Tryz.prog 55 #[mk.v, .int .i64 n] w (Ret w fun r _ => r = .int .i64 (forN mk n)) := by
  obtain ⟨mc, md, ms, mm, ml⟩ := mk
  simp only at hc hd
  obtain ⟨C, rfl⟩ := Int.eq_ofNat_of_zero_le (by omega : 0 ≤ mc)
  obtain ⟨D, rfl⟩ := Int.eq_ofNat_of_zero_le (by omega : 0 ≤ md)
  have hCD : C * (D - 1) ≤ 42 := by
    have : C * (D - 1) ≤ 6 * 7 := Nat.mul_le_mul (by omega) (by omega)
    omega
  have HC : Hid (∀ (w' : World) (W : Nat), W ≤ C * (D - 1) → Calls Tryz.prog 57 #[.agg #[.int .i64 C, .int .i64 D, .int .i64 ms, .int .i64 mm, .int .i64 ml], .int .i64 C, .int .i64 W] w' (Ret w' fun r _ => r = .int .i64 (prodTo C W C : Nat))) := fun w' W h => by
    have := l20Most_c ⟨C, D, ms, mm, ml⟩ ⟨by simp only; omega, by simp only; omega⟩ C (by omega) w' W (by omega)
    simp only [Int.toNat_natCast] at this
    rwa [most_prod (by omega) (by omega) (by omega) h] at this
  have HW : Hid (∀ W, W ≤ C * (D - 1) → n ≤ prodTo C W C → (∀ j, j < W → ¬ n ≤ prodTo C j C) → forN ⟨C, D, ms, mm, ml⟩ n = (W : Int)) := fun W h1 h2 h3 => forN_at (mk := ⟨C, D, ms, mm, ml⟩) hc hd h1 h2 h3
  have HT : Hid ((∀ j, j < C * (D - 1) + 1 → ¬ n ≤ prodTo C j C) → forN ⟨C, D, ms, mm, ml⟩ n = -1) := fun h => forN_none (mk := ⟨C, D, ms, mm, ml⟩) hc hd h
  have hm1 : IntKind.i64.wrap ((D : Int) - 1) = ((D - 1 : Nat) : Int) := by rw [IntWalk.i64_in _ (by omega)]; omega
  have hm2 : IntKind.i64.wrap ((C : Int) * ((D - 1 : Nat) : Int)) = ((C * (D - 1) : Nat) : Int) := by
    have : (C : Int) * ((D - 1 : Nat) : Int) = ((C * (D - 1) : Nat) : Int) := by push_cast; rfl
    rw [this]; exact IntWalk.i64_in _ (by omega)
  generalize forN ⟨C, D, ms, mm, ml⟩ n = res at *
  generalize hT : C * (D - 1) = T at *
  clear hT
  unfold MK.v at *
  simp only
  go_enter Tryz.func55, Tryz.ntmps55
  go_wp2_with fail
  generalize hw0 : World.alloc _ _ = w0
  obtain ⟨e0, S0⟩ := mk_box (mk := ⟨C, D, ms, mm, ml⟩) hw0
  clear hw0
  have HS := Lib.hid S0
  obtain ⟨c0, c1, c2, c3, c4⟩ := S0
  go_wp2_with fail
  clear c0 c1 c2 c3 c4
  go_loopw [5] (fun s wr => ∃ k : Nat, k ≤ T + 1 ∧ s = .int .i64 k ∧ (∀ j, j < k → ¬ n ≤ prodTo C j C) ∧ Ext w0 wr) (fun s _ => T + 1 - (intOf s).toNat)
  case atStart => exact ⟨0, Nat.zero_le _, rfl, fun j hj => absurd hj (Nat.not_lt_zero _), Ext.refl _⟩
  case round =>
    obtain ⟨k, hk, rfl, hall, ew⟩ := hrel
    have Hall := Lib.hid hall
    clear hall
    obtain ⟨c0, c1, c2, c3, c4⟩ := HS.out.ext ew
    by_cases hkT : k ≤ T
    · skip
      have hcall := HC.out wr k (by omega)
      have HWk := Lib.hid (HW.out k hkT)
      have HNx : Hid (¬ n ≤ prodTo C k C → ∀ j, j < k + 1 → ¬ n ≤ prodTo C j C) := fun h j hj => by
        by_cases e : j = k
        · rw [e]; exact h
        · exact Hall.out j (by omega)
      generalize prodTo C k C = y at *
      go_wp2_with fail
      refine Calls.mono hcall ?_
      rintro e w5 hr
      obtain ⟨r, rfl, rfl, e5⟩ := ret_ext hr
      clear hr hcall
      by_cases hny : n ≤ y
      · have HH := Lib.hid (HWk.out hny Hall.out)
        have hb : ((y : Int) ≥ (n : Int)) := by omega
        clear HWk HNx Hall HW HT
        go_wp2_with fail
        go_ret
        exact ⟨_, rfl, by rw [HH.out]; rfl, (e0.trans ew).trans e5⟩
      · have hb : ¬ ((y : Int) ≥ (n : Int)) := by omega
        have HNy := Lib.hid (HNx.out hny)
        clear HWk HNx HW HT
        go_wp2_with fail
        go_roundw
        case rel => exact ⟨k + 1, by omega, by go_num, HNy.out, ew.trans e5⟩
        case measure => simp [intOf]; omega
    · have HH : Hid (res = -1) := HT.out (fun j hj => Hall.out j (by omega))
      clear HW HT
      go_wp2_with fail
      go_ret
      exact ⟨_, rfl, by rw [HH.out]; rfl, e0.trans ew⟩

open Go.ChangeShapes Go.WideShapes Go.ChangeAt Go.RowKit
set_option linter.unusedVariables false

/-- the least number of wafers, and a code -/
def wafersForR (mk : MK) (n : Int) : Int × Int := if isMaker mk = true then (if inB n 1 1000000000000 = true then (if forN mk n.toNat < 0 then (0, 4) else (forN mk n.toNat, 0)) else (0, 2)) else (0, 1)
theorem wafersForR_bad {mk : MK} {n : Int} (h : isMaker mk = false) : wafersForR mk n = (0, 1) := by unfold wafersForR; rw [if_neg (by rw [h]; decide)]
theorem wafersForR_range {mk : MK} {n : Int} (h : isMaker mk = true) (h2 : inB n 1 1000000000000 = false) : wafersForR mk n = (0, 2) := by unfold wafersForR; rw [if_pos h, if_neg (by rw [h2]; decide)]
theorem wafersForR_none {mk : MK} {n : Int} (h : isMaker mk = true) (h2 : inB n 1 1000000000000 = true) (h3 : forN mk n.toNat < 0) : wafersForR mk n = (0, 4) := by unfold wafersForR; rw [if_pos h, if_pos h2, if_pos h3]
theorem wafersForR_ok {mk : MK} {n : Int} (h : isMaker mk = true) (h2 : inB n 1 1000000000000 = true) (h3 : ¬ forN mk n.toNat < 0) : wafersForR mk n = (forN mk n.toNat, 0) := by unfold wafersForR; rw [if_pos h, if_pos h2, if_neg h3]
/-- the most openers of some wafers, and a code -/
def mostR (mk : MK) (n : Int) : Int × Int := if isMaker mk = true then (if inB n 0 (mk.c * (mk.d - 1)) = true then (((prodTo mk.c.toNat n.toNat mk.c.toNat : Nat) : Int), 0) else (0, 2)) else (0, 1)
theorem mostR_bad {mk : MK} {n : Int} (h : isMaker mk = false) : mostR mk n = (0, 1) := by unfold mostR; rw [if_neg (by rw [h]; decide)]
theorem mostR_range {mk : MK} {n : Int} (h : isMaker mk = true) (h2 : inB n 0 (mk.c * (mk.d - 1)) = false) : mostR mk n = (0, 2) := by unfold mostR; rw [if_pos h, if_neg (by rw [h2]; decide)]
theorem mostR_ok {mk : MK} {n : Int} (h : isMaker mk = true) (h2 : inB n 0 (mk.c * (mk.d - 1)) = true) : mostR mk n = (((prodTo mk.c.toNat n.toNat mk.c.toNat : Nat) : Int), 0) := by unfold mostR; rw [if_pos h, if_pos h2]
theorem maker_cd {mk : MK} (h : isMaker mk = true) : (2 ≤ mk.c ∧ mk.c ≤ 6) ∧ (2 ≤ mk.d ∧ mk.d ≤ 8) := ⟨(isMaker_iff.1 h).1, (isMaker_iff.1 h).2.1⟩
theorem top_le {mk : MK} (h : isMaker mk = true) : 0 ≤ mk.c * (mk.d - 1) ∧ mk.c * (mk.d - 1) ≤ 42 ∧ mk.c * (mk.d - 1) = ((mk.c.toNat * (mk.d.toNat - 1) : Nat) : Int) := by
  obtain ⟨h1, h2⟩ := maker_cd h
  have e : mk.c * (mk.d - 1) = ((mk.c.toNat * (mk.d.toNat - 1) : Nat) : Int) := by
    have e1 : mk.c = (mk.c.toNat : Int) := by omega
    have e2 : mk.d - 1 = ((mk.d.toNat - 1 : Nat) : Int) := by omega
    rw [e2, Int.natCast_mul]
    rw [e1]; rfl
  have hb : mk.c.toNat * (mk.d.toNat - 1) ≤ 6 * 7 := Nat.mul_le_mul (by omega) (by omega)
  refine ⟨by rw [e]; omega, by rw [e]; omega, e⟩

set_option maxRecDepth 20000 in
set_option maxHeartbeats 1000000 in
theorem WafersFor_c (w : World) (mk : MK) (n : Int) : Calls Tryz.prog 8 #[mk.v, .int .i64 n] w (Ret w fun r _ => r = IntCode (wafersForR mk n)) := by
  have HM := Lib.hid (fun (w' : World) => IsMaker_c w' mk)
  have H1 : Hid (isMaker mk = false → wafersForR mk n = (0, 1)) := wafersForR_bad
  have H2 : Hid (isMaker mk = true → inB n 1 1000000000000 = false → wafersForR mk n = (0, 2)) := wafersForR_range
  have H3 : Hid (isMaker mk = true → inB n 1 1000000000000 = true → forN mk n.toNat < 0 → wafersForR mk n = (0, 4)) := wafersForR_none
  have H4 : Hid (isMaker mk = true → inB n 1 1000000000000 = true → ¬ forN mk n.toNat < 0 → wafersForR mk n = (forN mk n.toNat, 0)) := wafersForR_ok
  have HW := Lib.hid (fun (w' : World) => within_c w' n 1 1000000000000)
  have HF : Hid (isMaker mk = true → inB n 1 1000000000000 = true → ∀ w', Calls Tryz.prog 52 #[mk.v, .int .i64 n] w' (Ret w' fun r _ => r = .int .i64 (forN mk n.toNat))) := fun h h2 w' => by
    have hn := inB_iff.1 h2
    have := wafersForG_c w' mk (maker_cd h).1 (maker_cd h).2 n.toNat (by omega)
    rwa [show ((n.toNat : Nat) : Int) = n by omega] at this
  generalize forN mk n.toNat = x at *
  generalize inB n 1 1000000000000 = q at *
  generalize isMaker mk = p at *
  generalize wafersForR mk n = res at *
  obtain ⟨c, d, s, m, l⟩ := mk
  unfold MK.v at *
  simp only at HM HF ⊢
  go_enter Tryz.func8, Tryz.ntmps8
  go_wp2_with fail
  generalize hw0 : World.alloc _ _ = w0
  obtain ⟨e0, S0⟩ := mk_box (mk := ⟨c, d, s, m, l⟩) hw0
  clear hw0
  have HS := Lib.hid S0
  obtain ⟨c0, c1, c2, c3, c4⟩ := S0
  go_wp2_with fail
  refine Calls.mono (HM.out w0) ?_
  rintro e w1 hr
  obtain ⟨r, rfl, rfl, e1⟩ := ret_ext hr
  clear hr c0 c1 c2 c3 c4 HM
  have et := e0.trans e1
  cases p with
  | false =>
    have HH := Lib.hid (H1.out (by trivial))
    go_wp2_with fail
    go_ret2
    exact ⟨_, rfl, IntCode_mk HH.out, et⟩
  | true =>
    go_wp2_with fail
    refine Calls.mono (HW.out w1) ?_
    rintro e w2 ⟨rfl, hd2⟩
    have et2 := et.trans (Ext.ofDrew hd2)
    have e12 := e1.trans (Ext.ofDrew hd2)
    clear HW hd2
    cases q with
    | false =>
      have HH := Lib.hid (H2.out (by trivial) (by trivial))
      go_wp2_with fail
      go_ret2
      exact ⟨_, rfl, IntCode_mk HH.out, et2⟩
    | true =>
      have hcall := HF.out (by trivial) (by trivial) w2
      obtain ⟨c0, c1, c2, c3, c4⟩ := HS.out.ext e12
      go_wp2_with fail
      refine Calls.mono hcall ?_
      rintro e w3 hr
      obtain ⟨r, rfl, rfl, e3⟩ := ret_ext hr
      clear hr hcall c0 c1 c2 c3 c4 HF
      by_cases hx : x < 0
      · have HH := Lib.hid (H3.out (by trivial) (by trivial) hx)
        clear H1 H2 H3 H4
        go_wp2_with fail
        go_ret2
        exact ⟨_, rfl, IntCode_mk HH.out, et2.trans e3⟩
      · have HH := Lib.hid (H4.out (by trivial) (by trivial) (by omega))
        clear H1 H2 H3 H4
        go_wp2_with fail
        go_ret2
        exact ⟨_, rfl, IntCode_mk HH.out, et2.trans e3⟩

set_option maxRecDepth 20000 in
set_option maxHeartbeats 1000000 in
theorem WafersForSpec_c (w : World) (mk : MK) (n : Int) : Calls Tryz.prog 9 #[mk.v, .int .i64 n] w (Ret w fun r _ => r = IntCode (wafersForR mk n)) := by
  have HM := Lib.hid (fun (w' : World) => IsMakerSpec_c w' mk)
  have H1 : Hid (isMaker mk = false → wafersForR mk n = (0, 1)) := wafersForR_bad
  have H2 : Hid (isMaker mk = true → inB n 1 1000000000000 = false → wafersForR mk n = (0, 2)) := wafersForR_range
  have H3 : Hid (isMaker mk = true → inB n 1 1000000000000 = true → forN mk n.toNat < 0 → wafersForR mk n = (0, 4)) := wafersForR_none
  have H4 : Hid (isMaker mk = true → inB n 1 1000000000000 = true → ¬ forN mk n.toNat < 0 → wafersForR mk n = (forN mk n.toNat, 0)) := wafersForR_ok
  have HW := Lib.hid (fun (w' : World) => l01In_c w' n 1 1000000000000)
  have HF : Hid (isMaker mk = true → inB n 1 1000000000000 = true → ∀ w', Calls Tryz.prog 55 #[mk.v, .int .i64 n] w' (Ret w' fun r _ => r = .int .i64 (forN mk n.toNat))) := fun h h2 w' => by
    have hn := inB_iff.1 h2
    have := l20ForG_c w' mk (maker_cd h).1 (maker_cd h).2 n.toNat (by omega)
    rwa [show ((n.toNat : Nat) : Int) = n by omega] at this
  generalize forN mk n.toNat = x at *
  generalize inB n 1 1000000000000 = q at *
  generalize isMaker mk = p at *
  generalize wafersForR mk n = res at *
  obtain ⟨c, d, s, m, l⟩ := mk
  unfold MK.v at *
  simp only at HM HF ⊢
  go_enter Tryz.func9, Tryz.ntmps9
  go_wp2_with fail
  generalize hw0 : World.alloc _ _ = w0
  obtain ⟨e0, S0⟩ := mk_box (mk := ⟨c, d, s, m, l⟩) hw0
  clear hw0
  have HS := Lib.hid S0
  obtain ⟨c0, c1, c2, c3, c4⟩ := S0
  go_wp2_with fail
  refine Calls.mono (HM.out w0) ?_
  rintro e w1 hr
  obtain ⟨r, rfl, rfl, e1⟩ := ret_ext hr
  clear hr c0 c1 c2 c3 c4 HM
  have et := e0.trans e1
  cases p with
  | false =>
    have HH := Lib.hid (H1.out (by trivial))
    go_wp2_with fail
    go_ret2
    exact ⟨_, rfl, IntCode_mk HH.out, et⟩
  | true =>
    go_wp2_with fail
    refine Calls.mono (HW.out w1) ?_
    rintro e w2 ⟨rfl, hd2⟩
    have et2 := et.trans (Ext.ofDrew hd2)
    have e12 := e1.trans (Ext.ofDrew hd2)
    clear HW hd2
    cases q with
    | false =>
      have HH := Lib.hid (H2.out (by trivial) (by trivial))
      go_wp2_with fail
      go_ret2
      exact ⟨_, rfl, IntCode_mk HH.out, et2⟩
    | true =>
      have hcall := HF.out (by trivial) (by trivial) w2
      obtain ⟨c0, c1, c2, c3, c4⟩ := HS.out.ext e12
      go_wp2_with fail
      refine Calls.mono hcall ?_
      rintro e w3 hr
      obtain ⟨r, rfl, rfl, e3⟩ := ret_ext hr
      clear hr hcall c0 c1 c2 c3 c4 HF
      by_cases hx : x < 0
      · have HH := Lib.hid (H3.out (by trivial) (by trivial) hx)
        clear H1 H2 H3 H4
        go_wp2_with fail
        go_ret2
        exact ⟨_, rfl, IntCode_mk HH.out, et2.trans e3⟩
      · have HH := Lib.hid (H4.out (by trivial) (by trivial) (by omega))
        clear H1 H2 H3 H4
        go_wp2_with fail
        go_ret2
        exact ⟨_, rfl, IntCode_mk HH.out, et2.trans e3⟩

set_option maxRecDepth 20000 in
set_option maxHeartbeats 1000000 in
theorem MostOpeners_c (w : World) (mk : MK) (n : Int) : Calls Tryz.prog 11 #[mk.v, .int .i64 n] w (Ret w fun r _ => r = IntCode (mostR mk n)) := by
  have HM := Lib.hid (fun (w' : World) => IsMaker_c w' mk)
  have H1 : Hid (isMaker mk = false → mostR mk n = (0, 1)) := mostR_bad
  have H2 : Hid (isMaker mk = true → inB n 0 (mk.c * (mk.d - 1)) = false → mostR mk n = (0, 2)) := mostR_range
  have H4 : Hid (isMaker mk = true → inB n 0 (mk.c * (mk.d - 1)) = true → mostR mk n = (((prodTo mk.c.toNat n.toNat mk.c.toNat : Nat) : Int), 0)) := mostR_ok
  have HWr : Hid (isMaker mk = true → IntKind.i64.wrap (mk.d - 1) = mk.d - 1 ∧ IntKind.i64.wrap (mk.c * (mk.d - 1)) = mk.c * (mk.d - 1)) := fun h => by
    have h1 := top_le h
    have h2 := maker_cd h
    exact ⟨IntWalk.i64_in _ (by omega), IntWalk.i64_in _ (by omega)⟩
  have HF : Hid (isMaker mk = true → inB n 0 (mk.c * (mk.d - 1)) = true → ∀ w', Calls Tryz.prog 56 #[mk.v, .int .i64 n] w' (Ret w' fun r _ => r = .int .i64 (prodTo mk.c.toNat n.toNat mk.c.toNat : Nat))) := fun h h2 w' => by
    have hn := inB_iff.1 h2
    have ht := top_le h
    have hcd := maker_cd h
    have := mostOpeners_c w' mk hcd.1 n.toNat (by omega)
    rwa [show ((n.toNat : Nat) : Int) = n by omega] at this
  have HW := Lib.hid (fun (w' : World) => within_c w' n 0 (mk.c * (mk.d - 1)))
  obtain ⟨c, d, s, m, l⟩ := mk
  simp only at H2 H4 HWr HF HW
  obtain ⟨T, hT⟩ : ∃ T, T = c * (d - 1) := ⟨_, rfl⟩
  rw [← hT] at H2 H4 HWr HF HW
  have HT : Hid (c * (d - 1) = T) := hT.symm
  clear hT
  generalize (prodTo c.toNat n.toNat c.toNat : Nat) = x at *
  generalize inB n 0 T = q at *
  generalize isMaker ⟨c, d, s, m, l⟩ = p at *
  generalize mostR ⟨c, d, s, m, l⟩ n = res at *
  unfold MK.v at *
  simp only at HM HF ⊢
  go_enter Tryz.func11, Tryz.ntmps11
  go_wp2_with fail
  generalize hw0 : World.alloc _ _ = w0
  obtain ⟨e0, S0⟩ := mk_box (mk := ⟨c, d, s, m, l⟩) hw0
  clear hw0
  have HS := Lib.hid S0
  obtain ⟨c0, c1, c2, c3, c4⟩ := S0
  go_wp2_with fail
  refine Calls.mono (HM.out w0) ?_
  rintro e w1 hr
  obtain ⟨r, rfl, rfl, e1⟩ := ret_ext hr
  clear hr c0 c1 c2 c3 c4 HM
  have et := e0.trans e1
  cases p with
  | false =>
    have HH := Lib.hid (H1.out (by trivial))
    clear H2 H4 HWr HF HT
    go_wp2_with fail
    go_ret2
    exact ⟨_, rfl, IntCode_mk HH.out, et⟩
  | true =>
    obtain ⟨hm1, hm2⟩ := HWr.out (by trivial)
    have hm3 := HT.out
    have HWi := Lib.hid (HW.out)
    obtain ⟨c0, c1, c2, c3, c4⟩ := HS.out.ext e1
    clear H1 HWr
    go_wp2_with fail
    refine Calls.mono (HWi.out w1) ?_
    rintro e w2 ⟨rfl, hd2⟩
    have et2 := et.trans (Ext.ofDrew hd2)
    have e12 := e1.trans (Ext.ofDrew hd2)
    clear HW HWi hd2 c0 c1 c2 c3 c4
    cases q with
    | false =>
      have HH := Lib.hid (H2.out (by trivial) (by trivial))
      go_wp2_with fail
      go_ret2
      exact ⟨_, rfl, IntCode_mk HH.out, et2⟩
    | true =>
      have HH := Lib.hid (H4.out (by trivial) (by trivial))
      have hcall := HF.out (by trivial) (by trivial) w2
      obtain ⟨c0, c1, c2, c3, c4⟩ := HS.out.ext e12
      clear H2 H4 HF
      go_wp2_with fail
      refine Calls.mono hcall ?_
      rintro e w3 hr
      obtain ⟨r, rfl, rfl, e3⟩ := ret_ext hr
      clear hr hcall c0 c1 c2 c3 c4
      go_wp2_with fail
      go_ret2
      exact ⟨_, rfl, IntCode_mk HH.out, et2.trans e3⟩

set_option maxRecDepth 20000 in
set_option maxHeartbeats 1000000 in
theorem MostOpenersSpec_c (w : World) (mk : MK) (n : Int) : Calls Tryz.prog 12 #[mk.v, .int .i64 n] w (Ret w fun r _ => r = IntCode (mostR mk n)) := by
  have HM := Lib.hid (fun (w' : World) => IsMakerSpec_c w' mk)
  have H1 : Hid (isMaker mk = false → mostR mk n = (0, 1)) := mostR_bad
  have H2 : Hid (isMaker mk = true → inB n 0 (mk.c * (mk.d - 1)) = false → mostR mk n = (0, 2)) := mostR_range
  have H4 : Hid (isMaker mk = true → inB n 0 (mk.c * (mk.d - 1)) = true → mostR mk n = (((prodTo mk.c.toNat n.toNat mk.c.toNat : Nat) : Int), 0)) := mostR_ok
  have HWr : Hid (isMaker mk = true → IntKind.i64.wrap (mk.d - 1) = mk.d - 1 ∧ IntKind.i64.wrap (mk.c * (mk.d - 1)) = mk.c * (mk.d - 1)) := fun h => by
    have h1 := top_le h
    have h2 := maker_cd h
    exact ⟨IntWalk.i64_in _ (by omega), IntWalk.i64_in _ (by omega)⟩
  have HF : Hid (isMaker mk = true → inB n 0 (mk.c * (mk.d - 1)) = true → ∀ w', Calls Tryz.prog 57 #[mk.v, .int .i64 mk.c, .int .i64 n] w' (Ret w' fun r _ => r = .int .i64 (prodTo mk.c.toNat n.toNat mk.c.toNat : Nat))) := fun h h2 w' => by
    have hn := inB_iff.1 h2
    have ht := top_le h
    have hcd := maker_cd h
    have := l20Most_c mk ⟨by omega, by omega⟩ mk.c.toNat (by omega) w' n.toNat (by omega)
    rw [most_prod (by omega) (by omega) (by omega) (by omega)] at this
    rwa [show ((n.toNat : Nat) : Int) = n by omega, show ((mk.c.toNat : Nat) : Int) = mk.c by omega] at this
  have HW := Lib.hid (fun (w' : World) => l01In_c w' n 0 (mk.c * (mk.d - 1)))
  obtain ⟨c, d, s, m, l⟩ := mk
  simp only at H2 H4 HWr HF HW
  obtain ⟨T, hT⟩ : ∃ T, T = c * (d - 1) := ⟨_, rfl⟩
  rw [← hT] at H2 H4 HWr HF HW
  have HT : Hid (c * (d - 1) = T) := hT.symm
  clear hT
  generalize (prodTo c.toNat n.toNat c.toNat : Nat) = x at *
  generalize inB n 0 T = q at *
  generalize isMaker ⟨c, d, s, m, l⟩ = p at *
  generalize mostR ⟨c, d, s, m, l⟩ n = res at *
  unfold MK.v at *
  simp only at HM HF ⊢
  go_enter Tryz.func12, Tryz.ntmps12
  go_wp2_with fail
  generalize hw0 : World.alloc _ _ = w0
  obtain ⟨e0, S0⟩ := mk_box (mk := ⟨c, d, s, m, l⟩) hw0
  clear hw0
  have HS := Lib.hid S0
  obtain ⟨c0, c1, c2, c3, c4⟩ := S0
  go_wp2_with fail
  refine Calls.mono (HM.out w0) ?_
  rintro e w1 hr
  obtain ⟨r, rfl, rfl, e1⟩ := ret_ext hr
  clear hr c0 c1 c2 c3 c4 HM
  have et := e0.trans e1
  cases p with
  | false =>
    have HH := Lib.hid (H1.out (by trivial))
    clear H2 H4 HWr HF HT
    go_wp2_with fail
    go_ret2
    exact ⟨_, rfl, IntCode_mk HH.out, et⟩
  | true =>
    obtain ⟨hm1, hm2⟩ := HWr.out (by trivial)
    have hm3 := HT.out
    have HWi := Lib.hid (HW.out)
    obtain ⟨c0, c1, c2, c3, c4⟩ := HS.out.ext e1
    clear H1 HWr
    go_wp2_with fail
    refine Calls.mono (HWi.out w1) ?_
    rintro e w2 ⟨rfl, hd2⟩
    have et2 := et.trans (Ext.ofDrew hd2)
    have e12 := e1.trans (Ext.ofDrew hd2)
    clear HW HWi hd2 c0 c1 c2 c3 c4
    cases q with
    | false =>
      have HH := Lib.hid (H2.out (by trivial) (by trivial))
      go_wp2_with fail
      go_ret2
      exact ⟨_, rfl, IntCode_mk HH.out, et2⟩
    | true =>
      have HH := Lib.hid (H4.out (by trivial) (by trivial))
      have hcall := HF.out (by trivial) (by trivial) w2
      obtain ⟨c0, c1, c2, c3, c4⟩ := HS.out.ext e12
      clear H2 H4 HF
      go_wp2_with fail
      refine Calls.mono hcall ?_
      rintro e w3 hr
      obtain ⟨r, rfl, rfl, e3⟩ := ret_ext hr
      clear hr hcall c0 c1 c2 c3 c4
      go_wp2_with fail
      go_ret2
      exact ⟨_, rfl, IntCode_mk HH.out, et2.trans e3⟩
end Go.Proofs.YthgmojggpjnckaaGreat
