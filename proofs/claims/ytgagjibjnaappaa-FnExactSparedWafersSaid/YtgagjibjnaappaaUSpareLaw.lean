/- Proved: a design's rows are not too many for its maker, and what SparedWafers computes. -/
import Derived.Test.YtgagjibjnaappaaUCanLaw
import Derived.Test.YtgagjibjnaappaaUMostLaw
import Derived.Test.YtgagjibjnaappaaUCost
namespace Go.Proofs.Ytgagjibjnaappaa
open Go.ChangeShapes Go.WideShapes Go.ChangeAt Go.RowKit
set_option linter.unusedVariables false

theorem getD_eq0 {xs : List Int} {j : Nat} (h : j < xs.length) : xs.getD j 0 = xs[j] := by simp [h]
theorem hull_opens {mk : MK} {ks : List (List Int)} {x : List Int} (hx : KeyOk mk x) (hm : x ∈ ks) : opensB (hull mk ks) x = true := by
  unfold opensB
  refine List.all_eq_true.2 (fun i hi => ?_)
  have hi' := List.mem_range.1 hi
  have h1 := hx.len
  have h2 := hx.cut i hi'
  rw [hull_at (by omega)]
  exact has_setAt.2 ⟨⟨h2.1, by omega⟩, x, hm, rfl⟩
theorem row_bits {mk : MK} {t : List (List Int)} (h : SysOk mk t) {i j : Nat} (hi : i < t.length) (hj : j < t.length) (hb : ∀ d, d < doorsOf t → (t.getD i []).getD d 0 = (t.getD j []).getD d 0) : t.getD i [] = t.getD j [] := by
  have h1 := h.row i hi
  have h2 := h.row j hj
  refine List.ext_getElem (by omega) (fun d g1 g2 => ?_)
  have := hb d (by omega)
  rw [getD_eq0 g1, getD_eq0 g2] at this
  exact this
theorem key_row {mk : MK} {t cuts : List (List Int)} (h : DesignOk mk t cuts) (hf : faults mk t cuts = 0) {i j : Nat} (hi : i < t.length) (hj : j < t.length) (he : cuts.getD i [] = cuts.getD j []) {d : Nat} (hd : d < doorsOf t) (h1 : (t.getD i []).getD d 0 = 1) : (t.getD j []).getD d 0 = 1 := by
  have heq := h.eq
  have hb := h.bit j d hj hd
  have hno := (faults_zero.1 hf) j (by omega) d hd
  by_cases h0 : (t.getD j []).getD d 0 = 0
  · exfalso
    have hmem : cuts.getD j [] ∈ cuts := by
      have : j < cuts.length := by omega
      rw [List.getD_eq_getElem?_getD, List.getElem?_eq_getElem this]; exact List.getElem_mem this
    have hin : cuts.getD j [] ∈ keysAt t cuts d cuts.length := by
      unfold keysAt
      refine List.mem_map.2 ⟨i, ?_, he⟩
      unfold rowsAt
      exact List.mem_filter.2 ⟨List.mem_range.2 (by omega), by rw [h1]; rfl⟩
    unfold faultAt at hno
    rw [lock_at hd, hull_opens (h.key _ hmem) hin, h0] at hno
    exact absurd hno (by decide)
  · omega
theorem keys_rows {mk : MK} {t cuts : List (List Int)} (h : DesignOk mk t cuts) (hf : faults mk t cuts = 0) {i j : Nat} (hi : i < t.length) (hj : j < t.length) (he : cuts.getD i [] = cuts.getD j []) : t.getD i [] = t.getD j [] := by
  refine row_bits h.toPartOk.toSysOk hi hj (fun d hd => ?_)
  have hb := h.bit i d hi hd
  have hb' := h.bit j d hj hd
  by_cases h1 : (t.getD i []).getD d 0 = 1
  · rw [h1, key_row h hf hi hj he hd h1]
  · by_cases h2 : (t.getD j []).getD d 0 = 1
    · have := key_row h hf hj hi he.symm hd h2; omega
    · omega
theorem diff_le {mk : MK} {t cuts : List (List Int)} (h : DesignOk mk t cuts) (hf : faults mk t cuts = 0) (d : Nat) : diffN (keysAt t t d t.length) (keysAt t t d t.length).length ≤ mk.d.toNat ^ mk.c.toNat := by
  have heq := h.eq
  have hlen : (keysAt t t d t.length).length = (rowsAt t d t.length).length := by simp [keysAt]
  have hat : ∀ i, i < (rowsAt t d t.length).length → (keysAt t t d t.length).getD i [] = t.getD ((rowsAt t d t.length).getD i 0) [] ∧ (rowsAt t d t.length).getD i 0 < t.length := by
    intro i hi
    refine ⟨by simp [keysAt, hi], ?_⟩
    have : (rowsAt t d t.length).getD i 0 = (rowsAt t d t.length)[i] := by simp [hi]
    rw [this]
    exact rowsAt_lt (List.getElem_mem hi)
  have hp := distI_pair (keysAt t t d t.length) _ (Nat.le_refl _)
  have hK : ((distI (keysAt t t d t.length) (keysAt t t d t.length).length).map fun i => cuts.getD ((rowsAt t d t.length).getD i 0) []).length ≤ mk.d.toNat ^ mk.c.toNat := by
    refine lists_le ?_ (fun l hl => ?_)
    · rw [List.Nodup, List.pairwise_map]
      refine List.Pairwise.imp (fun {i j} hij he => ?_) hp
      obtain ⟨h1, h2, h3⟩ := hij
      have hi := hat i (by omega)
      have hj := hat j (by omega)
      rw [hi.1, hj.1] at h3
      exact h3 (keys_rows h hf hi.2 hj.2 he)
    · obtain ⟨i, hi, rfl⟩ := List.mem_map.1 hl
      have hi' : i < (keysAt t t d t.length).length := by
        unfold distI at hi
        exact List.mem_range.1 (List.mem_filter.1 hi).1
      have hi2 := hat i (by omega)
      have hlt : (rowsAt t d t.length).getD i 0 < cuts.length := by rw [heq]; exact hi2.2
      have hmem : cuts.getD ((rowsAt t d t.length).getD i 0) [] ∈ cuts := by
        generalize (rowsAt t d t.length).getD i 0 = q at *
        rw [List.getD_eq_getElem?_getD, List.getElem?_eq_getElem hlt]; exact List.getElem_mem hlt
      have hk := h.key _ hmem
      generalize cuts.getD ((rowsAt t d t.length).getD i 0) [] = l at *
      have hm1 := h.mk1
      have hm2 := h.mk2
      refine ⟨by have := hk.len; omega, fun x hx => ?_⟩
      obtain ⟨q, hq, rfl⟩ := List.getElem_of_mem hx
      have := hk.cut q hq
      have e : l.getD q 0 = l[q] := by simp [hq]
      rw [e] at this
      omega
  simpa [diffN] using hK

/-- the rows that open a door -/
def openRows (t : List (List Int)) (d : Nat) : List (List Int) := keysAt t t d t.length
def doorW (mk : MK) (t : List (List Int)) (d : Nat) : Nat := wafN mk.c.toNat mk.d.toNat (diffN (openRows t d) (openRows t d).length)
def leastTo (mk : MK) (t : List (List Int)) : Nat → Nat
  | 0 => 0
  | k + 1 => leastTo mk t k + doorW mk t k
/-- no door asks for more than there is -/
def LeastOk (mk : MK) (t : List (List Int)) : Prop := ∀ d, diffN (openRows t d) (openRows t d).length ≤ mk.d.toNat ^ mk.c.toNat
theorem doorW_le {mk : MK} {t : List (List Int)} (hs : SysOk mk t) (h : LeastOk mk t) (d : Nat) : doorW mk t d ≤ 42 := by
  have h1 := hs.mk1
  have h2 := hs.mk2
  have h3 := wafN_le (c := mk.c.toNat) (d := mk.d.toNat) (by omega) (by omega) (h d)
  have h4 : mk.c.toNat * (mk.d.toNat - 1) ≤ 6 * 7 := Nat.mul_le_mul (by omega) (by omega)
  unfold doorW
  omega
theorem leastTo_le {mk : MK} {t : List (List Int)} (hs : SysOk mk t) (h : LeastOk mk t) : ∀ k, leastTo mk t k ≤ k * 42
  | 0 => by simp [leastTo]
  | k + 1 => by
    have := leastTo_le hs h k
    have := doorW_le hs h k
    simp only [leastTo]
    omega
def spared (mk : MK) (t cuts : List (List Int)) : Int × Int := if designCode mk t cuts ≠ 0 then (0, designCode mk t cuts) else (sysWafers mk t cuts - (leastTo mk t (doorsOf t) : Int), 0)
theorem spared_bad {mk : MK} {t cuts : List (List Int)} (h : designCode mk t cuts ≠ 0) : spared mk t cuts = (0, designCode mk t cuts) := by unfold spared; rw [if_pos h]
theorem spared_ok {mk : MK} {t cuts : List (List Int)} (h : designCode mk t cuts = 0) : spared mk t cuts = (sysWafers mk t cuts - (leastTo mk t (doorsOf t) : Int), 0) := by unfold spared; rw [if_neg (by omega)]
theorem design_least {mk : MK} {t cuts : List (List Int)} (h : designCode mk t cuts = 0) : LeastOk mk t := by
  have h1 : isDesign mk t cuts = true := by
    unfold designCode at h
    split at h
    · assumption
    · omega
  have h2 : faults mk t cuts = 0 := by
    unfold isDesign at h1
    obtain ⟨-, h3⟩ := Bool.and_eq_true_iff.1 h1
    obtain ⟨-, h4⟩ := Bool.and_eq_true_iff.1 h3
    exact of_decide_eq_true h4
  exact fun d => diff_le (designCode_zero h) h2 d
end Go.Proofs.Ytgagjibjnaappaa
