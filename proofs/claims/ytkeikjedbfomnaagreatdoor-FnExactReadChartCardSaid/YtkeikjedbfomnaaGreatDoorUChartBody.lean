/- Proved: the text of a chart (plain), and lines in memory. -/
import Derived.Test.YtkeikjedbfomnaaGreatDoorUDoorLineI
namespace Go.Proofs.YtkeikjedbfomnaaGreatDoor
open Go.ChangeShapes Go.WideShapes Go.ChangeAt Go.RowKit
set_option linter.unusedVariables false

def makerV (mk : MK) : ByteArray := (⟨#[109, 97, 107, 101, 114, 32]⟩ : ByteArray) ++ strOf (joinI [mk.c, mk.d, mk.s, mk.m, mk.l] [32])
def keyLines (t cuts : List (List Int)) (n : Nat) : List ByteArray := (List.range n).map (keyLineV t cuts)
def doorLines (mk : MK) (t cuts : List (List Int)) (n : Nat) : List ByteArray := (List.range n).map fun d => doorLineV d (pinsAt mk t cuts d)
theorem keyLines_succ (t cuts : List (List Int)) (n : Nat) : keyLines t cuts (n + 1) = keyLines t cuts n ++ [keyLineV t cuts n] := by unfold keyLines; rw [List.range_succ, List.map_append]; rfl
theorem doorLines_succ (mk : MK) (t cuts : List (List Int)) (n : Nat) : doorLines mk t cuts (n + 1) = doorLines mk t cuts n ++ [doorLineV n (pinsAt mk t cuts n)] := by unfold doorLines; rw [List.range_succ, List.map_append]; rfl
/-- lines one behind the other -/
def chartD (ls : List ByteArray) : List UInt8 := (ls.map fun l => l.data.toList ++ [10]).flatten
theorem chartD_snoc (ls : List ByteArray) (l : ByteArray) : (strOf (chartD ls) ++ l) ++ (⟨#[10]⟩ : ByteArray) = strOf (chartD (ls ++ [l])) := by
  have e : (⟨#[10]⟩ : ByteArray) = strOf [10] := rfl
  conv => lhs; rw [← strOf_data l]
  rw [e, strOf_app, strOf_app]
  unfold chartD
  rw [List.map_append, List.flatten_append]
  simp [List.append_assoc]
theorem chartD_one (l : ByteArray) : l ++ (⟨#[10]⟩ : ByteArray) = strOf (chartD [l]) := by
  have e : (⟨#[10]⟩ : ByteArray) = strOf [10] := rfl
  conv => lhs; rw [← strOf_data l]
  rw [e, strOf_app]
  unfold chartD
  simp
theorem chartD_join : ∀ (ls : List ByteArray), ls ≠ [] → strOf (Lib.join (ls.map (·.data.toList)) [10]) ++ (⟨#[10]⟩ : ByteArray) = strOf (chartD ls)
  | [], h => absurd rfl h
  | x :: r, _ => by
    have e : (⟨#[10]⟩ : ByteArray) = strOf [10] := rfl
    have hr : ∀ (r : List ByteArray), Lib.joinTail [10] (r.map (·.data.toList)) ++ [10] = [10] ++ chartD r := by
      intro r
      induction r with
      | nil => rfl
      | cons y r ih =>
        have e1 : Lib.joinTail [10] ((y :: r).map (·.data.toList)) = ([10] ++ y.data.toList) ++ Lib.joinTail [10] (r.map (·.data.toList)) := by unfold Lib.joinTail; simp
        rw [e1, List.append_assoc, ih]
        unfold chartD
        simp
    rw [e, strOf_app, List.map_cons, Lib.join_cons, List.append_assoc, hr]
    unfold chartD
    simp [List.append_assoc]
theorem chartD_len {m : Nat} : ∀ (ls : List ByteArray), (∀ l ∈ ls, l.size ≤ m) → (chartD ls).length ≤ ls.length * (m + 1)
  | [], _ => by simp [chartD]
  | x :: r, h => by
    have ih := chartD_len r (fun y hy => h y (List.mem_cons_of_mem _ hy))
    have hx := h x (by simp)
    have e : chartD (x :: r) = (x.data.toList ++ [10]) ++ chartD r := by unfold chartD; simp
    have hl : x.data.toList.length = x.size := len_str x
    rw [e, List.length_append, List.length_append, List.length_singleton, hl, List.length_cons, Nat.succ_mul]
    omega
/-- all lines of a chart -/
def chartLs (mk : MK) (t cuts : List (List Int)) : List ByteArray := (makerV mk :: keyLines t cuts cuts.length) ++ doorLines mk t cuts (doorsOf t)
def chartV (mk : MK) (t cuts : List (List Int)) : ByteArray := strOf (chartD (chartLs mk t cuts))
def chartM (mk : MK) (t cuts : List (List Int)) : ByteArray × Int := if designCode mk t cuts ≠ 0 then (⟨#[]⟩, designCode mk t cuts) else if 240 < (chartV mk t cuts).size then (⟨#[]⟩, 3) else (chartV mk t cuts, 0)
theorem chart_bad {mk : MK} {t cuts : List (List Int)} (h : designCode mk t cuts ≠ 0) : chartM mk t cuts = (⟨#[]⟩, designCode mk t cuts) := by unfold chartM; rw [if_pos h]
theorem chart_long {mk : MK} {t cuts : List (List Int)} (h : designCode mk t cuts = 0) (h2 : 240 < (chartV mk t cuts).size) : chartM mk t cuts = (⟨#[]⟩, 3) := by unfold chartM; rw [if_neg (by simpa using h), if_pos h2]
theorem chart_ok {mk : MK} {t cuts : List (List Int)} (h : designCode mk t cuts = 0) (h2 : ¬ 240 < (chartV mk t cuts).size) : chartM mk t cuts = (chartV mk t cuts, 0) := by unfold chartM; rw [if_neg (by simpa using h), if_neg h2]
theorem size_app (a b : ByteArray) : (a ++ b).size = a.size + b.size := by simp
theorem keyLine_size {mk : MK} {t cuts : List (List Int)} (ok : DesignOk mk t cuts) {k : Nat} (hk : k < cuts.length) : (keyLineV t cuts k).size ≤ 200 := by
  have hkt : k < t.length := by rw [← ok.eq]; exact hk
  have h1 := (cutDigs ok hk).1
  have h2 := (rowDigs ok hkt).1
  have h3 := ok.len
  have h4 : (numD (k : Int)).length ≤ 11 := dec_len10 (by omega)
  unfold keyLineV
  simp only [size_app, strOf_size, digsD_len]
  show 4 + _ + 1 + _ + 1 + _ ≤ 200
  omega
theorem doorLine_size {mk : MK} {t cuts : List (List Int)} (ok : DesignOk mk t cuts) {d : Nat} (hd : d < doorsOf t) : (doorLineV d (pinsAt mk t cuts d)).size ≤ 200 := by
  have h2 := pinsD_len (pinsAt_ok ok hd)
  have h3 := ok.doors
  have h4 : (numD (d : Int)).length ≤ 11 := dec_len10 (by omega)
  unfold doorLineV
  simp only [size_app, strOf_size]
  show 5 + _ + 1 + _ ≤ 200
  omega
theorem makerDigs {mk : MK} (h : isMaker mk = true) : ∀ x ∈ [mk.c, mk.d, mk.s, mk.m, mk.l], 0 ≤ x ∧ x < 10 := by
  have := isMaker_iff.1 h
  intro x hx
  simp only [List.mem_cons, List.not_mem_nil, or_false] at hx
  rcases hx with rfl | rfl | rfl | rfl | rfl <;> omega
theorem makerL_len {mk : MK} (h : isMaker mk = true) : (joinI [mk.c, mk.d, mk.s, mk.m, mk.l] [32]).length ≤ 60 := by
  have h1 := join_len [32] 1 ([mk.c, mk.d, mk.s, mk.m, mk.l].map numD) (fun y hy => by
    obtain ⟨x, hx, rfl⟩ := List.mem_map.1 hy
    rw [numD_one (makerDigs h x hx)]
    exact Nat.le_refl _)
  exact Nat.le_trans h1 (by simp)
theorem maker_size {mk : MK} (h : isMaker mk = true) : (makerV mk).size ≤ 200 := by
  have h1 := makerL_len h
  unfold makerV
  simp only [size_app, strOf_size]
  show 6 + _ ≤ 200
  omega
theorem design_maker {mk : MK} {t cuts : List (List Int)} (ok : DesignOk mk t cuts) : isMaker mk = true := by
  have := ok.sys
  unfold isSystem at this
  exact (Bool.and_eq_true_iff.1 this).1
theorem lines_size {mk : MK} {t cuts : List (List Int)} (ok : DesignOk mk t cuts) {k d : Nat} (hk : k ≤ cuts.length) (hd : d ≤ doorsOf t) : ∀ l ∈ (makerV mk :: keyLines t cuts k) ++ doorLines mk t cuts d, l.size ≤ 200 := by
  intro l hl
  rcases List.mem_append.1 hl with hl | hl
  · rcases List.mem_cons.1 hl with rfl | hl
    · exact maker_size (design_maker ok)
    · unfold keyLines at hl
      obtain ⟨i, hi, rfl⟩ := List.mem_map.1 hl
      exact keyLine_size ok (by have := List.mem_range.1 hi; omega)
  · unfold doorLines at hl
    obtain ⟨i, hi, rfl⟩ := List.mem_map.1 hl
    exact doorLine_size ok (by have := List.mem_range.1 hi; omega)
theorem lines_len (mk : MK) (t cuts : List (List Int)) (k d : Nat) : ((makerV mk :: keyLines t cuts k) ++ doorLines mk t cuts d).length = 1 + k + d := by
  unfold keyLines doorLines
  simp
  omega
theorem part_size {mk : MK} {t cuts : List (List Int)} (ok : DesignOk mk t cuts) {k d : Nat} (hk : k ≤ cuts.length) (hd : d ≤ doorsOf t) : (strOf (chartD ((makerV mk :: keyLines t cuts k) ++ doorLines mk t cuts d))).size ≤ 10000 := by
  have h1 := chartD_len (m := 200) _ (lines_size ok hk hd)
  rw [lines_len] at h1
  have h2 := ok.len
  have h3 := ok.doors
  have h4 := ok.eq
  rw [strOf_size]
  have : (1 + k + d) * (200 + 1) ≤ 23 * 201 := Nat.mul_le_mul (by omega) (by omega)
  omega

/-- lines and locks in memory: the lines lie apart from the locks -/
structure ChSt (B : Nat) (wb w : World) (sv lv : Value) (ls : List ByteArray) (lks : List (List (List Int))) : Prop where
  own : OwnP Value.string 9 B w sv ls
  lk : ∃ lo hi, LocksR ⟨lo, hi, true⟩ w lv lks ∧ hi ≤ w.heap.size ∧ ∀ j, sv.ownBlock = some j → j < lo ∨ hi ≤ j
  bel : Below B wb w
  ge : B ≤ w.heap.size
theorem ChSt.ext {B : Nat} {wb w w' : World} {sv lv : Value} {ls : List ByteArray} {lks : List (List (List Int))} (h : ChSt B wb w sv lv ls lks) (e : Ext w w') : ChSt B wb w' sv lv ls lks := by
  obtain ⟨lo, hi, h1, h2, h3⟩ := h.lk
  exact ⟨h.own.ext e, ⟨lo, hi, stable_locks.ext h1 e, Nat.le_trans h2 e.size, h3⟩, h.bel.trans (Below.mono e h.ge), Nat.le_trans h.ge e.size⟩
theorem ChSt.app {B : Nat} {wb w w' : World} {sv lv v' : Value} {ls ls' : List ByteArray} {lks : List (List (List Int))} (h : ChSt B wb w sv lv ls lks) (o : OwnP Value.string 9 B w' v' ls') (g : w.grownBy w' sv.ownBlock) (b : Below B w w') (hat : ∀ k, v'.ownBlock = some k → sv.ownBlock = some k ∨ w.heap.size ≤ k) : ChSt B wb w' v' lv ls' lks := by
  obtain ⟨lo, hi, h1, h2, h3⟩ := h.lk
  have hs := g.size
  refine ⟨o, ⟨lo, hi, stable_locks.keep h1 (fun j hj hl => g.block j hl (fun e => ?_)), by omega, fun j hj => ?_⟩, h.bel.trans b, Nat.le_trans h.ge hs⟩
  · have q1 := hj.1
    have q2 := hj.2
    rcases h3 j e.symm with q | q <;> (simp only at q1 q2; omega)
  · rcases hat j hj with q | q
    · exact h3 j q
    · exact .inr (by omega)
theorem ChSt.locks {B : Nat} {wb w : World} {sv lv : Value} {ls : List ByteArray} {lks : List (List (List Int))} (h : ChSt B wb w sv lv ls lks) : ∃ z, LocksR z w lv lks := by
  obtain ⟨lo, hi, h1, -⟩ := h.lk
  exact ⟨_, h1⟩
/-- the lines first, then the locks -/
theorem chSt_a {wb w5 w6 : World} {y : ByteArray} {lv : Value} {lks : List (List (List Int))} (e5 : Ext wb w5) (e6 : Ext (w5.alloc (.cells #[.string y] 9)) w6) (hl : LocksR (.new (w5.alloc (.cells #[.string y] 9)) w6) w6 lv lks) : ChSt wb.heap.size wb w6 (.slice (some ⟨w5.heap.size, 0, none⟩) 1 1) lv [y] lks := by
  have hs : (w5.alloc (.cells #[.string y] 9)).heap.size = w5.heap.size + 1 := by simp
  have h56 : Ext w5 w6 := (Ext.alloc _ _).trans e6
  refine ⟨(OwnP.one (f := Value.string) e5.size y).ext e6, ⟨_, _, hl, Nat.le_refl _, fun j hj => .inl ?_⟩, e5.trans h56, (e5.trans h56).size⟩
  injection hj with hj
  simp only at hj
  show j < (w5.alloc _).heap.size
  omega
/-- the locks first, then the lines -/
theorem chSt_b {wb w5 w6 : World} {y : ByteArray} {lv : Value} {lks : List (List (List Int))} (e5 : Ext wb w5) (e6 : Ext w5 w6) (hl : LocksR (.new w5 w6) w6 lv lks) : ChSt wb.heap.size wb (w6.alloc (.cells #[.string y] 9)) (.slice (some ⟨w6.heap.size, 0, none⟩) 1 1) lv [y] lks := by
  have h6 := e5.trans e6
  refine ⟨OwnP.one (f := Value.string) h6.size y, ⟨_, _, stable_locks.ext hl (Ext.alloc _ _), by simp, fun j hj => .inr ?_⟩, h6.trans (Ext.alloc _ _), by simp; have := h6.size; omega⟩
  injection hj with hj
  simp only at hj
  show w6.heap.size ≤ j
  omega
end Go.Proofs.YtkeikjedbfomnaaGreatDoor
