/- Proved: strings.Count and strings.HasSuffix, laid; the lines of a text: linesCode, CountLines of the program; l27Lines, CountLines of the reference; the first line in which two texts differ (plain); strings.genSplit, laid; strings.SplitAfter at a line's end: the lines with their ends; SameChart of the program; SameChart of the reference; laws.big: whether a code is longer than 4096 bytes. -/
import Derived.Test.YtkeikjedbfomnaaGreatDoorChecked
import Derived.Shelf.Strings.Count
import Derived.Shelf.Strings.Prefix
import Derived.Ground.NamesProg
import Derived.Shelf.Strings.Split
import Derived.Shelf.LaysM
import Derived.Lib.SplitLaws
import Derived.Deep.RegionHeld3
import Derived.Test.YtkeikjedbfomnaaGreatDoorUPkA
import Derived.Test.YtkeikjedbfomnaaGreatDoorUPkT1
import Derived.Test.YtkeikjedbfomnaaGreatDoorUPkDa
namespace Go.Proofs.YtkeikjedbfomnaaGreatDoor
open Go.ChangeShapes Go.WideShapes Go.ChangeAt Go.RowKit
set_option linter.unusedVariables false
open Go.Shelf

def Tryz.strCount_ren : Go.Shelf.Ren := ⟨fun | 138 => 77 | 195 => 113 | 218 => 115 | 143 => 78 | 219 => 116 | 217 => 144 | 225 => 145 | 224 => 146 | 267 => 147 | 266 => 161 | 314 => 162 | n => n, fun | 9 => 9 | 3 => 3 | 4 => 4 | 5 => 5 | 0 => 0 | 46 => 150 | 146 => 170 | 51 => 169 | n => n, fun | 1 => 0 | n => n⟩
theorem Tryz.strCount : Go.Proofs.Lays.n138 Tryz.prog Tryz.strCount_ren := {
  mixed := by kernel_rfl
  f138 := Tryz.func77.trans (congrArg some (by kernel_rfl))
  f143 := Tryz.func78.trans (congrArg some (by kernel_rfl))
  f195 := Tryz.func113.trans (congrArg some (by kernel_rfl))
  f217 := Tryz.func144.trans (congrArg some (by kernel_rfl))
  f218 := Tryz.func115.trans (congrArg some (by kernel_rfl))
  f219 := Tryz.func116.trans (congrArg some (by kernel_rfl))
  f224 := Tryz.func146.trans (congrArg some (by kernel_rfl))
  f225 := Tryz.func145.trans (congrArg some (by kernel_rfl))
  f266 := Tryz.func161.trans (congrArg some (by kernel_rfl))
  f267 := Tryz.func147.trans (congrArg some (by kernel_rfl))
  f314 := Tryz.func162.trans (congrArg some (by kernel_rfl))
  t0 := Tryz.underlying0
  a0 := Tryz.isAgg0
  z0 := Tryz.sizeOf0
  v0 := Tryz.zeroValue0
  t3 := Tryz.underlying3
  a3 := Tryz.isAgg3
  z3 := Tryz.sizeOf3
  v3 := Tryz.zeroValue3
  t4 := Tryz.underlying4
  a4 := Tryz.isAgg4
  z4 := Tryz.sizeOf4
  v4 := Tryz.zeroValue4
  t5 := Tryz.underlying5
  a5 := Tryz.isAgg5
  z5 := Tryz.sizeOf5
  v5 := Tryz.zeroValue5
  t9 := Tryz.underlying9
  a9 := Tryz.isAgg9
  z9 := Tryz.sizeOf9
  v9 := Tryz.zeroValue9
  t46 := Tryz.underlying150
  a46 := Tryz.isAgg150
  z46 := Tryz.sizeOf150
  v46 := Tryz.zeroValue150
  t51 := Tryz.underlying169
  a51 := Tryz.isAgg169
  z51 := Tryz.sizeOf169
  v51 := Tryz.zeroValue169
  t146 := Tryz.underlying170
  a146 := Tryz.isAgg170
  z146 := Tryz.sizeOf170
  v146 := Tryz.zeroValue170
  g1 := by kernel_rfl }
theorem count_c (w : World) (s : ByteArray) : Calls Tryz.prog 77 #[.string s, .string ⟨#[10]⟩] w (fun e w' => e = .returned (.int .i64 (Lib.countByte s.data.toList 10)) ∧ w' = w) := Go.Proofs.Any.strings_Count_one Tryz.strCount s 10 w

open Go.ChangeShapes Go.WideShapes Go.ChangeAt Go.RowKit
set_option linter.unusedVariables false

def codeL (l : List UInt8) : Int := if 240 < l.length then 3 else if (linesTo 10 l).2 = [] then 0 else 6
theorem codeL_big {l : List UInt8} (h : 240 < l.length) : codeL l = 3 := by unfold codeL; rw [if_pos h]
theorem codeL_ok {l : List UInt8} (h : ¬ 240 < l.length) (h2 : (linesTo 10 l).2 = []) : codeL l = 0 := by unfold codeL; rw [if_neg h, if_pos h2]
theorem codeL_bad {l : List UInt8} (h : ¬ 240 < l.length) (h2 : ¬ (linesTo 10 l).2 = []) : codeL l = 6 := by unfold codeL; rw [if_neg h, if_neg h2]
theorem suffix_nl (l : List UInt8) (hl : l ≠ []) : Lib.hasSuffix l [10] = decide ((linesTo 10 l).2 = []) := by
  rw [Bool.eq_iff_iff, decide_eq_true_iff, linesTo_last]
  unfold Lib.hasSuffix
  rw [List.isSuffixOf_iff_suffix]
  constructor
  · rintro ⟨l', h⟩; exact .inr ⟨l', h.symm⟩
  · rintro (h | ⟨l', h⟩)
    · exact absurd h hl
    · exact ⟨l', h.symm⟩

theorem countL_code {l : List UInt8} (h : codeL l ≠ 0) : countL l = (0, codeL l) := by
  unfold codeL countL at *
  split
  · rfl
  · rename_i h1
    rw [if_neg h1] at h
    split
    · rename_i h2; rw [if_pos h2] at h; exact absurd rfl h
    · rfl
theorem countL_zero {l : List UInt8} (h : codeL l = 0) : countL l = (((l.count 10 : Nat) : Int), 0) := by
  unfold codeL at h
  unfold countL
  split
  · rename_i h1; rw [if_pos h1] at h; omega
  · rename_i h1
    rw [if_neg h1] at h
    split
    · rfl
    · rename_i h2; rw [if_neg h2] at h; omega

theorem OwnP.cap_le {α : Type} {f : α → Value} {e : TypeId} {B : Nat} {w : World} {a : Option Addr} {n c : Nat} {xs : List α} (h : OwnP f e B w (.slice a n c) xs) : n ≤ c := by
  obtain ⟨h1, h2⟩ := h
  rcases h2 with ⟨hv, h0⟩ | ⟨g, cap, cur, hv, hb, hg, hnc, hcm, hcs, htake⟩
  · injection hv with q1 q2 q3; omega
  · injection hv with q1 q2 q3; omega
/-- the lines of a text and a code -/
def LinesRes (l : List UInt8) (r : Value) (w' : World) : Prop := ∃ a n c, r = .tuple #[.slice a n c, .int .i64 (codeL l)] ∧ (codeL l = 0 → n = l.count 10 ∧ ∀ i, i < n → ∃ b, a = some ⟨b, 0, none⟩ ∧ w'.cell? ⟨b, i, none⟩ = some (.string (strOf ((linesTo 10 l).1.getD i []))))

open Go.ChangeShapes Go.WideShapes Go.ChangeAt Go.RowKit
set_option linter.unusedVariables false

/-- how many first lines are alike -/
def cp : List (List UInt8) → List (List UInt8) → Nat
  | a :: A, b :: B => if a = b then cp A B + 1 else 0
  | _, _ => 0
theorem cp_cons (a : List UInt8) (A : List (List UInt8)) (b : List UInt8) (B : List (List UInt8)) : cp (a :: A) (b :: B) = if a = b then cp A B + 1 else 0 := rfl
theorem cp_le : ∀ (A B : List (List UInt8)), cp A B ≤ A.length ∧ cp A B ≤ B.length
  | [], B => by simp [cp]
  | a :: A, [] => by simp [cp]
  | a :: A, b :: B => by
    have := cp_le A B
    unfold cp
    split <;> simp only [List.length_cons] <;> omega
theorem cp_same : ∀ (A B : List (List UInt8)) {i : Nat}, i < cp A B → A.getD i [] = B.getD i []
  | [], B, i, h => by simp [cp] at h
  | a :: A, [], i, h => by simp [cp] at h
  | a :: A, b :: B, i, h => by
    unfold cp at h
    split at h
    · rename_i e
      cases i with
      | zero => simpa using e
      | succ i => simpa using cp_same A B (by omega : i < cp A B)
    · omega
theorem cp_diff : ∀ (A B : List (List UInt8)), cp A B < A.length → cp A B < B.length → A.getD (cp A B) [] ≠ B.getD (cp A B) []
  | [], B, h, _ => by simp at h
  | a :: A, [], _, h => by simp at h
  | a :: A, b :: B, h1, h2 => by
    by_cases e : a = b
    · have hc : cp (a :: A) (b :: B) = cp A B + 1 := by rw [cp_cons, if_pos e]
      rw [hc] at h1 h2 ⊢
      simp only [List.length_cons] at h1 h2
      simpa using cp_diff A B (by omega) (by omega)
    · have hc : cp (a :: A) (b :: B) = 0 := by rw [cp_cons, if_neg e]
      rw [hc]; simpa using e
theorem cp_full : ∀ (A B : List (List UInt8)), cp A B = A.length → cp A B = B.length → A = B
  | [], [], _, _ => rfl
  | [], b :: B, _, h => by simp [cp] at h
  | a :: A, [], h, _ => by simp [cp] at h
  | a :: A, b :: B, h1, h2 => by
    by_cases e : a = b
    · have hc : cp (a :: A) (b :: B) = cp A B + 1 := by rw [cp_cons, if_pos e]
      rw [hc] at h1 h2
      simp only [List.length_cons] at h1 h2
      rw [e, cp_full A B (by omega) (by omega)]
    · have hc : cp (a :: A) (b :: B) = 0 := by rw [cp_cons, if_neg e]
      rw [hc] at h1; simp at h1
theorem cp_self (A : List (List UInt8)) : cp A A = A.length := by
  induction A with
  | nil => rfl
  | cons a A ih => rw [cp_cons, if_pos rfl, ih]; rfl
/-- the closed lines of a text -/
def lns (l : List UInt8) : List (List UInt8) := (linesTo 10 l).1
def sameC (la lb : List UInt8) : Int × Int :=
  if codeL la ≠ 0 ∨ codeL lb ≠ 0 then (0, if codeL la = 3 ∨ codeL lb = 3 then 3 else 6) else if lns la = lns lb then (0, 0) else (((cp (lns la) (lns lb) : Nat) : Int) + 1, 0)
theorem sameC_lim {la lb : List UInt8} (h : codeL la = 3 ∨ codeL lb = 3) : sameC la lb = (0, 3) := by
  unfold sameC
  rw [if_pos (by rcases h with h | h <;> omega), if_pos h]
theorem sameC_syn {la lb : List UInt8} (h : codeL la ≠ 0 ∨ codeL lb ≠ 0) (h2 : ¬ (codeL la = 3 ∨ codeL lb = 3)) : sameC la lb = (0, 6) := by
  unfold sameC
  rw [if_pos h, if_neg h2]
theorem sameC_eq {la lb : List UInt8} (h : codeL la = 0) (h2 : codeL lb = 0) (h3 : lns la = lns lb) : sameC la lb = (0, 0) := by
  unfold sameC
  rw [if_neg (by omega), if_pos h3]
theorem sameC_ne {la lb : List UInt8} (h : codeL la = 0) (h2 : codeL lb = 0) (h3 : lns la ≠ lns lb) : sameC la lb = (((cp (lns la) (lns lb) : Nat) : Int) + 1, 0) := by
  unfold sameC
  rw [if_neg (by omega), if_neg h3]
theorem codeL_val (l : List UInt8) : codeL l = 0 ∨ codeL l = 3 ∨ codeL l = 6 := by
  unfold codeL
  split
  · exact .inr (.inl rfl)
  · split
    · exact .inl rfl
    · exact .inr (.inr rfl)
theorem codeL_three {l : List UInt8} : codeL l = 3 ↔ 240 < l.length := by
  unfold codeL
  split
  · simp; assumption
  · split <;> simp <;> omega
theorem codeL_open {l : List UInt8} (h : codeL l = 0) : (linesTo 10 l).2 = [] := by
  unfold codeL at h
  split at h
  · omega
  · split at h
    · assumption
    · omega
theorem lns_inj {la lb : List UInt8} (h : codeL la = 0) (h2 : codeL lb = 0) (h3 : lns la = lns lb) : la = lb := by
  have e1 := linesTo_join 10 la
  have e2 := linesTo_join 10 lb
  rw [codeL_open h, List.append_nil] at e1
  rw [codeL_open h2, List.append_nil] at e2
  unfold lns at h3
  rw [e1, e2, h3]
theorem strOf_inj {a b : List UInt8} (h : strOf a = strOf b) : a = b := by
  have := congrArg (fun s : ByteArray => s.data.toList) h
  simpa [strOf] using this
theorem count_code {l : List UInt8} (h : codeL l = 0) : l.count 10 ≤ 240 := by
  have h1 := List.count_le_length (a := (10 : UInt8)) (l := l)
  have h2 : ¬ 240 < l.length := fun q => by have := codeL_three.2 q; omega
  omega

open Go.ChangeShapes Go.WideShapes Go.ChangeAt Go.RowKit
set_option linter.unusedVariables false
open Go.Shelf

def Tryz.genSplit_ren : Go.Shelf.Ren := ⟨fun | 221 => 48 | 268 => 76 | 138 => 77 | 143 => 78 | 195 => 113 | 197 => 114 | 218 => 115 | 219 => 116 | 260 => 143 | 217 => 144 | 225 => 145 | 224 => 146 | 267 => 147 | 266 => 161 | 314 => 162 | n => n, fun | 9 => 9 | 3 => 3 | 31 => 42 | 4 => 4 | 0 => 0 | 105 => 127 | 21 => 21 | 5 => 5 | 46 => 150 | 119 => 165 | 139 => 168 | 138 => 167 | 146 => 170 | 51 => 169 | n => n, fun | 1 => 0 | 3 => 1 | 4 => 2 | n => n⟩
theorem Tryz.genSplit : Go.Proofs.Lays.n221 Tryz.prog Tryz.genSplit_ren := {
  mixed := by kernel_rfl
  f138 := Tryz.func77.trans (congrArg some (by kernel_rfl))
  f143 := Tryz.func78.trans (congrArg some (by kernel_rfl))
  f195 := Tryz.func113.trans (congrArg some (by kernel_rfl))
  f197 := Tryz.func114.trans (congrArg some (by kernel_rfl))
  f217 := Tryz.func144.trans (congrArg some (by kernel_rfl))
  f218 := Tryz.func115.trans (congrArg some (by kernel_rfl))
  f219 := Tryz.func116.trans (congrArg some (by kernel_rfl))
  f221 := Tryz.func48.trans (congrArg some (by kernel_rfl))
  f224 := Tryz.func146.trans (congrArg some (by kernel_rfl))
  f225 := Tryz.func145.trans (congrArg some (by kernel_rfl))
  f260 := Tryz.func143.trans (congrArg some (by kernel_rfl))
  f266 := Tryz.func161.trans (congrArg some (by kernel_rfl))
  f267 := Tryz.func147.trans (congrArg some (by kernel_rfl))
  f268 := Tryz.func76.trans (congrArg some (by kernel_rfl))
  f314 := Tryz.func162.trans (congrArg some (by kernel_rfl))
  t0 := Tryz.underlying0
  a0 := Tryz.isAgg0
  z0 := Tryz.sizeOf0
  v0 := Tryz.zeroValue0
  t3 := Tryz.underlying3
  a3 := Tryz.isAgg3
  z3 := Tryz.sizeOf3
  v3 := Tryz.zeroValue3
  t4 := Tryz.underlying4
  a4 := Tryz.isAgg4
  z4 := Tryz.sizeOf4
  v4 := Tryz.zeroValue4
  t5 := Tryz.underlying5
  a5 := Tryz.isAgg5
  z5 := Tryz.sizeOf5
  v5 := Tryz.zeroValue5
  t9 := Tryz.underlying9
  a9 := Tryz.isAgg9
  z9 := Tryz.sizeOf9
  v9 := Tryz.zeroValue9
  t21 := Tryz.underlying21
  a21 := Tryz.isAgg21
  z21 := Tryz.sizeOf21
  v21 := Tryz.zeroValue21
  t31 := Tryz.underlying42
  a31 := Tryz.isAgg42
  z31 := Tryz.sizeOf42
  v31 := Tryz.zeroValue42
  t46 := Tryz.underlying150
  a46 := Tryz.isAgg150
  z46 := Tryz.sizeOf150
  v46 := Tryz.zeroValue150
  t51 := Tryz.underlying169
  a51 := Tryz.isAgg169
  z51 := Tryz.sizeOf169
  v51 := Tryz.zeroValue169
  t105 := Tryz.underlying127
  a105 := Tryz.isAgg127
  z105 := Tryz.sizeOf127
  v105 := Tryz.zeroValue127
  t119 := Tryz.underlying165
  a119 := Tryz.isAgg165
  z119 := Tryz.sizeOf165
  t138 := Tryz.underlying167
  a138 := Tryz.isAgg167
  z138 := Tryz.sizeOf167
  v138 := Tryz.zeroValue167
  t139 := Tryz.underlying168
  a139 := Tryz.isAgg168
  z139 := Tryz.sizeOf168
  v139 := Tryz.zeroValue168
  t146 := Tryz.underlying170
  a146 := Tryz.isAgg170
  z146 := Tryz.sizeOf170
  v146 := Tryz.zeroValue170
  g1 := by kernel_rfl
  g3 := by kernel_rfl
  g4 := by kernel_rfl }
theorem maxLen_cell (w : World) (h : w.ShapedOpen Tryz.prog) : ∃ m, w.cell? ⟨Tryz.genSplit_ren.g 1, 0, none⟩ = some (.int .i64 m) :=
  Go.Proofs.cell_of_shapedOpen_int (zero := #[.int .i64 0]) (t := 3) h (of_decide_eq_true (by kernel_rfl)) (by kernel_rfl) rfl (by kernel_rfl) (by kernel_rfl) Tryz.underlying3

open Go.ChangeShapes Go.WideShapes Go.ChangeAt Go.RowKit
set_option linter.unusedVariables false

theorem linesTo_clean (b : UInt8) (l : List UInt8) : (∀ d ∈ (linesTo b l).1, b ∉ d) ∧ b ∉ (linesTo b l).2 := by
  induction l using list_snoc_ind with
  | h0 => simp [linesTo]
  | h1 l c ih =>
    rw [linesTo_snoc]
    unfold lineStep
    by_cases h : c = b
    · rw [if_pos h]
      refine ⟨fun d hd => ?_, by simp⟩
      rcases List.mem_append.1 hd with q | q
      · exact ih.1 d q
      · rw [List.mem_singleton.1 q]; exact ih.2
    · rw [if_neg h]
      refine ⟨ih.1, fun q => ?_⟩
      rcases List.mem_append.1 q with q | q
      · exact ih.2 q
      · exact h (List.mem_singleton.1 q).symm
theorem index_line (b : UInt8) (d r : List UInt8) (h : b ∉ d) : Lib.index (d ++ b :: r) [b] = (d.length : Int) := by
  refine Lib.index_first (by simp) ?_ (fun j hj => ?_)
  · unfold Lib.occAt
    rw [List.drop_left]
    simp [List.isPrefixOf]
  · unfold Lib.occAt
    rw [List.drop_append_of_le_length (by omega)]
    obtain ⟨x, t, e, hx⟩ : ∃ x t, d.drop j = x :: t ∧ x ∈ d := ⟨d[j], d.drop (j + 1), (List.getElem_cons_drop hj).symm, List.getElem_mem hj⟩
    rw [e]
    have hne : b ≠ x := fun q => h (q ▸ hx)
    rw [List.cons_append]
    show ((b == x) && List.isPrefixOf [] _) = false
    rw [beq_eq_false_iff_ne.2 hne]
    rfl
theorem splitK_lines (b : UInt8) : ∀ (D : List (List UInt8)) (r : List UInt8), (∀ d ∈ D, b ∉ d) → Lib.splitK [b] 1 D.length (joinL b D ++ r) = D.map (fun d => d ++ [b]) ++ [r]
  | [], r, _ => rfl
  | d :: D, r, h => by
    have e : joinL b (d :: D) ++ r = d ++ b :: (joinL b D ++ r) := by unfold joinL; simp
    have hi := index_line b d (joinL b D ++ r) (h d (List.mem_cons_self ..))
    rw [e, List.length_cons, Lib.splitK, hi]
    have hm : ((d.length : Int) == -1) = false := by rw [beq_eq_false_iff_ne]; omega
    rw [hm]
    simp only [Bool.false_eq_true, if_false, Int.toNat_natCast, List.length_singleton, List.map_cons, List.cons_append]
    have e2 : d ++ b :: (joinL b D ++ r) = (d ++ [b]) ++ (joinL b D ++ r) := by simp
    congr 1
    · rw [e2, List.take_append_of_le_length (by simp), List.take_of_length_le (by simp)]
    · have e3 : d.length + 1 = (d ++ [b]).length := by simp
      rw [e2, e3, List.drop_left]
      exact splitK_lines b D r (fun x hx => h x (List.mem_cons_of_mem _ hx))
/-- the lines of a text with their ends, and what stands behind them -/
def afterL (l : List UInt8) : List ByteArray := ((lns l).map fun d => strOf (d ++ [10])) ++ [strOf (linesTo 10 l).2]
theorem afterL_len (l : List UInt8) : (afterL l).length = l.count 10 + 1 := by unfold afterL lns; rw [List.length_append, List.length_map, List.length_singleton, linesTo_count]
theorem strOf_dataA (s : ByteArray) : strOf s.data.toList = s := by unfold strOf; rw [Array.toArray_toList]
theorem count_line (s : ByteArray) : Lib.countB s ⟨#[10]⟩ = s.data.toList.count 10 := by
  show Lib.count s.data.toList [10] = _
  exact Lib.count_one 10 _
theorem splitB_lines (s : ByteArray) : Lib.splitB ⟨#[10]⟩ 1 (Lib.countB s ⟨#[10]⟩) s = afterL s.data.toList := by
  have h1 := Lib.splitB_data ⟨#[10]⟩ 1 (Lib.countB s ⟨#[10]⟩) s
  have h2 : Lib.splitK [10] 1 (Lib.countB s ⟨#[10]⟩) s.data.toList = (lns s.data.toList).map (fun d => d ++ [10]) ++ [(linesTo 10 s.data.toList).2] := by
    have h3 := splitK_lines 10 (lns s.data.toList) (linesTo 10 s.data.toList).2 (linesTo_clean 10 _).1
    have h4 : joinL 10 (lns s.data.toList) ++ (linesTo 10 s.data.toList).2 = s.data.toList := (linesTo_join 10 _).symm
    rw [h4] at h3
    rw [count_line, ← linesTo_count]
    exact h3
  have h5 : (Lib.splitB ⟨#[10]⟩ 1 (Lib.countB s ⟨#[10]⟩) s).map (·.data.toList) = (lns s.data.toList).map (fun d => d ++ [10]) ++ [(linesTo 10 s.data.toList).2] := h1.trans h2
  have h6 := congrArg (List.map strOf) h5
  rw [List.map_map] at h6
  have h7 : (strOf ∘ fun x : ByteArray => x.data.toList) = id := funext fun x => strOf_dataA x
  rw [h7, List.map_id] at h6
  rw [h6]
  unfold afterL
  simp

open Go.ChangeShapes Go.WideShapes Go.ChangeAt Go.RowKit
set_option linter.unusedVariables false

theorem afterL_line {l : List UInt8} {i : Nat} (h : i < (lns l).length) : (afterL l).getD i ⟨#[]⟩ = strOf ((lns l).getD i [] ++ [10]) := by
  have h2 : i < ((lns l).map fun d => strOf (d ++ [10])).length := by rw [List.length_map]; exact h
  unfold afterL
  rw [List.getD_eq_getElem?_getD, List.getElem?_append_left h2, List.getElem?_map, List.getElem?_eq_getElem h, List.getD_eq_getElem?_getD, List.getElem?_eq_getElem h]
  rfl
theorem afterL_end {l : List UInt8} : (afterL l).getD (lns l).length ⟨#[]⟩ = strOf (linesTo 10 l).2 := by
  unfold afterL
  rw [List.getD_eq_getElem?_getD, List.getElem?_append_right (by rw [List.length_map]; exact Nat.le_refl _), List.length_map, Nat.sub_self]
  rfl
theorem after_same {a b : List UInt8} {k : Nat} (h : k < cp (lns a) (lns b)) : (afterL a).getD k ⟨#[]⟩ = (afterL b).getD k ⟨#[]⟩ := by
  have := cp_le (lns a) (lns b)
  rw [afterL_line (by omega), afterL_line (by omega), cp_same _ _ h]
theorem after_diff {a b : List UInt8} (ha : codeL a = 0) (hb : codeL b = 0) (h : a ≠ b) : (afterL a).getD (cp (lns a) (lns b)) ⟨#[]⟩ ≠ (afterL b).getD (cp (lns a) (lns b)) ⟨#[]⟩ := by
  have hle := cp_le (lns a) (lns b)
  have hf := cp_full (lns a) (lns b)
  by_cases h1 : cp (lns a) (lns b) < (lns a).length
  · by_cases h2 : cp (lns a) (lns b) < (lns b).length
    · have hd := cp_diff _ _ h1 h2
      rw [afterL_line h1, afterL_line h2]
      intro e
      exact hd (List.append_cancel_right (strOf_inj e))
    · have h3 : cp (lns a) (lns b) = (lns b).length := by omega
      rw [afterL_line h1, h3, afterL_end, codeL_open hb]
      intro e
      have := strOf_inj e
      simp at this
  · have h3 : cp (lns a) (lns b) = (lns a).length := by omega
    by_cases h2 : cp (lns a) (lns b) < (lns b).length
    · rw [afterL_line h2, h3, afterL_end, codeL_open ha]
      intro e
      have := strOf_inj e
      simp at this
    · exact absurd (lns_inj ha hb (hf h3 (by omega))) h

open Go.ChangeShapes Go.WideShapes Go.ChangeAt Go.RowKit
set_option linter.unusedVariables false

open Go.ChangeShapes Go.WideShapes Go.ChangeAt Go.RowKit
set_option linter.unusedVariables false

theorem big_c (w : World) (v : Value) (z : Zone) (xs : List Int) (h : BytesR z w v xs) : Calls Tryz.prog 13 #[v] w (RetQ w (.bool (decide (4096 < xs.length)))) := by
  obtain ⟨a, n, cap, rfl, hn, hmax, -⟩ := BytesR.shape h
  clear h
  have HH : Hid (decide ((4096 : Int) < (n : Int)) = decide (4096 < xs.length)) := by show _ = _; rw [← hn]; exact decide_eq_decide.2 (by omega)
  clear hn
  go_enter Tryz.func13, Tryz.ntmps13
  go_wp2_with fail
  go_ret
  exact ⟨ret_bool HH.out, Drew.refl _⟩
end Go.Proofs.YtkeikjedbfomnaaGreatDoor
