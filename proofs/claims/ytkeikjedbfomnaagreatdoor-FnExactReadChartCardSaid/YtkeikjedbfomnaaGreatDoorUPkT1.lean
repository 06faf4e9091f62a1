/- Proved: the lines of a text, and how many there are (plain); l01Split of the reference; strings.Join, laid; strconv.FormatInt, laid; the text of a number, both sides; the lines of a chart (plain); numbers with a text between them, the program; digits one behind the other, the reference. -/
import Derived.Test.YtkeikjedbfomnaaGreatDoorChecked
import Derived.Shelf.Strings.OnBuilder
import Derived.Shelf.Strings.BuilderX
import Derived.Ground.NamesProg
import Derived.Shelf.Strconv.Itoa4
import Derived.Shelf.LaysM
import Derived.Deep.RegionHeld3
import Derived.Deep.RegionLaw
import Derived.Lib.ItoaNum
import Derived.Sort.Grow
import Derived.Laws.IdiomStrings
import Derived.Lib.Join
import Derived.Test.YtkeikjedbfomnaaGreatDoorUPkA
import Derived.Test.YtkeikjedbfomnaaGreatDoorUPkD
namespace Go.Proofs.YtkeikjedbfomnaaGreatDoor
open Go.ChangeShapes Go.WideShapes Go.ChangeAt Go.RowKit
set_option linter.unusedVariables false

theorem list_snoc_ind {α : Type} {P : List α → Prop} (h0 : P []) (h1 : ∀ l c, P l → P (l ++ [c])) (l : List α) : P l := by
  have h : ∀ l : List α, P l.reverse := by
    intro l
    induction l with
    | nil => exact h0
    | cons a l ih => rw [List.reverse_cons]; exact h1 _ _ ih
  have := h l.reverse
  rwa [List.reverse_reverse] at this
/-- one byte of a text, with the lines that are closed and the open one -/
def lineStep (b : UInt8) (p : List (List UInt8) × List UInt8) (c : UInt8) : List (List UInt8) × List UInt8 := if c = b then (p.1 ++ [p.2], []) else (p.1, p.2 ++ [c])
def linesTo (b : UInt8) (l : List UInt8) : List (List UInt8) × List UInt8 := l.foldl (lineStep b) ([], [])
def splitL (b : UInt8) (l : List UInt8) : List (List UInt8) := (linesTo b l).1 ++ [(linesTo b l).2]
theorem linesTo_snoc (b : UInt8) (l : List UInt8) (c : UInt8) : linesTo b (l ++ [c]) = lineStep b (linesTo b l) c := by unfold linesTo; rw [List.foldl_append]; rfl
theorem linesTo_count (b : UInt8) : ∀ l : List UInt8, (linesTo b l).1.length = l.count b := by
  intro l
  induction l using list_snoc_ind with
  | h0 => rfl
  | h1 l c ih =>
    rw [linesTo_snoc, List.count_append]
    unfold lineStep
    by_cases h : c = b
    · subst h
      rw [if_pos rfl]; simp [ih]
    · rw [if_neg h]
      have : List.count b [c] = 0 := by simp [h]
      simp only [ih, this, Nat.add_zero]
theorem linesTo_last (b : UInt8) (l : List UInt8) : (linesTo b l).2 = [] ↔ l = [] ∨ ∃ l', l = l' ++ [b] := by
  induction l using list_snoc_ind with
  | h0 => simp [linesTo]
  | h1 l c ih =>
    rw [linesTo_snoc]
    unfold lineStep
    by_cases h : c = b
    · subst h
      rw [if_pos rfl]
      simp only [true_iff]
      exact .inr ⟨l, rfl⟩
    · rw [if_neg h]
      constructor
      · intro q; exact absurd q (by simp)
      · rintro (q | ⟨l', q⟩)
        · exact absurd q (by simp)
        · have := (List.append_inj' q rfl).2
          injection this with this _
          exact absurd this h
/-- the open line is what stands behind the closed ones -/
def joinL (b : UInt8) (D : List (List UInt8)) : List UInt8 := D.flatMap fun d => d ++ [b]
theorem linesTo_join (b : UInt8) : ∀ l : List UInt8, l = joinL b (linesTo b l).1 ++ (linesTo b l).2 := by
  intro l
  induction l using list_snoc_ind with
  | h0 => rfl
  | h1 l c ih =>
    rw [linesTo_snoc]
    unfold lineStep
    by_cases h : c = b
    · subst h
      rw [if_pos rfl]
      simp only [List.append_nil]
      unfold joinL at ih ⊢
      rw [List.flatMap_append]
      conv => lhs; rw [ih]
      simp
    · rw [if_neg h]
      simp only
      rw [← List.append_assoc, ← ih]
/-- where the open line begins -/
def lineFrom (b : UInt8) (l : List UInt8) : Nat := (joinL b (linesTo b l).1).length
theorem lineFrom_le (b : UInt8) (l : List UInt8) : lineFrom b l ≤ l.length := by
  have h := congrArg List.length (linesTo_join b l)
  rw [List.length_append] at h
  unfold lineFrom; omega
theorem lineFrom_drop (b : UInt8) (l : List UInt8) : l.drop (lineFrom b l) = (linesTo b l).2 := by
  have h : ∀ A B : List UInt8, l = A ++ B → l.drop A.length = B := fun A B e => by rw [e, List.drop_left]
  exact h _ _ (linesTo_join b l)
theorem lineFrom_snoc (b : UInt8) (l : List UInt8) (c : UInt8) : lineFrom b (l ++ [c]) = if c = b then l.length + 1 else lineFrom b l := by
  unfold lineFrom
  rw [linesTo_snoc]
  unfold lineStep
  by_cases h : c = b
  · subst h
    rw [if_pos rfl, if_pos rfl]
    have := congrArg List.length (linesTo_join c l)
    unfold joinL at this ⊢
    rw [List.flatMap_append, List.length_append]
    rw [List.length_append] at this
    simp only [List.flatMap_cons, List.flatMap_nil, List.append_nil, List.length_append, List.length_singleton]
    omega
  · rw [if_neg h, if_neg h]
/-- what CountLines answers -/
def countL (l : List UInt8) : Int × Int := if 240 < l.length then (0, 3) else if (linesTo 10 l).2 = [] then (((l.count 10 : Nat) : Int), 0) else (0, 6)
theorem countL_big {l : List UInt8} (h : 240 < l.length) : countL l = (0, 3) := by unfold countL; rw [if_pos h]
theorem countL_ok {l : List UInt8} (h : l.length ≤ 240) (h2 : (linesTo 10 l).2 = []) : countL l = (((l.count 10 : Nat) : Int), 0) := by unfold countL; rw [if_neg (by omega), if_pos h2]
theorem countL_bad {l : List UInt8} (h : l.length ≤ 240) (h2 : (linesTo 10 l).2 ≠ []) : countL l = (0, 6) := by unfold countL; rw [if_neg (by omega), if_neg h2]

open Go.ChangeShapes Go.WideShapes Go.ChangeAt Go.RowKit
set_option linter.unusedVariables false

theorem Tryz.infoStr : (Tryz.prog.info? 9).map (fun i => (i.zero, i.size, i.bytes)) = some (some (.string ⟨#[]⟩), 1, 16) := by kernel_rfl
def strOf (l : List UInt8) : ByteArray := ⟨l.toArray⟩
theorem strOf_extract {s : ByteArray} {f k : Nat} : s.extract f k = strOf ((s.data.toList.take k).drop f) := by
  apply ByteArray.ext
  rw [ByteArray.data_extract]
  apply Array.toList_inj.1
  rw [Array.toList_extract]
  unfold strOf
  simp [List.extract, List.drop_take]
theorem len_str (s : ByteArray) : s.data.toList.length = s.size := by rw [Array.length_toList]; rfl
theorem strOf_size (l : List UInt8) : (strOf l).size = l.length := by unfold strOf; simp [ByteArray.size]
theorem take_snoc8 {s : ByteArray} {k : Nat} (h : k < s.size) : s.data.toList.take (k + 1) = s.data.toList.take k ++ [s[k]] := by
  rw [List.take_succ_eq_append_getElem (by simpa using h)]; rfl
/-- the lines that the first i steps have closed -/
def outTo (b : UInt8) (l : List UInt8) (i : Nat) : List ByteArray := if i ≤ l.length then (linesTo b (l.take i)).1.map strOf else (splitL b l).map strOf

set_option maxRecDepth 20000 in
set_option maxHeartbeats 1000000 in
theorem l01Split_c (w : World) (s : ByteArray) (hs : s.size ≤ 1000000) (b : UInt8) (bn : Int) (hb : bn = b.toNat) :
    Calls Tryz.prog 21 #[.string s, .int .u8 bn] w (Ret w fun r w' => OwnP Value.string 9 w.heap.size w' r ((splitL b s.data.toList).map strOf)) := by
  have Hl : Hid (s.data.toList.length = s.size) := len_str s
  have HEx := Lib.hid (fun (f k : Nat) => strOf_extract (s := s) (f := f) (k := k))
  have HTk := Lib.hid (fun (k : Nat) (h : k < s.size) => take_snoc8 (s := s) h)
  have HOut : Hid (∀ i, i ≤ s.size → outTo b s.data.toList i = (linesTo b (s.data.toList.take i)).1.map strOf) := fun i hi => by unfold outTo; rw [if_pos (by rw [Hl.out]; exact hi)]
  have HEnd : Hid (outTo b s.data.toList (s.size + 1) = (splitL b s.data.toList).map strOf) := by show _ = _; unfold outTo; rw [if_neg (by rw [Hl.out]; omega)]
  have HLen : Hid (∀ i, i ≤ s.size → (outTo b s.data.toList i).length ≤ s.size) := fun i hi => by
    rw [HOut.out i hi, List.length_map, linesTo_count]
    have h1 := List.count_le_length (a := b) (l := s.data.toList.take i)
    rw [List.length_take] at h1
    omega
  have HFrom : Hid (∀ i, i ≤ s.size → lineFrom b (s.data.toList.take i) ≤ i) := fun i hi => by
    have := lineFrom_le b (s.data.toList.take i)
    rw [List.length_take] at this
    omega
  have HCut : Hid (∀ i, i ≤ s.size → s.extract (lineFrom b (s.data.toList.take i)) i = strOf (linesTo b (s.data.toList.take i)).2) := fun i hi => by rw [HEx.out, lineFrom_drop]
  have HYes : Hid (∀ i (h : i < s.size), s[i] = b → outTo b s.data.toList (i + 1) = outTo b s.data.toList i ++ [strOf (linesTo b (s.data.toList.take i)).2] ∧ lineFrom b (s.data.toList.take (i + 1)) = i + 1) := fun i h e => by
    rw [HOut.out (i + 1) h, HOut.out i (by omega), HTk.out i h, linesTo_snoc, lineFrom_snoc]
    unfold lineStep
    rw [if_pos e, if_pos e]
    refine ⟨by simp, ?_⟩
    rw [List.length_take, Hl.out]
    omega
  have HNo : Hid (∀ i (h : i < s.size), s[i] ≠ b → outTo b s.data.toList (i + 1) = outTo b s.data.toList i ∧ lineFrom b (s.data.toList.take (i + 1)) = lineFrom b (s.data.toList.take i)) := fun i h e => by
    rw [HOut.out (i + 1) h, HOut.out i (by omega), HTk.out i h, linesTo_snoc, lineFrom_snoc]
    unfold lineStep
    rw [if_neg e, if_neg e]
    exact ⟨rfl, rfl⟩
  have HLast : Hid (outTo b s.data.toList (s.size + 1) = outTo b s.data.toList s.size ++ [strOf (linesTo b (s.data.toList.take s.size)).2]) := by
    show _ = _
    rw [HEnd.out, HOut.out s.size (Nat.le_refl _), List.take_of_length_le (by rw [Hl.out]; exact Nat.le_refl _)]
    unfold splitL
    simp
  have H0 : Hid (outTo b s.data.toList 0 = [] ∧ lineFrom b (s.data.toList.take 0) = 0) := by
    refine ⟨?_, ?_⟩
    · rw [HOut.out 0 (Nat.zero_le _)]; rfl
    · rfl
  have HB : Hid (bn = b.toNat) := hb
  have HEq : Hid (∀ c : UInt8, ((c.toNat : Int) == bn) = decide (c = b)) := fun c => by
    rw [Bool.eq_iff_iff, beq_iff_eq, decide_eq_true_iff, HB.out]
    constructor
    · intro h; exact UInt8.toNat_inj.1 (by omega)
    · intro h; rw [h]
  generalize outTo b s.data.toList = oT at *
  generalize hlf : (fun i => lineFrom b (s.data.toList.take i)) = lf at *
  have HL : Hid (∀ i, lineFrom b (s.data.toList.take i) = lf i) := fun i => by rw [← hlf]
  clear hlf hb Hl HEx HTk HOut
  go_enter Tryz.func21, Tryz.ntmps21
  go_wp2_with fail
  have o1 : OwnP Value.string 9 w.heap.size (w.alloc (.cells #[] 9)) (.slice (some ⟨w.heap.size, 0, none⟩) 0 0) [] := OwnP.empty (Nat.le_refl _)
  have e1 : Ext w (w.alloc (.cells #[] 9)) := Ext.alloc _ _
  generalize w.alloc (.cells #[] 9) = w1 at *
  go_loopw [5, 6, 7] (fun o f i wr => ∃ k g : Nat, k ≤ s.size + 1 ∧ i = .int .i64 k ∧ f = .int .i64 g ∧ g ≤ k ∧ (k ≤ s.size → g = lf k) ∧ OwnP Value.string 9 w.heap.size wr o (oT k) ∧ Ext w wr) (fun _ _ i _ => s.size + 1 - (intOf i).toNat)
  case atStart => exact ⟨0, 0, Nat.zero_le _, rfl, rfl, Nat.le_refl _, fun _ => by rw [← HL.out]; exact H0.out.2.symm, by rw [H0.out.1]; exact o1, e1⟩
  case round =>
    obtain ⟨k, g, hk, rfl, rfl, hgk, hg, own, ew⟩ := hrel
    have hwr := ew.size
    by_cases hlt : k < s.size
    · have hg' := hg (by omega)
      have hlen := HLen.out k (by omega)
      have hcut := HCut.out k (by omega)
      rw [HL.out, ← hg'] at hcut
      have hne : ((k : Int) == (s.size : Int)) = false := by rw [beq_eq_false_iff_ne]; omega
      by_cases hc : s[k] = b
      · have hcb : ((s[k].toNat : Int) == bn) = true := by rw [HEq.out, decide_eq_true_iff]; exact hc
        obtain ⟨q1, q2⟩ := HYes.out k hlt hc
        rw [HL.out] at q2
        have HQ1 := Lib.hid q1
        have HQ2 := Lib.hid q2
        have HCt := Lib.hid hcut
        clear hc q1 q2 hcut hg hg'
        go_wp2_with (at_builtin; (refine wpList_append1 (f := Value.string) (e := 9) (B := w.heap.size) (xs := oT k) rfl _ _ 42 rfl ⟨#[]⟩ 16 Tryz.underlying42 Tryz.infoStr rfl (fun _ => rfl) rfl own (s.extract g k) rfl (by omega) (by omega) hwr ?_); intro v6 w6 hown6 hg6 hb6)
        go_roundw
        case rel => exact ⟨k + 1, k + 1, by omega, by go_num, by go_num, Nat.le_refl _, fun _ => HQ2.out.symm, by rw [HQ1.out, ← HCt.out]; exact hown6, Below.trans ew hb6⟩
        case measure => simp [intOf]; omega
      · have hcb : ((s[k].toNat : Int) == bn) = false := by rw [HEq.out, decide_eq_false_iff_not]; exact hc
        obtain ⟨q1, q2⟩ := HNo.out k hlt hc
        rw [HL.out, HL.out] at q2
        have HQ1 := Lib.hid q1
        have HQ2 := Lib.hid (hg'.trans q2.symm)
        clear hc q1 q2 hcut hg hg'
        go_wp2_with fail
        go_roundw
        case rel => exact ⟨k + 1, g, by omega, by go_num, rfl, by omega, fun _ => HQ2.out, by rw [HQ1.out]; exact own, ew⟩
        case measure => simp [intOf]; omega
    · by_cases hke : k = s.size
      · subst hke
        have hg' := hg (by omega)
        have hlen := HLen.out s.size (by omega)
        have hcut := HCut.out s.size (by omega)
        rw [HL.out, ← hg'] at hcut
        have HCt := Lib.hid hcut
        have HLa := Lib.hid HLast.out
        have hne : ((s.size : Int) == (s.size : Int)) = true := by rw [beq_iff_eq]
        clear hcut hg hg' hlt
        have hle : (s.size : Int) ≤ (s.size : Int) := Int.le_refl _
        have hgs : g ≤ s.size := by omega
        go_wp2_with (at_builtin; (refine wpList_append1 (f := Value.string) (e := 9) (B := w.heap.size) (xs := oT s.size) rfl _ _ 42 rfl ⟨#[]⟩ 16 Tryz.underlying42 Tryz.infoStr rfl (fun _ => rfl) rfl own (s.extract g s.size) rfl (by omega) (by omega) hwr ?_); intro v6 w6 hown6 hg6 hb6)
        go_roundw
        case rel => exact ⟨s.size + 1, s.size + 1, by omega, by go_num, by go_num, Nat.le_refl _, fun h => by omega, by rw [HLa.out, ← HCt.out]; exact hown6, Below.trans ew hb6⟩
        case measure => simp [intOf]
      · have hke2 : k = s.size + 1 := by omega
        have HO : Hid (oT k = (splitL b s.data.toList).map strOf) := by show _ = _; rw [hke2]; exact HEnd.out
        have hgt : ¬ ((k : Int) ≤ (s.size : Int)) := by omega
        clear hke hg hlt
        go_wp2_with fail
        go_ret
        exact ⟨_, rfl, by rw [← HO.out]; exact own, ew⟩

open Go.ChangeShapes Go.WideShapes Go.ChangeAt Go.RowKit
set_option linter.unusedVariables false
open Go.Shelf

def Tryz.strJoin_ren : Go.Shelf.Ren := ⟨fun | 156 => 57 | 165 => 88 | 166 => 89 | 169 => 90 | 240 => 128 | 241 => 129 | 276 => 155 | 277 => 156 | n => n, fun | 31 => 42 | 9 => 9 | 3 => 3 | 4 => 4 | 0 => 0 | 20 => 20 | 72 => 104 | 76 => 108 | 70 => 102 | 37 => 34 | 75 => 107 | 127 => 139 | 164 => 155 | 5 => 5 | 80 => 110 | n => n, fun | n => n⟩
theorem Tryz.strJoin : Go.Proofs.Lays.n156 Tryz.prog Tryz.strJoin_ren := {
  mixed := by kernel_rfl
  f156 := Tryz.func57.trans (congrArg some (by kernel_rfl))
  f165 := Tryz.func88.trans (congrArg some (by kernel_rfl))
  f166 := Tryz.func89.trans (congrArg some (by kernel_rfl))
  f169 := Tryz.func90.trans (congrArg some (by kernel_rfl))
  f240 := Tryz.func128.trans (congrArg some (by kernel_rfl))
  f241 := Tryz.func129.trans (congrArg some (by kernel_rfl))
  f276 := Tryz.func155.trans (congrArg some (by kernel_rfl))
  f277 := Tryz.func156.trans (congrArg some (by kernel_rfl))
  t0 := Tryz.underlying0
  a0 := Tryz.isAgg0
  z0 := Tryz.sizeOf0
  v0 := Tryz.zeroValue0
  t3 := Tryz.underlying3
  a3 := Tryz.isAgg3
  z3 := Tryz.sizeOf3
  v3 := Tryz.zeroValue3
  t4 := Tryz.underlying4
  a4 := Tryz.isAgg4
  z4 := Tryz.sizeOf4
  v4 := Tryz.zeroValue4
  t9 := Tryz.underlying9
  a9 := Tryz.isAgg9
  z9 := Tryz.sizeOf9
  v9 := Tryz.zeroValue9
  t20 := Tryz.underlying20
  a20 := Tryz.isAgg20
  z20 := Tryz.sizeOf20
  v20 := Tryz.zeroValue20
  t31 := Tryz.underlying42
  a31 := Tryz.isAgg42
  z31 := Tryz.sizeOf42
  v31 := Tryz.zeroValue42
  t37 := Tryz.underlying34
  a37 := Tryz.isAgg34
  z37 := Tryz.sizeOf34
  v37 := Tryz.zeroValue34
  t70 := Tryz.underlying102
  a70 := Tryz.isAgg102
  z70 := Tryz.sizeOf102
  v70 := Tryz.zeroValue102
  t72 := Tryz.underlying104
  a72 := Tryz.isAgg104
  z72 := Tryz.sizeOf104
  v72 := Tryz.zeroValue104
  t75 := Tryz.underlying107
  a75 := Tryz.isAgg107
  z75 := Tryz.sizeOf107
  v75 := Tryz.zeroValue107
  t76 := Tryz.underlying108
  a76 := Tryz.isAgg108
  z76 := Tryz.sizeOf108
  v76 := Tryz.zeroValue108
  t127 := Tryz.underlying139
  a127 := Tryz.isAgg139
  z127 := Tryz.sizeOf139
  v127 := Tryz.zeroValue139
  t164 := Tryz.underlying155
  a164 := Tryz.isAgg155
  z164 := Tryz.sizeOf155
  v164 := Tryz.zeroValue155 }
theorem Tryz.joinBuilder : Go.Proofs.Builder.Extra Tryz.prog Tryz.strJoin_ren where
  sizeBuilder := by kernel_rfl
  liesBuilder := by kernel_rfl
  t5 := Tryz.underlying5
  a5 := Tryz.isAgg5
  z5 := Tryz.sizeOf5
  v5 := Tryz.zeroValue5
  infoByte := by kernel_rfl
  cellsByte := by kernel_rfl
  sizeByte := by kernel_rfl
  neB5 := by decide
theorem join_c (w : World) (v : Value) (B : Nat) (xs : List ByteArray) (o : OwnP Value.string 9 B w v xs) (hl : xs.length ≤ 100000) (sep : ByteArray) (hlen : (Lib.join (xs.map (·.data.toList)) sep.data.toList).length ≤ 140737488355328) :
    Calls Tryz.prog 57 #[v, .string sep] w (Ret w fun r _ => r = .string (strOf (Lib.join (xs.map (·.data.toList)) sep.data.toList))) := by
  have key : ∀ e w', e = Ending.returned (.string ⟨(Lib.join (xs.map (·.data.toList)) sep.data.toList).toArray⟩) ∧ Below w.heap.size w w' → Ret w (fun r _ => r = .string (strOf (Lib.join (xs.map (·.data.toList)) sep.data.toList))) e w' := by
    rintro e w' ⟨rfl, hb⟩
    exact ⟨_, rfl, rfl, hb⟩
  obtain ⟨h1, h2⟩ := id o
  rcases h2 with ⟨rfl, h0⟩ | ⟨g, cap, cur, rfl, hb, hg, hnc, hcm, hcs, htake⟩
  · have hx : xs = [] := List.eq_nil_of_length_eq_zero (by omega)
    subst hx
    refine (Go.Proofs.Any.strings_Join_none Tryz.strJoin Tryz.joinBuilder none 0 sep w).mono ?_
    rintro e w' ⟨rfl, rfl⟩
    exact ⟨_, rfl, rfl, Ext.refl _⟩
  · refine (Go.Proofs.Any.strings_Join Tryz.strJoin Tryz.joinBuilder g 0 cap xs sep w (fun j x hj => ?_) (Array.getElem?_eq_some_iff.1 hg).1 (by omega) (by omega) hlen).mono key
    obtain ⟨hj', rfl⟩ := List.getElem?_eq_some_iff.1 hj
    obtain ⟨_, hc, -⟩ := OwnP.at o (k := j) hj'
    simpa using hc

open Go.ChangeShapes Go.WideShapes Go.ChangeAt Go.RowKit
set_option linter.unusedVariables false
open Go.Shelf

def Tryz.fmtInt_ren : Go.Shelf.Ren := ⟨fun | 173 => 125 | 246 => 152 | 283 => 179 | 284 => 180 | 285 => 181 | 286 => 182 | 129 => 178 | 317 => 199 | 318 => 200 | 319 => 201 | 320 => 202 | 337 => 206 | 338 => 207 | n => n, fun | 2 => 2 | 3 => 3 | 9 => 9 | 4 => 4 | 171 => 191 | 0 => 0 | 53 => 173 | 37 => 34 | 5 => 5 | 173 => 193 | 212 => 212 | 51 => 169 | 20 => 20 | 213 => 213 | 46 => 150 | 232 => 222 | 233 => 223 | n => n, fun | 17 => 5 | 18 => 6 | 19 => 7 | n => n⟩
theorem Tryz.fmtInt : Go.Proofs.LaysM.n173 Tryz.prog Tryz.fmtInt_ren := {
  mixed := by kernel_rfl
  f129 := Tryz.func178.trans (congrArg some (by kernel_rfl))
  f173 := Tryz.func125.trans (congrArg some (by kernel_rfl))
  f246 := Tryz.func152.trans (congrArg some (by kernel_rfl))
  f283 := Tryz.func179.trans (congrArg some (by kernel_rfl))
  f284 := Tryz.func180.trans (congrArg some (by kernel_rfl))
  f285 := Tryz.func181.trans (congrArg some (by kernel_rfl))
  f286 := Tryz.func182.trans (congrArg some (by kernel_rfl))
  f317 := Tryz.func199.trans (congrArg some (by kernel_rfl))
  f318 := Tryz.func200.trans (congrArg some (by kernel_rfl))
  f319 := Tryz.func201.trans (congrArg some (by kernel_rfl))
  f320 := Tryz.func202.trans (congrArg some (by kernel_rfl))
  f337 := Tryz.func206.trans (congrArg some (by kernel_rfl))
  f338 := Tryz.func207.trans (congrArg some (by kernel_rfl))
  t0 := Tryz.underlying0
  a0 := Tryz.isAgg0
  z0 := Tryz.sizeOf0
  v0 := Tryz.zeroValue0
  t2 := Tryz.underlying2
  a2 := Tryz.isAgg2
  z2 := Tryz.sizeOf2
  v2 := Tryz.zeroValue2
  t3 := Tryz.underlying3
  a3 := Tryz.isAgg3
  z3 := Tryz.sizeOf3
  v3 := Tryz.zeroValue3
  t4 := Tryz.underlying4
  a4 := Tryz.isAgg4
  z4 := Tryz.sizeOf4
  v4 := Tryz.zeroValue4
  t5 := Tryz.underlying5
  a5 := Tryz.isAgg5
  z5 := Tryz.sizeOf5
  v5 := Tryz.zeroValue5
  t9 := Tryz.underlying9
  a9 := Tryz.isAgg9
  z9 := Tryz.sizeOf9
  v9 := Tryz.zeroValue9
  t20 := Tryz.underlying20
  a20 := Tryz.isAgg20
  z20 := Tryz.sizeOf20
  v20 := Tryz.zeroValue20
  t37 := Tryz.underlying34
  a37 := Tryz.isAgg34
  z37 := Tryz.sizeOf34
  v37 := Tryz.zeroValue34
  t46 := Tryz.underlying150
  a46 := Tryz.isAgg150
  z46 := Tryz.sizeOf150
  v46 := Tryz.zeroValue150
  t51 := Tryz.underlying169
  a51 := Tryz.isAgg169
  z51 := Tryz.sizeOf169
  v51 := Tryz.zeroValue169
  t53 := Tryz.underlying173
  a53 := Tryz.isAgg173
  z53 := Tryz.sizeOf173
  v53 := Tryz.zeroValue173
  t171 := Tryz.underlying191
  a171 := Tryz.isAgg191
  z171 := Tryz.sizeOf191
  v171 := Tryz.zeroValue191
  t173 := Tryz.underlying193
  a173 := Tryz.isAgg193
  z173 := Tryz.sizeOf193
  v173 := Tryz.zeroValue193
  t212 := Tryz.underlying212
  a212 := Tryz.isAgg212
  z212 := Tryz.sizeOf212
  v212 := Tryz.zeroValue212
  t213 := Tryz.underlying213
  a213 := Tryz.isAgg213
  z213 := Tryz.sizeOf213
  t232 := Tryz.underlying222
  a232 := Tryz.isAgg222
  z232 := Tryz.sizeOf222
  v232 := Tryz.zeroValue222
  t233 := Tryz.underlying223
  a233 := Tryz.isAgg223
  z233 := Tryz.sizeOf223
  v233 := Tryz.zeroValue223
  g17 := by kernel_rfl
  g18 := by kernel_rfl
  g19 := by kernel_rfl
  i0 := by kernel_rfl
  i2 := by kernel_rfl
  i3 := by kernel_rfl
  i4 := by kernel_rfl
  i5 := by kernel_rfl
  i9 := by kernel_rfl
  i20 := by kernel_rfl
  i37 := by kernel_rfl
  i46 := by kernel_rfl
  i51 := by kernel_rfl
  i53 := by kernel_rfl
  i171 := by kernel_rfl
  i173 := by kernel_rfl
  i212 := by kernel_rfl
  i232 := by kernel_rfl
  i233 := by kernel_rfl
  m17 := by kernel_rfl
  m18 := by kernel_rfl
  m19 := by kernel_rfl }

open Go.ChangeShapes Go.WideShapes Go.ChangeAt Go.RowKit
set_option linter.unusedVariables false

/-- the library's table of powers of ten -/
def Pow10 (w : World) : Prop := Lib.TabIs Tryz.prog w "internal/strconv.uint64pow10" .u64 Lib.pow10Tab
theorem Pow10.ext {w w' : World} (h : Pow10 w) (e : Ext w w') : Pow10 w' := by
  unfold Pow10 Lib.TabIs World.var? at *
  cases hg : Tryz.prog.globalNamed "internal/strconv.uint64pow10" with
  | none => simp [hg] at h
  | some g =>
    simp only [hg, Option.bind_some] at h ⊢
    have hlt : g < w.heap.size := by
      rcases Nat.lt_or_ge g w.heap.size with h' | h'
      · exact h'
      · rw [Array.getElem?_eq_none h'] at h; simp at h
    rw [Below.block e g hlt]
    exact h
theorem grow_ext {w w1 : World} (e : Ext w w1) (os : Array Obj) : Ext w (Sort.grow w1 os) := by
  have hs := e.size
  refine ⟨e.os, e.tape, e.output, ?_, fun k hk => ?_⟩
  · show w.heap.size ≤ (w1.heap ++ os).size; rw [Array.size_append]; omega
  · show (w1.heap ++ os)[k]? = _
    rw [Array.getElem?_append_left (by omega)]
    exact Below.block e k hk
def numText (n : Nat) : Value := .string ⟨(Lib.decDigits n).toArray⟩
theorem fmt_c (w : World) (hT : Pow10 w) (n : Nat) (h : n ≤ 1000000000) : Calls Tryz.prog 125 #[.int .i64 (n : Nat), .int .i64 10] w (Ret w fun r _ => r = numText n) := by
  refine (Go.Proofs.Any.strconv_FormatInt_10 Tryz.fmtInt n (by omega) (by omega) w hT).mono ?_
  rintro e w' ⟨rfl, k, os, rfl⟩
  refine ⟨_, rfl, ?_, grow_ext (Ext.drewN _ _) os⟩
  unfold numText Lib.itoa
  rw [if_neg (by omega), Int.toNat_natCast]

set_option maxRecDepth 20000 in
theorem text_c (w : World) (hT : Pow10 w) (n : Nat) (h : n ≤ 1000000000) : Calls Tryz.prog 86 #[.int .i64 (n : Nat)] w (Ret w fun r _ => r = numText n) := by
  have HF := Lib.hid (fmt_c w hT n h)
  generalize numText n = r at *
  clear hT
  go_enter Tryz.func86, Tryz.ntmps86
  go_wp2_with fail
  refine Calls.mono HF.out ?_
  rintro e w1 hr
  obtain ⟨r, rfl, rfl, e1⟩ := ret_ext hr
  clear hr
  go_wp2_with fail
  go_ret
  exact ⟨_, rfl, rfl, e1⟩

theorem dec_one {n : Nat} (h : n < 10) : Lib.decDigits n = [UInt8.ofNat (48 + n)] := Lib.decDigits_one h
theorem dec_more {n : Nat} (h : ¬ n < 10) : Lib.decDigits n = Lib.decDigits (n / 10) ++ [UInt8.ofNat (48 + n % 10)] := by rw [Lib.decDigits, dif_neg h]
theorem dec_len (n : Nat) : (Lib.decDigits n).length ≤ n + 1 := by
  induction n using Nat.strongRecOn with
  | _ n ih =>
    by_cases h : n < 10
    · rw [dec_one h]; simp
    · rw [dec_more h, List.length_append, List.length_singleton]
      have := ih (n / 10) (by omega)
      omega
/-- one byte as a text -/
def oneByte (m : Nat) : Value := .string ⟨#[UInt8.ofNat m]⟩
theorem conv_at (w : World) (g : Nat) (x : Int) (m : Nat) (hm : m < 256) (hx : x = m) (hc : w.cell? ⟨g, 0, none⟩ = some (.int .u8 x)) :
    (convert 34 9 (.slice (some ⟨g, 0, none⟩) 1 1)).run Tryz.prog w = .ok (oneByte m) w := by
  subst hx
  exact run_convert_bytes_back w _ _ _ ⟨g, 0, none⟩ 1 [UInt8.ofNat m] Tryz.underlying34 Tryz.underlying5 Tryz.underlying9 (fun j hj => by
    have hj0 : j = 0 := by simpa using hj
    subst hj0
    refine hc.trans ?_
    show _ = some (Value.int .u8 ((UInt8.ofNat m).toNat : Int))
    rw [UInt8.toNat_ofNat', Nat.mod_eq_of_lt (by omega)])
theorem conv_new (w : World) (x : Int) (m : Nat) (hm : m < 256) (hx : x = m) :
    (convert 34 9 (.slice (some ⟨w.heap.size, 0, none⟩) 1 1)).run Tryz.prog (w.alloc (.cells #[.int .u8 x] 5)) = .ok (oneByte m) (w.alloc (.cells #[.int .u8 x] 5)) :=
  conv_at _ _ x m hm hx (by simp)
theorem num_one {n : Nat} (h : n < 10) : numText n = oneByte (48 + n) := by unfold numText oneByte; rw [dec_one h]
def textOf : Value → ByteArray
  | .string s => s
  | _ => ⟨#[]⟩
theorem num_more {n : Nat} (h : ¬ n < 10) : numText n = .string (⟨(Lib.decDigits (n / 10)).toArray⟩ ++ ⟨#[UInt8.ofNat (48 + n % 10)]⟩) := by
  unfold numText
  congr 1
  apply ByteArray.ext
  rw [ByteArray.data_append, dec_more h]
  simp

set_option maxRecDepth 20000 in
set_option maxHeartbeats 2000000 in
theorem l01Dec_c (n : Nat) : ∀ (w : World) (h : n ≤ 1000000000), Calls Tryz.prog 67 #[.int .i64 (n : Nat)] w (Ret w fun r _ => r = numText n) := by
  induction n using Nat.strongRecOn with
  | _ n ih =>
    intro w h
    by_cases h10 : n < 10
    · have h1 := Lib.hid (num_one h10)
      have kc := conv_new w (48 + (n : Int)) (48 + n) (by omega) (by omega)
      unfold oneByte at kc h1
      clear ih
      generalize numText n = res at *
      generalize UInt8.ofNat (48 + n) = yb at *
      go_enter Tryz.func67, Tryz.ntmps67
      go_wp2_with fail
      go_ret
      exact ⟨_, rfl, by rw [h1.out]; rfl, Ext.alloc _ _⟩
    · have h1 := Lib.hid (num_more h10)
      have HI := Lib.hid (fun (w' : World) => ih (n / 10) (by omega) w' (by omega))
      have kc := fun (w' : World) => conv_new w' (48 + ((n % 10 : Nat) : Int)) (48 + n % 10) (by omega) (by omega)
      have kc2 := fun (w' : World) (g : Nat) (hc : w'.cell? ⟨g, 0, none⟩ = some (.int .u8 (48 + ((n % 10 : Nat) : Int)))) => conv_at w' g (48 + ((n % 10 : Nat) : Int)) (48 + n % 10) (by omega) (by omega) hc
      have hq : ((n : Int)).tdiv 10 = ((n / 10 : Nat) : Int) := by rw [Int.tdiv_eq_ediv_of_nonneg (by omega)]; omega
      have hm : ((n : Int)).tmod 10 = ((n % 10 : Nat) : Int) := by rw [Int.tmod_eq_emod_of_nonneg (by omega)]; omega
      have hn : ¬ ((n : Int) < 10) := by omega
      have hq' : ((n : Int)) / 10 = ((n / 10 : Nat) : Int) := by omega
      have hm' : ((n : Int)) % 10 = ((n % 10 : Nat) : Int) := by omega
      have hwq : IntKind.i64.wrap ((n / 10 : Nat) : Int) = ((n / 10 : Nat) : Int) := IntWalk.i64_in _ (by omega)
      have hwr : IntKind.i64.wrap (48 + ((n % 10 : Nat) : Int)) = 48 + ((n % 10 : Nat) : Int) := IntWalk.i64_in _ (by omega)
      have hwu : IntKind.u8.wrap (48 + ((n % 10 : Nat) : Int)) = 48 + ((n % 10 : Nat) : Int) := IntWalk.u8_in _ (by omega)
      have hr : n % 10 < 10 := Nat.mod_lt _ (by decide)
      have hq2 : n / 10 ≤ 1000000000 := by omega
      have hdl : ¬ (9223372036854775807 < (Lib.decDigits (n / 10)).toArray.size + 1) := by
        have := dec_len (n / 10)
        rw [List.size_toArray]; omega
      unfold oneByte at kc kc2
      unfold numText at HI
      clear ih
      generalize numText n = res at *
      generalize UInt8.ofNat (48 + n % 10) = yb at *
      generalize n % 10 = rm at *
      generalize n / 10 = qn at *
      generalize (Lib.decDigits qn).toArray = dq at *
      go_enter Tryz.func67, Tryz.ntmps67
      go_wp2_with fail
      go_region_law (first | (go_simp; go_at_call 67; refine (HI.out _).mono ?_; rintro e w9 hr9; obtain ⟨r9, rfl, rfl, e9⟩ := ret_ext hr9; clear hr9; (try ((have hcc : w9.cell? ⟨w.heap.size, 0, none⟩ = some (.int .u8 (48 + (rm : Int))) := ?_; have kc3 := kc2 w9 w.heap.size hcc; rotate_left; focus (refine e9.cell ?_; simp; done)))); have e99 : Ext w w9 := (by repeat (first | exact Ext.refl _ | assumption | (refine Ext.trans ?_ (Ext.alloc _ _)) | (refine Ext.trans ?_ (Ext.drew _)) | (refine Ext.trans ?_ (by assumption))))) | fail)
      all_goals go_wp2_with fail
      all_goals go_ret
      all_goals exact ⟨_, rfl, by rw [h1.out]; rfl, by repeat (first | assumption | exact Ext.refl _ | (refine Ext.trans ?_ (Ext.alloc _ _)))⟩

open Go.ChangeShapes Go.WideShapes Go.ChangeAt Go.RowKit
set_option linter.unusedVariables false

def numD (x : Int) : List UInt8 := Lib.decDigits x.toNat
def joinI (xs : List Int) (sep : List UInt8) : List UInt8 := Lib.join (xs.map numD) sep
/-- digits one behind the other -/
def digsD (xs : List Int) : List UInt8 := xs.map fun x => UInt8.ofNat (48 + x.toNat)
theorem strOf_app (a b : List UInt8) : strOf a ++ strOf b = strOf (a ++ b) := by
  apply ByteArray.ext
  rw [ByteArray.data_append]
  unfold strOf
  simp
theorem strOf_data (s : ByteArray) : strOf s.data.toList = s := by
  apply ByteArray.ext
  unfold strOf
  simp
theorem data_strOf (l : List UInt8) : (strOf l).data.toList = l := by unfold strOf; simp
theorem join_snoc (xs : List (List UInt8)) (y sep : List UInt8) : Lib.join (xs ++ [y]) sep = if xs = [] then y else Lib.join xs sep ++ (sep ++ y) := by
  cases xs with
  | nil => rw [if_pos rfl]; exact Lib.join_one y sep
  | cons x r =>
    rw [if_neg (by simp), List.cons_append, Lib.join_cons, Lib.join_cons]
    unfold Lib.joinTail
    simp [List.append_assoc]
theorem numD_digit {x : Int} (h : 0 ≤ x ∧ x < 10) : numD x = [UInt8.ofNat (48 + x.toNat)] := dec_one (by omega)
theorem joinI_digs : ∀ {xs : List Int}, (∀ x ∈ xs, 0 ≤ x ∧ x < 10) → joinI xs [] = digsD xs
  | [], _ => rfl
  | x :: r, h => by
    have h1 : Lib.joinTail [] (r.map numD) = digsD r := by
      have hr : ∀ y ∈ r, 0 ≤ y ∧ y < 10 := fun y hy => h y (List.mem_cons_of_mem _ hy)
      clear h
      induction r with
      | nil => rfl
      | cons y r ih =>
        have e : Lib.joinTail [] ((y :: r).map numD) = numD y ++ Lib.joinTail [] (r.map numD) := by unfold Lib.joinTail; simp
        rw [e, ih (fun z hz => hr z (List.mem_cons_of_mem _ hz)), numD_digit (hr y (by simp))]
        rfl
    unfold joinI
    rw [List.map_cons, Lib.join_cons, h1, numD_digit (h x (by simp))]
    rfl
theorem join_len (sep : List UInt8) (m : Nat) : ∀ (xs : List (List UInt8)), (∀ x ∈ xs, x.length ≤ m) → (Lib.join xs sep).length ≤ xs.length * (m + sep.length)
  | [], _ => by simp [Lib.join]
  | x :: r, h => by
    have hr : ∀ (l : List (List UInt8)), (∀ y ∈ l, y.length ≤ m) → (Lib.joinTail sep l).length ≤ l.length * (m + sep.length) := by
      intro l
      induction l with
      | nil => intro _; simp [Lib.joinTail]
      | cons y l ih =>
        intro hl
        have e : Lib.joinTail sep (y :: l) = (sep ++ y) ++ Lib.joinTail sep l := by unfold Lib.joinTail; simp
        have h1 := ih (fun z hz => hl z (List.mem_cons_of_mem _ hz))
        have h2 := hl y (by simp)
        rw [e, List.length_append, List.length_append, List.length_cons, Nat.succ_mul]
        omega
    have h1 := hr r (fun y hy => h y (List.mem_cons_of_mem _ hy))
    have h2 := h x (by simp)
    rw [Lib.join_cons, List.length_append, List.length_cons, Nat.succ_mul]
    omega
theorem dec_len10 {n : Nat} (h : n ≤ 1000000000) : (Lib.decDigits n).length ≤ 11 := by
  have hstep : ∀ k n, n < 10 ^ (k + 1) → (Lib.decDigits n).length ≤ k + 1 := by
    intro k
    induction k with
    | zero => intro n hn; rw [dec_one (by omega)]; simp
    | succ k ih =>
      intro n hn
      by_cases h10 : n < 10
      · rw [dec_one h10]; simp
      · rw [dec_more h10, List.length_append, List.length_singleton]
        have := ih (n / 10) (by rw [Nat.div_lt_iff_lt_mul (by decide)]; rw [Nat.pow_succ] at hn; omega)
        omega
  exact hstep 10 n (by have : 10 ^ (10 + 1) = 100000000000 := by decide
                       omega)
/-- the pins of a lock -/
def pinsD (pins : List (List Int)) : List UInt8 := Lib.join (pins.map fun st => joinI st [43]) [32]
/-- the line of a row -/
def keyLineV (t cuts : List (List Int)) (k : Nat) : ByteArray := (((((⟨#[107, 101, 121, 32]⟩ : ByteArray) ++ strOf (numD k)) ++ (⟨#[32]⟩ : ByteArray)) ++ strOf (digsD (cuts.getD k []))) ++ (⟨#[32]⟩ : ByteArray)) ++ strOf (digsD (t.getD k []))
/-- the line of a door -/
def doorLineV (d : Nat) (pins : List (List Int)) : ByteArray := (((⟨#[100, 111, 111, 114, 32]⟩ : ByteArray) ++ strOf (numD d)) ++ (⟨#[32]⟩ : ByteArray)) ++ strOf (pinsD pins)

open Go.ChangeShapes Go.WideShapes Go.ChangeAt Go.RowKit
set_option linter.unusedVariables false

theorem joinTo_snoc (xs : List Int) (k : Nat) (h : k < xs.length) : ((xs.take (k + 1)).map fun x => strOf (numD x)) = ((xs.take k).map fun x => strOf (numD x)) ++ [strOf (numD (xs.getD k 0))] := by
  have e : xs.take (k + 1) = xs.take k ++ [xs.getD k 0] := by
    rw [List.take_add_one, List.getElem?_eq_getElem h]
    simp [h]
  rw [e, List.map_append]
  rfl

set_option maxRecDepth 20000 in
set_option maxHeartbeats 1000000 in
theorem joined_c (w : World) (hT : Pow10 w) (v : Value) (z : Zone) (xs : List Int) (h : IntsR z w v xs) (hin : ∀ x ∈ xs, 0 ≤ x ∧ x ≤ 1000000000) (hl : xs.length ≤ 1000) (sep : ByteArray) (hsep : sep.size ≤ 100) :
    Calls Tryz.prog 83 #[v, .string sep] w (Ret w fun r _ => r = .string (strOf (joinI xs sep.data.toList))) := by
  have HTx := Lib.hid (fun (k : Nat) (hk : k < xs.length) (w' : World) (e : Ext w w') => by
    have hk' := hin (xs.getD k 0) (by rw [List.getD_eq_getElem?_getD, List.getElem?_eq_getElem hk]; exact List.getElem_mem hk)
    have := text_c w' (hT.ext e) (xs.getD k 0).toNat (by omega)
    rw [Int.toNat_of_nonneg hk'.1] at this
    exact (show Calls Tryz.prog 86 #[.int .i64 (xs.getD k 0)] w' (Ret w' fun r _ => r = .string (strOf (numD (xs.getD k 0)))) from this))
  have HSn := Lib.hid (fun (k : Nat) (hk : k < xs.length) => joinTo_snoc xs k hk)
  have HLn : Hid (∀ k, ((xs.take k).map fun x => strOf (numD x)).length ≤ 1000) := fun k => by rw [List.length_map, List.length_take]; omega
  have H0 : Hid (((xs.take 0).map fun x => strOf (numD x)) = []) := rfl
  have HJ := Lib.hid (fun (w' : World) (u : Value) (o : OwnP Value.string 9 w.heap.size w' u ((xs.take xs.length).map fun x => strOf (numD x))) => by
    have hm : ((xs.take xs.length).map fun x => strOf (numD x)).map (fun s : ByteArray => s.data.toList) = xs.map numD := by
      rw [List.take_length, List.map_map]
      exact List.map_congr_left (fun x _ => data_strOf (numD x))
    have := join_c w' u w.heap.size _ o (by rw [List.length_map, List.length_take]; omega) sep (by
      rw [hm]
      have h1 := join_len sep.data.toList 11 (xs.map numD) (fun y hy => by
        obtain ⟨x, hx, rfl⟩ := List.mem_map.1 hy
        have := hin x hx
        exact dec_len10 (by omega))
      have h2 : sep.data.toList.length = sep.size := len_str sep
      rw [h2, List.length_map] at h1
      have h3 : xs.length * (11 + sep.size) ≤ 1000 * 111 := Nat.mul_le_mul hl (by omega)
      omega)
    rw [hm] at this
    exact this)
  generalize hjt : (fun k => (xs.take k).map fun x => strOf (numD x)) = jT at *
  have HE : Hid (∀ k, ((xs.take k).map fun x => strOf (numD x)) = jT k) := fun k => by rw [← hjt]
  clear hjt
  obtain ⟨a, n, cap, rfl, hn, hmax, -⟩ := SliceR.shape h
  have HX := Lib.hid (fun (k : Nat) (hk : k < n) => ints_at h hk)
  rw [← hn] at HTx HSn HJ
  have hn1 : n ≤ 1000 := by omega
  clear h hin hl hn hT hsep
  go_enter Tryz.func83, Tryz.ntmps83
  go_wp2_with fail
  have o1 : OwnP Value.string 9 w.heap.size (w.alloc (.cells #[] 9)) (.slice (some ⟨w.heap.size, 0, none⟩) 0 0) [] := OwnP.empty (Nat.le_refl _)
  have e1 : Ext w (w.alloc (.cells #[] 9)) := Ext.alloc _ _
  generalize w.alloc (.cells #[] 9) = w1 at *
  go_loopw [5, 7, 11] (fun s5 _ s11 wr => ∃ k : Nat, k ≤ n ∧ s11 = .int .i64 (k : Int) ∧ OwnP Value.string 9 w.heap.size wr s5 (jT k) ∧ Ext w wr) (fun _ _ s11 _ => n - (intOf s11).toNat)
  case atStart => exact ⟨0, Nat.zero_le _, rfl, by rw [← HE.out, H0.out]; exact o1, e1⟩
  case round =>
    obtain ⟨k, hk, rfl, own, ew⟩ := hrel
    by_cases hlt : k < n
    · obtain ⟨b, off, rfl, -, hcx⟩ := HX.out k hlt
      replace hcx := hcx wr ew
      have HT2 := Lib.hid (HTx.out k hlt wr ew)
      have hsn := HSn.out k hlt
      rw [HE.out, HE.out] at hsn
      have HS2 := Lib.hid hsn
      have hln := HLn.out k
      rw [HE.out] at hln
      have HOw := Lib.hid own
      generalize strOf (numD (xs.getD k 0)) = sk at *
      generalize xs.getD k 0 = x at *
      clear hsn own
      go_wp2_with fail
      refine Calls.mono HT2.out ?_
      rintro e w2 hr
      obtain ⟨r, rfl, rfl, e2⟩ := ret_ext hr
      clear hr
      have own2 := HOw.out.ext e2
      have hsz := (ew.trans e2).size
      obtain ⟨a5, n5, k5, rfl, -⟩ := OwnP.shape own2
      go_wp2_with (at_builtin; (refine wpList_append1 (f := Value.string) (e := 9) (B := w.heap.size) (xs := jT k) rfl _ _ 42 rfl ⟨#[]⟩ 16 Tryz.underlying42 Tryz.infoStr rfl (fun _ => rfl) rfl own2 sk rfl (by omega) (by omega) hsz ?_); intro v6 w6 hown6 hg6 hb6)
      go_roundw
      case rel => exact ⟨k + 1, by omega, by go_num, by rw [HS2.out]; exact hown6, Below.trans (ew.trans e2) hb6⟩
      case measure => simp [intOf]; omega
    · have hkn : k = n := by omega
      subst hkn
      have HJ2 := Lib.hid (HJ.out wr _ (by rw [HE.out]; exact own))
      obtain ⟨a5, n5, k5, rfl, -⟩ := OwnP.shape own
      clear own HJ
      go_wp2_with fail
      refine Calls.mono HJ2.out ?_
      rintro e w2 hr
      obtain ⟨r, rfl, rfl, e2⟩ := ret_ext hr
      clear hr
      go_wp2_with fail
      go_ret
      exact ⟨_, rfl, rfl, ew.trans e2⟩

open Go.ChangeShapes Go.WideShapes Go.ChangeAt Go.RowKit
set_option linter.unusedVariables false

theorem Tryz.infoU8 : (Tryz.prog.info? 5).map (fun i => (i.zero, i.size, i.bytes)) = some (some (.int .u8 0), 1, 1) := by kernel_rfl
def byteV (b : UInt8) : Value := .int .u8 (b.toNat : Int)
theorem digsTo_snoc (xs : List Int) (k : Nat) (h : k < xs.length) : digsD (xs.take (k + 1)) = digsD (xs.take k) ++ [UInt8.ofNat (48 + (xs.getD k 0).toNat)] := by
  have e : xs.take (k + 1) = xs.take k ++ [xs.getD k 0] := by
    rw [List.take_add_one, List.getElem?_eq_getElem h]
    simp [h]
  unfold digsD
  rw [e, List.map_append]
  rfl
theorem bytes_str {w : World} {B : Nat} {v : Value} {l : List UInt8} (o : OwnP byteV 5 B w v l) :
    (convert 34 9 v).run Tryz.prog w = .ok (.string (strOf l)) w := by
  obtain ⟨h1, h2⟩ := id o
  rcases h2 with ⟨rfl, h0⟩ | ⟨g, cap, cur, rfl, hb, hg, hnc, hcm, hcs, htake⟩
  · have hx : l = [] := List.eq_nil_of_length_eq_zero (by omega)
    subst hx
    rw [run_convert_bytes_string w 34 9 5 none 0 0 Tryz.underlying34 Tryz.underlying5 Tryz.underlying9]
    rfl
  · refine run_convert_bytes_back w _ _ _ ⟨g, 0, none⟩ cap l Tryz.underlying34 Tryz.underlying5 Tryz.underlying9 (fun j hj => ?_)
    obtain ⟨_, hc, -⟩ := OwnP.at o (k := j) hj
    have e : (⟨g, 0, none⟩ : Addr).add j = ⟨g, j, none⟩ := by rw [Addr.add_lit]; simp
    rw [e]
    exact hc

set_option maxRecDepth 20000 in
set_option maxHeartbeats 1000000 in
theorem l02Text_c (w : World) (v : Value) (z : Zone) (xs : List Int) (h : IntsR z w v xs) (hin : ∀ x ∈ xs, 0 ≤ x ∧ x ≤ 9) (hl : xs.length ≤ 1000) :
    Calls Tryz.prog 72 #[v] w (Ret w fun r _ => r = .string (strOf (digsD xs))) := by
  have HIn : Hid (∀ k, k < xs.length → 0 ≤ xs.getD k 0 ∧ xs.getD k 0 ≤ 9) := fun k hk => hin _ (by rw [List.getD_eq_getElem?_getD, List.getElem?_eq_getElem hk]; exact List.getElem_mem hk)
  have HSn := Lib.hid (fun (k : Nat) (hk : k < xs.length) => digsTo_snoc xs k hk)
  have HLn : Hid (∀ k, (digsD (xs.take k)).length ≤ 1000) := fun k => by unfold digsD; rw [List.length_map, List.length_take]; omega
  have H0 : Hid (digsD (xs.take 0) = []) := rfl
  have HF : Hid (digsD (xs.take xs.length) = digsD xs) := by show _ = _; rw [List.take_length]
  generalize hdt : (fun k => digsD (xs.take k)) = dT at *
  have HE : Hid (∀ k, digsD (xs.take k) = dT k) := fun k => by rw [← hdt]
  clear hdt
  generalize digsD xs = res at *
  obtain ⟨a, n, cap, rfl, hn, hmax, -⟩ := SliceR.shape h
  have HX := Lib.hid (fun (k : Nat) (hk : k < n) => ints_at h hk)
  rw [← hn] at HIn HSn HF
  clear h hin hl hn
  go_enter Tryz.func72, Tryz.ntmps72
  go_wp2_with fail
  have o1 : OwnP byteV 5 w.heap.size (w.alloc (.cells #[] 5)) (.slice (some ⟨w.heap.size, 0, none⟩) 0 0) [] := OwnP.empty (Nat.le_refl _)
  have e1 : Ext w (w.alloc (.cells #[] 5)) := Ext.alloc _ _
  generalize w.alloc (.cells #[] 5) = w1 at *
  go_loopw [3, 4] (fun s5 s11 wr => ∃ k : Nat, k ≤ n ∧ s11 = .int .i64 (k : Int) ∧ OwnP byteV 5 w.heap.size wr s5 (dT k) ∧ Ext w wr) (fun _ s11 _ => n - (intOf s11).toNat)
  case atStart => exact ⟨0, Nat.zero_le _, rfl, by rw [← HE.out, H0.out]; exact o1, e1⟩
  case round =>
    obtain ⟨k, hk, rfl, own, ew⟩ := hrel
    by_cases hlt : k < n
    · obtain ⟨b, off, rfl, -, hcx⟩ := HX.out k hlt
      replace hcx := hcx wr ew
      have hsn := HSn.out k hlt
      rw [HE.out, HE.out] at hsn
      have hln := HLn.out k
      rw [HE.out] at hln
      have hx := HIn.out k hlt
      generalize xs.getD k 0 = x at *
      obtain ⟨m, rfl⟩ := Int.eq_ofNat_of_zero_le hx.1
      have hm9 : m ≤ 9 := by omega
      have HS2 : Hid (dT (k + 1) = dT k ++ [UInt8.ofNat (48 + m)]) := hsn
      have hby : ((UInt8.ofNat (48 + m)).toNat : Int) = 48 + (m : Int) := by rw [UInt8.toNat_ofNat', Nat.mod_eq_of_lt (by omega)]; omega
      have hw1 : IntKind.i64.wrap (48 + (m : Int)) = 48 + (m : Int) := IntWalk.i64_in _ (by omega)
      have hw2 : IntKind.u8.wrap (48 + (m : Int)) = ((UInt8.ofNat (48 + m)).toNat : Int) := by rw [hby]; exact IntWalk.u8_in _ (by omega)
      have hsz := ew.size
      have HOw := Lib.hid own
      generalize UInt8.ofNat (48 + m) = bk at *
      obtain ⟨a5, n5, k5, rfl, -⟩ := OwnP.shape own
      clear hsn hx hby
      go_wp2_with (at_builtin; (refine wpList_append1 (f := byteV) (e := 5) (B := w.heap.size) (xs := dT k) rfl _ _ 34 rfl 0 1 Tryz.underlying34 Tryz.infoU8 rfl (fun _ => rfl) rfl own bk rfl (by omega) (by omega) hsz ?_); intro v6 w6 hown6 hg6 hb6)
      go_roundw
      case rel => exact ⟨k + 1, by omega, by go_num, by rw [HS2.out]; exact hown6, Below.trans ew hb6⟩
      case measure => simp [intOf]; omega
    · have hkn : k = n := by omega
      have hcv : (convert 34 9 _).run Tryz.prog wr = .ok (.string (strOf (dT k))) wr := bytes_str own
      have HR : Hid (dT k = res) := by show _ = _; rw [hkn, ← HE.out]; exact HF.out
      obtain ⟨a5, n5, k5, rfl, -⟩ := OwnP.shape own
      clear own hkn
      go_wp2_with fail
      go_ret
      exact ⟨_, rfl, by rw [← HR.out]; rfl, ew⟩
end Go.Proofs.YtkeikjedbfomnaaGreatDoor
