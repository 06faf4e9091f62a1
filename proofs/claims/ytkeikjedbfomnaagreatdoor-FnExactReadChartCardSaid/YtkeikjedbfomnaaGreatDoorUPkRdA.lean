/- Proved: the lines of a chart are counted, and equal texts differ nowhere (plain); the parts of a joined text, and the lines of a chart, by splitL (plain; for ReadChart); the words of the lines of a chart (plain; for ReadChart); the key lines of a chart, read back (plain; for ReadChart); what DropDoor computes, and the reference's check of a pair; slices.Delete from a list of lists of the caller's own: only that list's row turns; what RetireKey computes; what reading a chart gives (plain); two lists of lists that a call makes side by side; the lines of a chart one behind the other (plain). -/
import Derived.Test.YtkeikjedbfomnaaGreatDoorChecked
import Derived.Deep.RegionLaw
import Derived.Test.YtkeikjedbfomnaaGreatDoorUChartBody
import Derived.Test.YtkeikjedbfomnaaGreatDoorUPkT2
import Derived.Test.YtkeikjedbfomnaaGreatDoorUPkD
import Derived.Test.YtkeikjedbfomnaaGreatDoorUPkE
import Derived.Test.YtkeikjedbfomnaaGreatDoorUPkA
import Derived.Test.YtkeikjedbfomnaaGreatDoorUPkC
namespace Go.Proofs.YtkeikjedbfomnaaGreatDoor
open Go.ChangeShapes Go.WideShapes Go.ChangeAt Go.RowKit
set_option linter.unusedVariables false

def NoNl (l : List UInt8) : Prop := ∀ b ∈ l, b ≠ 10
theorem noNl_app {a b : List UInt8} (ha : NoNl a) (hb : NoNl b) : NoNl (a ++ b) := fun x hx => (List.mem_append.1 hx).elim (ha x) (hb x)
theorem noNl_nil : NoNl [] := fun x hx => by simp at hx
theorem noNl_join {sep : List UInt8} (hs : NoNl sep) : ∀ {xs : List (List UInt8)}, (∀ x ∈ xs, NoNl x) → NoNl (Lib.join xs sep)
  | [], _ => noNl_nil
  | x :: r, h => by
    have hr : ∀ (l : List (List UInt8)), (∀ y ∈ l, NoNl y) → NoNl (Lib.joinTail sep l) := by
      intro l
      induction l with
      | nil => intro _; exact noNl_nil
      | cons y l ih =>
        intro hl
        have e : Lib.joinTail sep (y :: l) = (sep ++ y) ++ Lib.joinTail sep l := by unfold Lib.joinTail; simp
        rw [e]
        exact noNl_app (noNl_app hs (hl y (by simp))) (ih (fun z hz => hl z (List.mem_cons_of_mem _ hz)))
    rw [Lib.join_cons]
    exact noNl_app (h x (by simp)) (hr r (fun y hy => h y (List.mem_cons_of_mem _ hy)))
theorem noNl_dec (n : Nat) : NoNl (Lib.decDigits n) := by
  have h1 : ∀ k, k < 10 → UInt8.ofNat (48 + k) ≠ 10 := by
    intro k hk e
    have := congrArg UInt8.toNat e
    rw [UInt8.toNat_ofNat', Nat.mod_eq_of_lt (by omega)] at this
    have h10 : (10 : UInt8).toNat = 10 := rfl
    omega
  induction n using Nat.strongRecOn with
  | _ n ih =>
    by_cases h : n < 10
    · rw [dec_one h]
      intro x hx
      rw [List.mem_singleton.1 hx]
      exact h1 n h
    · rw [dec_more h]
      refine noNl_app (ih (n / 10) (by omega)) (fun x hx => ?_)
      rw [List.mem_singleton.1 hx]
      exact h1 (n % 10) (Nat.mod_lt _ (by decide))
theorem noNl_joinI (xs : List Int) {sep : List UInt8} (hs : NoNl sep) : NoNl (joinI xs sep) := noNl_join hs (fun x hx => by
  obtain ⟨y, -, rfl⟩ := List.mem_map.1 hx
  exact noNl_dec _)
theorem noNl_digs {xs : List Int} (h : ∀ x ∈ xs, 0 ≤ x ∧ x < 10) : NoNl (digsD xs) := by
  rw [← joinI_digs h]
  exact noNl_joinI xs noNl_nil
theorem noNl_pins (ps : List (List Int)) : NoNl (pinsD ps) := noNl_join (by intro b hb; rw [List.mem_singleton.1 hb]; decide) (fun x hx => by
  obtain ⟨st, -, rfl⟩ := List.mem_map.1 hx
  exact noNl_joinI st (by intro b hb; rw [List.mem_singleton.1 hb]; decide))
theorem data_app (a b : ByteArray) : (a ++ b).data.toList = a.data.toList ++ b.data.toList := by rw [ByteArray.data_append]; simp
theorem noNl_keyLine {mk : MK} {t cuts : List (List Int)} (ok : DesignOk mk t cuts) {k : Nat} (hk : k < cuts.length) : NoNl (keyLineV t cuts k).data.toList := by
  have hkt : k < t.length := by rw [← ok.eq]; exact hk
  unfold keyLineV
  simp only [data_app, data_strOf]
  refine noNl_app (noNl_app (noNl_app (noNl_app (noNl_app ?_ (noNl_dec _)) ?_) (noNl_digs (cutDigs ok hk).2)) ?_) (noNl_digs (rowDigs ok hkt).2)
  · show NoNl [107, 101, 121, 32]
    unfold NoNl; decide
  · show NoNl [32]
    unfold NoNl; decide
  · show NoNl [32]
    unfold NoNl; decide
theorem noNl_doorLine (d : Nat) (ps : List (List Int)) : NoNl (doorLineV d ps).data.toList := by
  unfold doorLineV
  simp only [data_app, data_strOf]
  refine noNl_app (noNl_app (noNl_app ?_ (noNl_dec _)) ?_) (noNl_pins ps)
  · show NoNl [100, 111, 111, 114, 32]
    unfold NoNl; decide
  · show NoNl [32]
    unfold NoNl; decide
theorem noNl_maker (mk : MK) : NoNl (makerV mk).data.toList := by
  unfold makerV
  simp only [data_app, data_strOf]
  refine noNl_app ?_ (noNl_joinI _ ?_)
  · show NoNl [109, 97, 107, 101, 114, 32]
    unfold NoNl; decide
  · unfold NoNl; decide
theorem noNl_count {l : List UInt8} (h : NoNl l) : l.count 10 = 0 := List.count_eq_zero.2 (fun hm => h 10 hm rfl)
theorem chartD_count : ∀ (ls : List ByteArray), (∀ l ∈ ls, NoNl l.data.toList) → (chartD ls).count 10 = ls.length
  | [], _ => rfl
  | x :: r, h => by
    have e : chartD (x :: r) = (x.data.toList ++ [10]) ++ chartD r := by unfold chartD; simp
    rw [e, List.count_append, List.count_append, noNl_count (h x (by simp)), chartD_count r (fun y hy => h y (List.mem_cons_of_mem _ hy)), List.length_cons]
    simp
    omega
theorem chartD_last : ∀ (ls : List ByteArray), (linesTo 10 (chartD ls)).2 = [] := by
  intro ls
  rw [linesTo_last]
  rcases List.eq_nil_or_concat ls with rfl | ⟨r, x, rfl⟩
  · exact .inl rfl
  · refine .inr ⟨chartD r ++ x.data.toList, ?_⟩
    unfold chartD
    simp
/-- a chart has a line for the maker, each row and each door -/
theorem chart_lines {mk : MK} {t cuts : List (List Int)} (h : designCode mk t cuts = 0) (h2 : (chartV mk t cuts).size ≤ 240) : countL (chartV mk t cuts).data.toList = (((1 + cuts.length + doorsOf t : Nat) : Int), 0) := by
  have ok := designCode_zero h
  have hd : (chartV mk t cuts).data.toList = chartD (chartLs mk t cuts) := data_strOf _
  have hl : (chartV mk t cuts).data.toList.length = (chartV mk t cuts).size := len_str _
  rw [countL_ok (by omega) (by rw [hd]; exact chartD_last _), hd, chartD_count _ (fun l hl => ?_)]
  · unfold chartLs
    rw [lines_len]
  · unfold chartLs at hl
    rcases List.mem_append.1 hl with hl | hl
    · rcases List.mem_cons.1 hl with rfl | hl
      · exact noNl_maker mk
      · unfold keyLines at hl
        obtain ⟨i, hi, rfl⟩ := List.mem_map.1 hl
        exact noNl_keyLine ok (List.mem_range.1 hi)
    · unfold doorLines at hl
      obtain ⟨i, hi, rfl⟩ := List.mem_map.1 hl
      exact noNl_doorLine _ _
theorem cp_comm : ∀ (A B : List (List UInt8)), cp A B = cp B A
  | [], [] => rfl
  | [], _ :: _ => rfl
  | _ :: _, [] => rfl
  | a :: A, b :: B => by
    rw [cp_cons, cp_cons]
    by_cases h : a = b
    · rw [if_pos h, if_pos h.symm, cp_comm A B]
    · rw [if_neg h, if_neg (fun e => h e.symm)]
/-- equal texts differ nowhere, and the first line that differs is the same both ways -/
theorem same_back {la lb : List UInt8} (h : (sameC la lb).2 = 0) : sameC lb la = sameC la lb ∧ ((sameC la lb).1 = 0 ↔ la = lb) := by
  have h0 : codeL la = 0 ∧ codeL lb = 0 := by
    by_cases h3 : codeL la = 3 ∨ codeL lb = 3
    · rw [sameC_lim h3] at h; cases h
    · by_cases h4 : codeL la ≠ 0 ∨ codeL lb ≠ 0
      · rw [sameC_syn h4 h3] at h; cases h
      · refine ⟨?_, ?_⟩
        · by_cases e : codeL la = 0
          · exact e
          · exact absurd (.inl e) h4
        · by_cases e : codeL lb = 0
          · exact e
          · exact absurd (.inr e) h4
  by_cases he : lns la = lns lb
  · rw [sameC_eq h0.1 h0.2 he, sameC_eq h0.2 h0.1 he.symm]
    exact ⟨rfl, ⟨fun _ => lns_inj h0.1 h0.2 he, fun _ => rfl⟩⟩
  · rw [sameC_ne h0.1 h0.2 he, sameC_ne h0.2 h0.1 (fun e => he e.symm), cp_comm]
    refine ⟨rfl, ⟨fun h => ?_, fun e => absurd (by rw [e]) he⟩⟩
    have h5 : ((cp (lns la) (lns lb) : Nat) : Int) + 1 = 0 := h
    omega

open Go.ChangeShapes Go.WideShapes Go.ChangeAt Go.RowKit
set_option linter.unusedVariables false

theorem fold_acc (b : UInt8) : ∀ (l : List UInt8) (A : List (List UInt8)) (p : List UInt8), l.foldl (lineStep b) (A, p) = (A ++ (l.foldl (lineStep b) ([], p)).1, (l.foldl (lineStep b) ([], p)).2)
  | [], A, p => by simp
  | c :: r, A, p => by
    rw [List.foldl_cons, List.foldl_cons]
    by_cases h : c = b
    · have e1 : lineStep b (A, p) c = (A ++ [p], []) := by unfold lineStep; rw [if_pos h]
      have e2 : lineStep b ([], p) c = ([p], []) := by unfold lineStep; rw [if_pos h]; rfl
      rw [e1, e2, fold_acc b r (A ++ [p]) [], fold_acc b r [p] []]
      simp [List.append_assoc]
    · have e1 : lineStep b (A, p) c = (A, p ++ [c]) := by unfold lineStep; rw [if_neg h]
      have e2 : lineStep b ([], p) c = ([], p ++ [c]) := by unfold lineStep; rw [if_neg h]
      rw [e1, e2, fold_acc b r A (p ++ [c])]
theorem fold_clean (b : UInt8) : ∀ (l : List UInt8) (A : List (List UInt8)) (p : List UInt8), b ∉ l → l.foldl (lineStep b) (A, p) = (A, p ++ l)
  | [], A, p, _ => by simp
  | c :: r, A, p, h => by
    have hc : c ≠ b := fun e => h (by rw [e]; simp)
    have e1 : lineStep b (A, p) c = (A, p ++ [c]) := by unfold lineStep; rw [if_neg hc]
    rw [List.foldl_cons, e1, fold_clean b r A (p ++ [c]) (fun hm => h (List.mem_cons_of_mem _ hm))]
    simp [List.append_assoc]
theorem splitL_one {b : UInt8} {l : List UInt8} (h : b ∉ l) : splitL b l = [l] := by
  unfold splitL linesTo
  rw [fold_clean b l [] [] h]
  simp
theorem splitL_cons {b : UInt8} {d : List UInt8} (h : b ∉ d) (r : List UInt8) : splitL b (d ++ b :: r) = d :: splitL b r := by
  have e : lineStep b (([] : List (List UInt8)), [] ++ d) b = ([d], []) := by unfold lineStep; rw [if_pos rfl]; simp
  unfold splitL linesTo
  rw [List.foldl_append, fold_clean b d [] [] h, List.foldl_cons, e, fold_acc b r [d] []]
  simp
theorem splitL_chart : ∀ (ls : List ByteArray), (∀ l ∈ ls, NoNl l.data.toList) → splitL 10 (chartD ls) = ls.map (·.data.toList) ++ [[]]
  | [], _ => rfl
  | x :: r, h => by
    have e : chartD (x :: r) = x.data.toList ++ 10 :: chartD r := by unfold chartD; simp
    rw [e, splitL_cons (fun hm => h x (by simp) 10 hm rfl), splitL_chart r (fun y hy => h y (List.mem_cons_of_mem _ hy))]
    rfl
theorem splitL_join (b : UInt8) : ∀ (x : List UInt8) (r : List (List UInt8)), (∀ y ∈ x :: r, b ∉ y) → splitL b (Lib.join (x :: r) [b]) = x :: r
  | x, [], h => by
    have e : Lib.join [x] [b] = x := by rw [Lib.join_cons]; simp [Lib.joinTail]
    rw [e, splitL_one (h x (by simp))]
  | x, y :: r, h => by
    have e : Lib.join (x :: y :: r) [b] = x ++ b :: Lib.join (y :: r) [b] := by
      rw [Lib.join_cons, Lib.join_cons]; simp [Lib.joinTail]
    rw [e, splitL_cons (h x (by simp)), splitL_join b y r (fun z hz => h z (List.mem_cons_of_mem _ hz))]

open Go.ChangeShapes Go.WideShapes Go.ChangeAt Go.RowKit
set_option linter.unusedVariables false

def HiD (l : List UInt8) : Prop := ∀ b ∈ l, 48 ≤ b.toNat
theorem hi_one {k : Nat} (hk : k < 10) : HiD [UInt8.ofNat (48 + k)] := by
  intro b hb
  rw [List.mem_singleton.1 hb, UInt8.toNat_ofNat', Nat.mod_eq_of_lt (by omega)]
  omega
theorem hi_dec (n : Nat) : HiD (Lib.decDigits n) := by
  induction n using Nat.strongRecOn with
  | _ n ih =>
    by_cases h : n < 10
    · rw [dec_one h]
      exact hi_one h
    · rw [dec_more h]
      intro x hx
      exact (List.mem_append.1 hx).elim (ih (n / 10) (by omega) x) (hi_one (Nat.mod_lt n (by decide)) x)
theorem hi_num (x : Int) : HiD (numD x) := hi_dec _
theorem hi_digs {xs : List Int} (h : ∀ x ∈ xs, 0 ≤ x ∧ x < 10) : HiD (digsD xs) := by
  intro b hb
  obtain ⟨x, hx, rfl⟩ := List.mem_map.1 hb
  have := h x hx
  exact hi_one (k := x.toNat) (by omega) _ (by simp)
theorem hi_not {l : List UInt8} (h : HiD l) {b : UInt8} (hb : b.toNat < 48) : b ∉ l := fun hm => by have := h b hm; omega
theorem keyLine_words {mk : MK} {t cuts : List (List Int)} (ok : DesignOk mk t cuts) {k : Nat} (hk : k < cuts.length) :
    splitL 32 (keyLineV t cuts k).data.toList = [[107, 101, 121], numD k, digsD (cuts.getD k []), digsD (t.getD k [])] := by
  have hkt : k < t.length := by rw [← ok.eq]; exact hk
  have e : (keyLineV t cuts k).data.toList = [107, 101, 121] ++ 32 :: (numD k ++ 32 :: (digsD (cuts.getD k []) ++ 32 :: digsD (t.getD k []))) := by
    unfold keyLineV
    simp only [data_app, data_strOf]
    simp [List.append_assoc]
  rw [e, splitL_cons (by decide), splitL_cons (hi_not (hi_num _) (by decide)), splitL_cons (hi_not (hi_digs (cutDigs ok hk).2) (by decide)), splitL_one (hi_not (hi_digs (rowDigs ok hkt).2) (by decide))]
theorem doorLine_words (d : Nat) (ps : List (List Int)) : ∃ r, splitL 32 (doorLineV d ps).data.toList = [100, 111, 111, 114] :: r := by
  have e : (doorLineV d ps).data.toList = [100, 111, 111, 114] ++ 32 :: (numD d ++ 32 :: pinsD ps) := by
    unfold doorLineV
    simp only [data_app, data_strOf]
    simp [List.append_assoc]
  exact ⟨_, by rw [e, splitL_cons (by decide)]⟩
theorem maker_words (mk : MK) : splitL 32 (makerV mk).data.toList = [109, 97, 107, 101, 114] :: [mk.c, mk.d, mk.s, mk.m, mk.l].map numD := by
  have e : (makerV mk).data.toList = [109, 97, 107, 101, 114] ++ 32 :: joinI [mk.c, mk.d, mk.s, mk.m, mk.l] [32] := by
    unfold makerV
    simp only [data_app, data_strOf]
    simp
  rw [e, splitL_cons (by decide)]
  unfold joinI
  rw [List.map_cons, splitL_join 32 _ _ (fun y hy => by
    obtain ⟨x, -, rfl⟩ := List.mem_map.1 (show y ∈ [mk.c, mk.d, mk.s, mk.m, mk.l].map numD from hy)
    exact hi_not (hi_dec _) (by decide))]
theorem chart_split {mk : MK} {t cuts : List (List Int)} (ok : DesignOk mk t cuts) : splitL 10 (chartV mk t cuts).data.toList =
    (makerV mk).data.toList :: ((keyLines t cuts cuts.length).map (·.data.toList) ++ ((doorLines mk t cuts (doorsOf t)).map (·.data.toList) ++ [[]])) := by
  unfold chartV
  rw [data_strOf, splitL_chart (chartLs mk t cuts) (fun l hl => by
    unfold chartLs at hl
    rcases List.mem_append.1 hl with h | h
    · rcases List.mem_cons.1 h with rfl | h
      · exact noNl_maker mk
      · obtain ⟨k, hk, rfl⟩ := List.mem_map.1 h
        exact noNl_keyLine ok (List.mem_range.1 hk)
    · obtain ⟨d, -, rfl⟩ := List.mem_map.1 h
      exact noNl_doorLine _ _)]
  unfold chartLs
  simp [List.append_assoc]

open Go.ChangeShapes Go.WideShapes Go.ChangeAt Go.RowKit
set_option linter.unusedVariables false

/-- the words of a key line: the key, the row -/
def keyWords (l : List UInt8) : Option (List UInt8 × List UInt8) :=
  match splitL 32 l with
  | [w, _, a, b] => if w = [107, 101, 121] then some (a, b) else none
  | _ => none
/-- the key lines up to the first line that is none -/
def keyRun : List (List UInt8) → List (List UInt8 × List UInt8)
  | [] => []
  | l :: r => match keyWords l with
    | some p => p :: keyRun r
    | none => []
theorem keyWords_key {mk : MK} {t cuts : List (List Int)} (ok : DesignOk mk t cuts) {k : Nat} (hk : k < cuts.length) : keyWords (keyLineV t cuts k).data.toList = some (digsD (cuts.getD k []), digsD (t.getD k [])) := by
  unfold keyWords
  rw [keyLine_words ok hk]
  rfl
theorem keyWords_door (d : Nat) (ps : List (List Int)) : keyWords (doorLineV d ps).data.toList = none := by
  obtain ⟨r, hr⟩ := doorLine_words d ps
  unfold keyWords
  rw [hr]
  split
  · next h =>
    have e := (List.cons.inj h).1
    rw [if_neg (by rw [← e]; decide)]
  · rfl
theorem keyWords_nil : keyWords [] = none := rfl
theorem keyRun_app : ∀ (ls : List (List UInt8)) (ps : List (List UInt8 × List UInt8)) (r : List (List UInt8)), ls.map keyWords = ps.map some → keyRun (ls ++ r) = ps ++ keyRun r
  | [], [], _, _ => rfl
  | [], _ :: _, _, h => by simp at h
  | _ :: _, [], _, h => by simp at h
  | l :: ls, p :: ps, r, h => by
    rw [List.map_cons, List.map_cons] at h
    have h1 := (List.cons.inj h).1
    have h2 := (List.cons.inj h).2
    have e : keyRun (l :: (ls ++ r)) = p :: keyRun (ls ++ r) := by
      show (match keyWords l with | some p => p :: keyRun (ls ++ r) | none => []) = _
      rw [h1]
    rw [List.cons_append, e, keyRun_app ls ps r h2]
    rfl
theorem keyRun_none {l : List UInt8} (h : keyWords l = none) (r : List (List UInt8)) : keyRun (l :: r) = [] := by
  show (match keyWords l with | some p => p :: keyRun r | none => []) = _
  rw [h]
theorem keyRun_chart {mk : MK} {t cuts : List (List Int)} (ok : DesignOk mk t cuts) :
    keyRun ((keyLines t cuts cuts.length).map (·.data.toList) ++ ((doorLines mk t cuts (doorsOf t)).map (·.data.toList) ++ [[]])) = (List.range cuts.length).map fun k => (digsD (cuts.getD k []), digsD (t.getD k [])) := by
  rw [keyRun_app _ ((List.range cuts.length).map fun k => (digsD (cuts.getD k []), digsD (t.getD k []))) _ (by
    unfold keyLines
    rw [List.map_map, List.map_map, List.map_map]
    exact List.map_congr_left fun k hk => keyWords_key ok (List.mem_range.1 hk))]
  have hz : keyRun ((doorLines mk t cuts (doorsOf t)).map (·.data.toList) ++ [[]]) = [] := by
    unfold doorLines
    cases hn : List.range (doorsOf t) with
    | nil => exact keyRun_none keyWords_nil []
    | cons d r => exact keyRun_none (keyWords_door _ _) _
  rw [hz, List.append_nil]
/-- the digits behind a text -/
def digsBack (l : List UInt8) : List Int := l.map fun b => (b.toNat : Int) - 48
theorem digsBack_digs {xs : List Int} (h : ∀ x ∈ xs, 0 ≤ x ∧ x < 10) : digsBack (digsD xs) = xs := by
  unfold digsBack digsD
  rw [List.map_map]
  conv => rhs; rw [← List.map_id xs]
  refine List.map_congr_left fun x hx => ?_
  have hb := h x hx
  show ((UInt8.ofNat (48 + x.toNat)).toNat : Int) - 48 = x
  rw [UInt8.toNat_ofNat', Nat.mod_eq_of_lt (by omega)]
  omega
theorem chart_back {mk : MK} {t cuts : List (List Int)} (ok : DesignOk mk t cuts) :
    (keyRun ((splitL 10 (chartV mk t cuts).data.toList).drop 1)).map (fun p => digsBack p.1) = cuts ∧ (keyRun ((splitL 10 (chartV mk t cuts).data.toList).drop 1)).map (fun p => digsBack p.2) = t := by
  rw [chart_split ok, List.drop_one, List.tail_cons, keyRun_chart ok, List.map_map, List.map_map]
  refine ⟨?_, ?_⟩
  · refine List.ext_getElem (by simp) fun k h1 h2 => ?_
    rw [List.getElem_map, List.getElem_range]
    show digsBack (digsD (cuts.getD k [])) = cuts[k]
    rw [digsBack_digs (cutDigs ok h2).2]; simp [h2]
  · refine List.ext_getElem (by simp [ok.eq]) fun k h1 h2 => ?_
    rw [List.getElem_map, List.getElem_range]
    show digsBack (digsD (t.getD k [])) = t[k]
    rw [digsBack_digs (rowDigs ok h2).2]; simp [h2]

open Go.ChangeShapes Go.WideShapes Go.ChangeAt Go.RowKit
set_option linter.unusedVariables false

def delAt (d : Nat) (r : List Int) : List Int := r.take d ++ r.drop (d + 1)
def dropDoor (mk : MK) (t cuts : List (List Int)) (d : Int) : (MK × List (List Int)) × Int :=
  if designCode mk t cuts ≠ 0 then ((noSys, []), designCode mk t cuts) else if inB d 0 ((doorsOf t : Int) - 1) = false then ((noSys, []), 2) else if doorsOf t = 1 then ((noSys, []), 5) else ((mk, mapI (fun _ r => delAt d.toNat r) t t.length), 0)
theorem dropDoor_bad {mk : MK} {t cuts : List (List Int)} {d : Int} (h : designCode mk t cuts ≠ 0) : dropDoor mk t cuts d = ((noSys, []), designCode mk t cuts) := by unfold dropDoor; rw [if_pos h]
theorem dropDoor_range {mk : MK} {t cuts : List (List Int)} {d : Int} (h : designCode mk t cuts = 0) (h2 : inB d 0 ((doorsOf t : Int) - 1) = false) : dropDoor mk t cuts d = ((noSys, []), 2) := by unfold dropDoor; rw [if_neg (by omega), if_pos h2]
theorem dropDoor_one {mk : MK} {t cuts : List (List Int)} {d : Int} (h : designCode mk t cuts = 0) (h2 : inB d 0 ((doorsOf t : Int) - 1) = true) (h3 : doorsOf t = 1) : dropDoor mk t cuts d = ((noSys, []), 5) := by unfold dropDoor; rw [if_neg (by omega), if_neg (by rw [h2]; decide), if_pos h3]
theorem dropDoor_ok {mk : MK} {t cuts : List (List Int)} {d : Int} (h : designCode mk t cuts = 0) (h2 : inB d 0 ((doorsOf t : Int) - 1) = true) (h3 : doorsOf t ≠ 1) : dropDoor mk t cuts d = ((mk, mapI (fun _ r => delAt d.toNat r) t t.length), 0) := by unfold dropDoor; rw [if_neg (by omega), if_neg (by rw [h2]; decide), if_neg h3]
def pairB (t : List (List Int)) (k d : Int) : Bool := inB k 0 ((t.length : Int) - 1) && inB d 0 ((doorsOf t : Int) - 1)

open Go.ChangeShapes Go.WideShapes Go.ChangeAt Go.RowKit
set_option linter.unusedVariables false

theorem Tryz.zeroInts : ∀ w, (zeroValue 46).run Tryz.prog w = .ok (.slice none 0 0) w := fun _ => by kernel_rfl
def DelRowsU (v : Value) (w : World) (ys : List (Option Addr × Nat × Nat)) (e : Ending) (w' : World) : Prop := ∃ cap g, e = .returned (.slice (some ⟨g, 0, none⟩) ys.length cap) ∧ v.ownBlock = some g ∧ ys.length ≤ cap ∧ cap ≤ maxLen ∧
  (∀ t, t < ys.length → w'.cell? ⟨g, t, none⟩ = some (slV (ys.getD t (none, 0, 0)))) ∧ (∀ t, w'.frozen? ⟨g, t, none⟩ = false) ∧ Within ⟨g, g + 1, true⟩ w w'

def rmAt (k : Nat) (l : List (List Int)) : List (List Int) := l.take k ++ l.drop (k + 1)
theorem rmAt_len {k : Nat} {l : List (List Int)} (h : k < l.length) : (rmAt k l).length = l.length - 1 := by unfold rmAt; rw [List.length_append, List.length_take, List.length_drop]; omega
theorem drop_get {α : Type} {xs : List α} {k t : Nat} (h : t < (xs.take k ++ xs.drop (k + 1)).length) (hk : k < xs.length) : ∃ h' : (if t < k then t else t + 1) < xs.length, (xs.take k ++ xs.drop (k + 1))[t] = xs[if t < k then t else t + 1] := by
  rw [List.length_append, List.length_take, List.length_drop] at h
  by_cases e : t < k
  · simp only [e, if_true]
    refine ⟨by omega, ?_⟩
    rw [List.getElem_append_left (by rw [List.length_take]; omega), List.getElem_take]
  · simp only [e, if_false]
    refine ⟨by omega, ?_⟩
    rw [List.getElem_append_right (by rw [List.length_take]; omega), List.getElem_drop]
    congr 1
    rw [List.length_take]; omega
def DelRows (L : Nat) (w : World) (W : World) (ys : List (List Int)) (e : Ending) (w' : World) : Prop := ∃ r, e = .returned r ∧ RowsR ⟨L, w.heap.size, true⟩ w' r ys ∧ Within ⟨L, w.heap.size, true⟩ W w'

open Go.ChangeShapes Go.WideShapes Go.ChangeAt Go.RowKit
set_option linter.unusedVariables false

abbrev SysRows : Type := (MK × List (List Int)) × (List (List Int) × Int)
def noRes (c : Int) : SysRows := ((noSys, []), ([], c))
def retireKey (mk : MK) (t cuts : List (List Int)) (k : Int) : SysRows :=
  if designCode mk t cuts ≠ 0 then noRes (designCode mk t cuts) else if inB k 0 ((cuts.length : Int) - 1) = false then noRes 2 else if isSystem mk (rmAt k.toNat t) = false then noRes 5 else ((mk, rmAt k.toNat t), (rmAt k.toNat cuts, 0))
theorem retire_bad {mk : MK} {t cuts : List (List Int)} {d : Int} (h : designCode mk t cuts ≠ 0) : retireKey mk t cuts d = noRes (designCode mk t cuts) := by unfold retireKey; rw [if_pos h]
theorem retire_range {mk : MK} {t cuts : List (List Int)} {d : Int} (h : designCode mk t cuts = 0) (h2 : inB d 0 ((cuts.length : Int) - 1) = false) : retireKey mk t cuts d = noRes 2 := by unfold retireKey; rw [if_neg (by omega), if_pos h2]
theorem retire_state {mk : MK} {t cuts : List (List Int)} {d : Nat} (h : designCode mk t cuts = 0) (h2 : inB d 0 ((cuts.length : Int) - 1) = true) (h3 : isSystem mk (rmAt d t) = false) : retireKey mk t cuts d = noRes 5 := by unfold retireKey; rw [if_neg (by omega), if_neg (by rw [h2]; decide), Int.toNat_natCast, if_pos h3]
theorem retire_ok {mk : MK} {t cuts : List (List Int)} {d : Nat} (h : designCode mk t cuts = 0) (h2 : inB d 0 ((cuts.length : Int) - 1) = true) (h3 : isSystem mk (rmAt d t) = true) : retireKey mk t cuts d = ((mk, rmAt d t), (rmAt d cuts, 0)) := by unfold retireKey; rw [if_neg (by omega), if_neg (by rw [h2]; decide), Int.toNat_natCast, if_neg (by rw [h3]; decide)]
/-- a system, a list of lists and a code: the first lies before the second -/
def SysRes2 (w : World) (x : SysRows) (r : Value) (w' : World) : Prop := ∃ u0 u1 m, r = .tuple #[sysV x.1.1 u0, u1, .int .i64 x.2.2] ∧ (w.heap.size ≤ m ∧ m ≤ w'.heap.size) ∧ RowsR ⟨w.heap.size, m, true⟩ w' u0 x.1.2 ∧ RowsR ⟨m, w'.heap.size, true⟩ w' u1 x.2.1
theorem SysRes2.bad {w w' : World} {x : SysRows} {c : Int} (h : x = noRes c) (hs : w.heap.size ≤ w'.heap.size) : SysRes2 w x (.tuple #[sysV noSys (.slice none 0 0), .slice none 0 0, .int .i64 c]) w' := by
  subst h; exact ⟨_, _, _, rfl, ⟨Nat.le_refl _, hs⟩, SliceR.nil _ _ _, SliceR.nil _ _ _⟩
theorem DesignOk.rowLen {mk : MK} {t cuts : List (List Int)} (ok : DesignOk mk t cuts) {k : Nat} (hk : k < cuts.length) : (cuts.getD k []).length ≤ 6 := by
  have hm : cuts.getD k [] ∈ cuts := by simp [List.getD_eq_getElem?_getD, hk]
  have := (ok.key _ hm).len
  have := ok.mk1
  omega

open Go.ChangeShapes Go.WideShapes Go.ChangeAt Go.RowKit
set_option linter.unusedVariables false

/-- a text is the chart of a design -/
structure IsCh (s : ByteArray) (mk : MK) (t cuts : List (List Int)) : Prop where
  des : designCode mk t cuts = 0
  eq : chartV mk t cuts = s
/-- the maker behind a first line -/
def mkBack (l : List UInt8) : MK :=
  let n := (splitL 32 l).map fun w => (digsBack w).getD 0 0
  ⟨n.getD 1 0, n.getD 2 0, n.getD 3 0, n.getD 4 0, n.getD 5 0⟩
theorem mkBack_maker {mk : MK} (h : isMaker mk = true) : mkBack (makerV mk).data.toList = mk := by
  have hd := makerDigs h
  have e : ∀ x : Int, x ∈ [mk.c, mk.d, mk.s, mk.m, mk.l] → (digsBack (numD x)).getD 0 0 = x := fun x hx => by
    have e1 : numD x = digsD [x] := by rw [numD_digit (hd x hx)]; rfl
    rw [e1, digsBack_digs (fun y hy => by rw [List.mem_singleton.1 hy]; exact hd x hx)]
    rfl
  unfold mkBack
  rw [maker_words]
  simp only [List.map_cons, List.map_nil, List.getD_cons_succ, List.getD_cons_zero]
  rw [e mk.c (by simp), e mk.d (by simp), e mk.s (by simp), e mk.m (by simp), e mk.l (by simp)]
def keysP (s : ByteArray) : List (List Int) := (keyRun ((splitL 10 s.data.toList).drop 1)).map fun p => digsBack p.1
def rowsP (s : ByteArray) : List (List Int) := (keyRun ((splitL 10 s.data.toList).drop 1)).map fun p => digsBack p.2
def makerP (s : ByteArray) : MK := mkBack ((splitL 10 s.data.toList).headD [])
theorem isCh_ok {s : ByteArray} {mk : MK} {t cuts : List (List Int)} (h : IsCh s mk t cuts) : DesignOk mk t cuts := designCode_zero h.des
theorem isCh_head {s : ByteArray} {mk : MK} {t cuts : List (List Int)} (h : IsCh s mk t cuts) : (splitL 10 s.data.toList).headD [] = (makerV mk).data.toList := by
  rw [← h.eq, chart_split (isCh_ok h)]; rfl
theorem isCh_back {s : ByteArray} {mk : MK} {t cuts : List (List Int)} (h : IsCh s mk t cuts) : makerP s = mk ∧ rowsP s = t ∧ keysP s = cuts := by
  refine ⟨?_, ?_, ?_⟩
  · unfold makerP
    rw [isCh_head h, mkBack_maker (design_maker (isCh_ok h))]
  · unfold rowsP
    rw [← h.eq]
    exact (chart_back (isCh_ok h)).2
  · unfold keysP
    rw [← h.eq]
    exact (chart_back (isCh_ok h)).1
/-- whether a text is the chart of a design -/
def isChB (s : ByteArray) : Bool := decide (designCode (makerP s) (rowsP s) (keysP s) = 0) && decide ((chartV (makerP s) (rowsP s) (keysP s)).data = s.data)
theorem isChB_is {s : ByteArray} (h : isChB s = true) : IsCh s (makerP s) (rowsP s) (keysP s) := by
  unfold isChB at h
  obtain ⟨h1, h2⟩ := Bool.and_eq_true_iff.1 h
  exact ⟨of_decide_eq_true h1, ByteArray.ext (of_decide_eq_true h2)⟩
theorem isChB_of {s : ByteArray} {mk : MK} {t cuts : List (List Int)} (h : IsCh s mk t cuts) : isChB s = true := by
  obtain ⟨rfl, rfl, rfl⟩ := isCh_back h
  unfold isChB
  rw [decide_eq_true h.des, h.eq]
  simp
def readC (s : ByteArray) : SysRows := if 240 < s.size then noRes 3 else if isChB s = true then ((makerP s, rowsP s), (keysP s, 0)) else noRes 6
theorem readC_long {s : ByteArray} (h : 240 < s.size) : readC s = noRes 3 := by unfold readC; rw [if_pos h]
theorem readC_is {s : ByteArray} {mk : MK} {t cuts : List (List Int)} (hs : ¬ 240 < s.size) (h : IsCh s mk t cuts) : readC s = ((mk, t), (cuts, 0)) := by
  unfold readC
  rw [if_neg hs, if_pos (isChB_of h)]
  obtain ⟨rfl, rfl, rfl⟩ := isCh_back h
  rfl
theorem readC_not {s : ByteArray} (hs : ¬ 240 < s.size) (h : ∀ mk t cuts, IsCh s mk t cuts → False) : readC s = noRes 6 := by
  unfold readC
  rw [if_neg hs]
  cases hb : isChB s with
  | true => exact (h _ _ _ (isChB_is hb)).elim
  | false => rfl
/-- what reading a first line may give: a maker's line gives that maker -/
def LineOk (line : List UInt8) (mk' : MK) (b : Bool) : Prop := ∀ mk, isMaker mk = true → line = (makerV mk).data.toList → b = true ∧ mk' = mk
theorem readC_maker {s : ByteArray} {mk' : MK} (hs : ¬ 240 < s.size) (h : LineOk ((splitL 10 s.data.toList).headD []) mk' false) : readC s = noRes 6 :=
  readC_not hs fun mk t cuts hc => by have := (h mk (design_maker (isCh_ok hc)) (isCh_head hc)).1; cases this
theorem readC_key {s : ByteArray} {mk' : MK} (hs : ¬ 240 < s.size) (h : LineOk ((splitL 10 s.data.toList).headD []) mk' true) {k : List Int} (hk : k ∈ keysP s) (hn : isKeyB mk' k = false) : readC s = noRes 6 :=
  readC_not hs fun mk t cuts hc => by
    have h1 := (h mk (design_maker (isCh_ok hc)) (isCh_head hc)).2
    subst h1
    obtain ⟨rfl, rfl, rfl⟩ := isCh_back hc
    have h2 := hc.des
    unfold designCode at h2
    split at h2
    · next hd =>
      unfold isDesign at hd
      obtain ⟨-, h3⟩ := Bool.and_eq_true_iff.1 hd
      obtain ⟨h4, -⟩ := Bool.and_eq_true_iff.1 h3
      obtain ⟨-, h5⟩ := Bool.and_eq_true_iff.1 h4
      unfold areKeysB at h5
      rw [List.all_eq_true.1 h5 k hk] at hn
      cases hn
    · cases h2
theorem readC_design {s : ByteArray} {mk' : MK} (hs : ¬ 240 < s.size) (h : LineOk ((splitL 10 s.data.toList).headD []) mk' true) (hn : designCode mk' (rowsP s) (keysP s) ≠ 0 ∨ chartV mk' (rowsP s) (keysP s) ≠ s) : readC s = noRes 6 :=
  readC_not hs fun mk t cuts hc => by
    have h1 := (h mk (design_maker (isCh_ok hc)) (isCh_head hc)).2
    subst h1
    obtain ⟨-, rfl, rfl⟩ := isCh_back hc
    rcases hn with q | q
    · exact q hc.des
    · exact q hc.eq
theorem readC_yes {s : ByteArray} {mk' : MK} (hs : ¬ 240 < s.size) (h1 : designCode mk' (rowsP s) (keysP s) = 0) (h2 : chartV mk' (rowsP s) (keysP s) = s) : readC s = ((mk', rowsP s), (keysP s, 0)) := readC_is hs ⟨h1, h2⟩
/-- what is read back of a text with digits alone -/
def digB (l : List UInt8) : Bool := l.all fun b => decide (48 ≤ b.toNat) && decide (b.toNat ≤ 57)
theorem digB_digs {xs : List Int} (h : ∀ x ∈ xs, 0 ≤ x ∧ x < 10) : digB (digsD xs) = true := by
  unfold digB digsD
  rw [List.all_eq_true]
  intro b hb
  obtain ⟨x, hx, rfl⟩ := List.mem_map.1 hb
  have := h x hx
  rw [UInt8.toNat_ofNat', Nat.mod_eq_of_lt (by omega), decide_eq_true (by omega), decide_eq_true (by omega)]
  rfl
theorem readC_digit {s : ByteArray} (hs : ¬ 240 < s.size) {p : List UInt8 × List UInt8} (hp : p ∈ keyRun ((splitL 10 s.data.toList).drop 1)) (hn : (digB p.1 && digB p.2) = false) : readC s = noRes 6 :=
  readC_not hs fun mk t cuts hc => by
    have ok := isCh_ok hc
    rw [← hc.eq, chart_split ok, List.drop_one, List.tail_cons, keyRun_chart ok] at hp
    obtain ⟨k, hk, rfl⟩ := List.mem_map.1 hp
    have hk := List.mem_range.1 hk
    have hkt : k < t.length := by rw [← ok.eq]; exact hk
    rw [digB_digs (cutDigs ok hk).2, digB_digs (rowDigs ok hkt).2] at hn
    cases hn
/-- the first lines that are key lines -/
theorem keyRun_take : ∀ (ls : List (List UInt8)) (i : Nat), (∀ j, j < i → ∀ h : j < ls.length, keyWords ls[j] ≠ none) → (∀ h : i < ls.length, keyWords ls[i] = none) → i ≤ ls.length → keyRun ls = keyRun (ls.take i)
  | [], _, _, _, _ => by simp
  | l :: r, 0, _, h2, _ => by
    have := h2 (by simp)
    rw [List.getElem_cons_zero] at this
    rw [keyRun_none this]; rfl
  | l :: r, i + 1, h1, h2, h3 => by
    have h0 := h1 0 (by omega) (by simp)
    rw [List.getElem_cons_zero] at h0
    have ih := keyRun_take r i (fun j hj h => by
      have := h1 (j + 1) (by omega) (by simp; omega)
      rwa [List.getElem_cons_succ] at this) (fun h => by
      have := h2 (by simp; omega)
      rwa [List.getElem_cons_succ] at this) (by simp at h3; omega)
    cases hk : keyWords l with
    | none => exact absurd hk h0
    | some p =>
      have e : ∀ x, keyRun (l :: x) = p :: keyRun x := fun x => by
        show (match keyWords l with | some p => p :: keyRun x | none => []) = _
        rw [hk]
      rw [List.take_succ_cons, e, e, ih]
theorem keyRun_snoc {ls : List (List UInt8)} {i : Nat} (h : i < ls.length) {p : List UInt8 × List UInt8} (h1 : ∀ j, j < i → ∀ h : j < ls.length, keyWords ls[j] ≠ none) (hk : keyWords ls[i] = some p) : keyRun (ls.take (i + 1)) = keyRun (ls.take i) ++ [p] := by
  have e : ls.take (i + 1) = ls.take i ++ [ls[i]] := List.take_succ_eq_append_getElem h
  have hall : ∃ ps : List (List UInt8 × List UInt8), (ls.take i).map keyWords = ps.map some ∧ keyRun (ls.take i) = ps := by
    clear e hk
    induction i with
    | zero => exact ⟨[], by simp, by simp [keyRun]⟩
    | succ i ih =>
      obtain ⟨ps, q1, q2⟩ := ih (by omega) (fun j hj => h1 j (by omega))
      have h2 := h1 i (by omega) (by omega)
      cases hk : keyWords ls[i] with
      | none => exact absurd hk h2
      | some p =>
        refine ⟨ps ++ [p], ?_, ?_⟩
        · rw [List.take_succ_eq_append_getElem (by omega), List.map_append, List.map_append, q1, List.map_cons, hk]; rfl
        · rw [List.take_succ_eq_append_getElem (by omega), keyRun_app _ ps _ q1]
          show ps ++ (match keyWords ls[i] with | some p => p :: keyRun [] | none => []) = _
          rw [hk]; rfl
  obtain ⟨ps, q1, q2⟩ := hall
  rw [e, keyRun_app _ ps _ q1, q2]
  show ps ++ (match keyWords ls[i] with | some p => p :: keyRun [] | none => []) = _
  rw [hk]; rfl

open Go.ChangeShapes Go.WideShapes Go.ChangeAt Go.RowKit
set_option linter.unusedVariables false

/-- two lists of the call's own, from block B on, and the rows that they hold (A0, A1): nothing lies twice, and no block of F among them -/
structure Two (F : Nat → Prop) (B : Nat) (w : World) (v0 : Value) (t0 : List (List Int)) (v1 : Value) (t1 : List (List Int)) (A0 A1 : Nat → Prop) : Prop where
  o0 : OwnA true A0 IntsR 46 B w v0 t0
  o1 : OwnA true A1 IntsR 46 B w v1 t1
  d : ∀ k, A0 k → A1 k → False
  a0 : ∀ k, v1.ownBlock = some k → ¬ A0 k
  a1 : ∀ k, v0.ownBlock = some k → ¬ A1 k
  n : ∀ k, v0.ownBlock = some k → v1.ownBlock ≠ some k
  l0 : ∀ k, A0 k → B ≤ k ∧ k < w.heap.size
  l1 : ∀ k, A1 k → B ≤ k ∧ k < w.heap.size
  f : ∀ k, F k → (¬ A0 k ∧ ¬ A1 k) ∧ v0.ownBlock ≠ some k ∧ v1.ownBlock ≠ some k
variable {F : Nat → Prop} {B : Nat} {w w' : World} {v0 v1 : Value} {t0 t1 : List (List Int)} {A0 A1 : Nat → Prop}
theorem Two.ext (h : Two F B w v0 t0 v1 t1 A0 A1) (e : Ext w w') : Two F B w' v0 t0 v1 t1 A0 A1 :=
  ⟨OwnA.below stable_ints h.o0 e, OwnA.below stable_ints h.o1 e, h.d, h.a0, h.a1, h.n, fun k hk => ⟨(h.l0 k hk).1, Nat.lt_of_lt_of_le (h.l0 k hk).2 e.size⟩, fun k hk => ⟨(h.l1 k hk).1, Nat.lt_of_lt_of_le (h.l1 k hk).2 e.size⟩, h.f⟩
/-- a block of F, or one below B, is written -/
theorem Two.put (h : Two F B w v0 t0 v1 t1 A0 A1) {b : Nat} (hb : F b ∨ b < B) (i : Nat) (u : Value) : Two F B (w.setCell ⟨b, i, none⟩ u) v0 t0 v1 t1 A0 A1 := by
  have hg : w.grownBy (w.setCell ⟨b, i, none⟩ u) (some b) := ⟨rfl, rfl, rfl, by simp [World.setCell], fun k _ hk => Below.heap_setCell _ _ _ _ (fun e => hk (by rw [e]))⟩
  have hs : (w.setCell ⟨b, i, none⟩ u).heap.size = w.heap.size := by simp [World.setCell]
  have h0 : v0.ownBlock ≠ some b ∧ ¬ A0 b ∧ v1.ownBlock ≠ some b ∧ ¬ A1 b := by
    rcases hb with hb | hb
    · exact ⟨(h.f b hb).2.1, (h.f b hb).1.1, (h.f b hb).2.2, (h.f b hb).1.2⟩
    · refine ⟨fun e => ?_, fun e => ?_, fun e => ?_, fun e => ?_⟩
      · have := (h.o0.block b e).1; omega
      · have := (h.l0 b e).1; omega
      · have := (h.o1.block b e).1; omega
      · have := (h.l1 b e).1; omega
  refine ⟨h.o0.kept stable_ints hg (.inr h0.1) (fun g e => ?_), h.o1.kept stable_ints hg (.inr h0.2.2.1) (fun g e => ?_), h.d, h.a0, h.a1, h.n, fun k hk => ?_, fun k hk => ?_, h.f⟩
  · injection e with e; subst e; exact h0.2.1
  · injection e with e; subst e; exact h0.2.2.2
  · rw [hs]; exact h.l0 k hk
  · rw [hs]; exact h.l1 k hk
/-- a list has grown by a row that has just been made -/
theorem Two.grow0 (h : Two F B w v0 t0 v1 t1 A0 A1) {Y : Zone} {v : Value} {t : List (List Int)} (hy : ∀ k, Y.Has k → B ≤ k ∧ k < w.heap.size ∧ ¬ A1 k ∧ v1.ownBlock ≠ some k ∧ ¬ F k) (o : OwnA true (fun k => A0 k ∨ Y.Has k) IntsR 46 B w' v t) (hg : w.grownBy w' v0.ownBlock) (hat : ∀ k, v.ownBlock = some k → v0.ownBlock = some k ∨ w.heap.size ≤ k) (hF : ∀ k, F k → k < w.heap.size) : Two F B w' v t v1 t1 (fun k => A0 k ∨ Y.Has k) A1 := by
  have hs := hg.size
  have ho1 : OwnA true A1 IntsR 46 B w' v1 t1 := h.o1.kept stable_ints hg (by
    cases hv : v1.ownBlock with
    | none => exact .inl rfl
    | some k => exact .inr (fun e => h.n k e.symm hv)) (fun g e => h.a1 g e)
  refine ⟨o, ho1, fun k hk hk1 => ?_, fun k hk hk0 => ?_, fun k hk hk1 => ?_, fun k hk hk1 => ?_, fun k hk => ?_, fun k hk => ⟨(h.l1 k hk).1, Nat.lt_of_lt_of_le (h.l1 k hk).2 hs⟩, fun k hk => ⟨⟨fun q => ?_, (h.f k hk).1.2⟩, fun q => ?_, (h.f k hk).2.2⟩⟩
  · rcases hk with hk | hk
    · exact h.d k hk hk1
    · exact (hy k hk).2.2.1 hk1
  · rcases hk0 with hk0 | hk0
    · exact h.a0 k hk hk0
    · exact (hy k hk0).2.2.2.1 hk
  · rcases hat k hk with q | q
    · exact h.a1 k q hk1
    · have := (h.l1 k hk1).2; omega
  · rcases hat k hk with q | q
    · exact h.n k q hk1
    · have := (h.o1.block k hk1).2; omega
  · rcases hk with hk | hk
    · exact ⟨(h.l0 k hk).1, Nat.lt_of_lt_of_le (h.l0 k hk).2 hs⟩
    · exact ⟨(hy k hk).1, Nat.lt_of_lt_of_le (hy k hk).2.1 hs⟩
  · rcases q with q | q
    · exact (h.f k hk).1.1 q
    · exact (hy k q).2.2.2.2 hk
  · rcases hat k q with q | q
    · exact (h.f k hk).2.1 q
    · have := hF k hk; omega
theorem Two.swap (h : Two F B w v0 t0 v1 t1 A0 A1) : Two F B w v1 t1 v0 t0 A1 A0 :=
  ⟨h.o1, h.o0, fun k a b => h.d k b a, h.a1, h.a0, fun k a b => h.n k b a, h.l1, h.l0, fun k hk => ⟨⟨(h.f k hk).1.2, (h.f k hk).1.1⟩, (h.f k hk).2.2, (h.f k hk).2.1⟩⟩
theorem Two.rows0 (h : Two F B w v0 t0 v1 t1 A0 A1) : RowsR ⟨B, w.heap.size, true⟩ w v0 t0 := OwnA.reads h.o0 (fun k hk => (h.l0 k hk).1) (Nat.le_refl _)
theorem Two.rows1 (h : Two F B w v0 t0 v1 t1 A0 A1) : RowsR ⟨B, w.heap.size, true⟩ w v1 t1 := h.swap.rows0
/-- 'append(s, r)' -/
theorem run_two {P : Program} (h : Two F B w v0 t0 v1 t1 A0 A1) (t ty : TypeId) (ht : P.underlying t = some (.slice 46)) (hinfo : (P.info? 46).map (fun i => (i.zero, i.size, i.bytes)) = some (some (.slice Option.none 0 0), 1, 24))
    {u : Option Addr × Nat × Nat} {y : List Int} {Y : Zone} (hu : IntsR Y w (slV u) y) (hyo : Y.own = true) (hy : ∀ k, Y.Has k → B ≤ k ∧ k < w.heap.size ∧ ¬ A0 k ∧ ¬ A1 k ∧ v0.ownBlock ≠ some k ∧ v1.ownBlock ≠ some k ∧ ¬ F k) (hF : ∀ k, F k → k < w.heap.size) {g : Nat} (hg : w.heap.size = g) (hn : t0.length + 1 ≤ 1099511627776) (hB : B ≤ w.heap.size) :
    ∃ v' w', (Builtin.append_ #[t, t] ty #[v0, .slice (some ⟨g, 0, Option.none⟩) 1 1]).run P (w.alloc (.cells #[slV u] 46)) = .ok v' w' ∧ (Two F B w' v' (t0 ++ [y]) v1 t1 (fun k => A0 k ∨ Y.Has k) A1 ∧ Below B w w' ∧ w.grownBy w' v0.ownBlock ∧ ∀ k, v'.ownBlock = some k → v0.ownBlock = some k ∨ w.heap.size ≤ k) := by
  obtain ⟨v', w', hr, ho, hb, hgr, hat⟩ := run_appendOld (P := P) (A := fun k => A0 k ∨ Y.Has k) stable_ints t ty ht hinfo (fun k _ hk => .inl hk) h.o0 hu (fun _ => hyo) (fun k hk => ⟨.inr hk, (hy k hk).2.1, (hy k hk).2.2.2.2.1, fun _ => (hy k hk).2.2.1⟩) hg hn hB
  exact ⟨v', w', hr, h.grow0 (fun k hk => ⟨(hy k hk).1, (hy k hk).2.1, (hy k hk).2.2.2.1, (hy k hk).2.2.2.2.2.1, (hy k hk).2.2.2.2.2.2⟩) ho hgr hat hF, hb, hgr, hat⟩

open Go.ChangeShapes Go.WideShapes Go.ChangeAt Go.RowKit
set_option linter.unusedVariables false

theorem keyWords_yes {l : List UInt8} (h4 : (splitL 32 l).length = 4) (hk : (splitL 32 l).getD 0 [] = [107, 101, 121]) : keyWords l = some ((splitL 32 l).getD 2 [], (splitL 32 l).getD 3 []) := by
  unfold keyWords
  generalize splitL 32 l = ws at *
  match ws, h4 with
  | [a, b, c, d], _ =>
    simp only [List.getD_cons_zero] at hk
    simp [hk]
theorem keyWords_len {l : List UInt8} (h4 : (splitL 32 l).length ≠ 4) : keyWords l = none := by
  unfold keyWords
  generalize splitL 32 l = ws at *
  split
  · exact (h4 rfl).elim
  · rfl
theorem keyWords_head {l : List UInt8} (hk : (splitL 32 l).getD 0 [] ≠ [107, 101, 121]) : keyWords l = none := by
  unfold keyWords
  generalize splitL 32 l = ws at *
  split
  · simp only [List.getD_cons_zero] at hk
    rw [if_neg hk]
  · rfl
theorem splitL_pos (b : UInt8) (l : List UInt8) : 0 < (splitL b l).length := by unfold splitL; simp
/-- the rows and the keys of the first i lines -/
def rowsT (D : List (List UInt8)) (i : Nat) : List (List Int) := (keyRun (D.take i)).map fun p => digsBack p.2
def keysT (D : List (List UInt8)) (i : Nat) : List (List Int) := (keyRun (D.take i)).map fun p => digsBack p.1
def AllKeys (D : List (List UInt8)) (i : Nat) : Prop := ∀ j, j < i → ∀ h : j < D.length, keyWords D[j] ≠ none
theorem allKeys_zero (D : List (List UInt8)) : AllKeys D 0 := fun j hj => absurd hj (Nat.not_lt_zero _)
theorem allKeys_succ {D : List (List UInt8)} {i : Nat} (h : AllKeys D i) (hi : i < D.length) {p : List UInt8 × List UInt8} (hk : keyWords D[i] = some p) : AllKeys D (i + 1) ∧ rowsT D (i + 1) = rowsT D i ++ [digsBack p.2] ∧ keysT D (i + 1) = keysT D i ++ [digsBack p.1] := by
  refine ⟨fun j hj hl => ?_, ?_, ?_⟩
  · by_cases e : j = i
    · subst e; rw [hk]; exact fun h => by cases h
    · exact h j (by omega) hl
  · unfold rowsT; rw [keyRun_snoc hi h hk, List.map_append]; rfl
  · unfold keysT; rw [keyRun_snoc hi h hk, List.map_append]; rfl
theorem keysT_mem {D : List (List UInt8)} {i : Nat} (h : AllKeys D i) (hi : i < D.length) {p : List UInt8 × List UInt8} (hk : keyWords D[i] = some p) : p ∈ keyRun D := by
  have e : D = D.take i ++ D[i] :: D.drop (i + 1) := by
    rw [List.getElem_cons_drop]; exact (List.take_append_drop i D).symm
  have hall : ∀ n, n ≤ i → ∃ ps : List (List UInt8 × List UInt8), (D.take n).map keyWords = ps.map some := by
    intro n
    induction n with
    | zero => exact fun _ => ⟨[], by simp⟩
    | succ n ih =>
      intro hn
      obtain ⟨ps, q⟩ := ih (by omega)
      cases hq : keyWords (D[n]'(by omega)) with
      | none => exact absurd hq (h n (by omega) (by omega))
      | some p' => exact ⟨ps ++ [p'], by rw [List.take_succ_eq_append_getElem (by omega), List.map_append, List.map_append, q, List.map_cons, hq]; rfl⟩
  obtain ⟨ps, q⟩ := hall i (Nat.le_refl _)
  rw [e, keyRun_app _ ps _ q]
  refine List.mem_append.2 (.inr ?_)
  show p ∈ (match keyWords D[i] with | some p => p :: keyRun (D.drop (i + 1)) | none => [])
  rw [hk]
  exact List.mem_cons_self ..
theorem stop_at {s : ByteArray} {i : Nat} (h : AllKeys ((splitL 10 s.data.toList).drop 1) i) (hi : i ≤ ((splitL 10 s.data.toList).drop 1).length) (hn : ∀ hl : i < ((splitL 10 s.data.toList).drop 1).length, keyWords ((splitL 10 s.data.toList).drop 1)[i] = none) : rowsT ((splitL 10 s.data.toList).drop 1) i = rowsP s ∧ keysT ((splitL 10 s.data.toList).drop 1) i = keysP s := by
  unfold rowsT keysT rowsP keysP
  rw [keyRun_take _ i h hn hi]
  exact ⟨rfl, rfl⟩
theorem keyT_len (D : List (List UInt8)) : ∀ i, (rowsT D i).length ≤ i ∧ (keysT D i).length ≤ i := by
  have h : ∀ (ls : List (List UInt8)), (keyRun ls).length ≤ ls.length := by
    intro ls
    induction ls with
    | nil => simp [keyRun]
    | cons l r ih =>
      show (match keyWords l with | some p => p :: keyRun r | none => []).length ≤ _
      cases keyWords l with
      | none => simp
      | some p => simp; exact ih
  intro i
  have h1 := h (D.take i)
  rw [List.length_take] at h1
  unfold rowsT keysT
  rw [List.length_map, List.length_map]
  omega
/-- what reading a chart hands back -/
def ReadR (w : World) (x : SysRows) (r : Value) (w' : World) : Prop := ∃ u0 u1 A0 A1, r = .tuple #[sysV x.1.1 u0, u1, .int .i64 x.2.2] ∧ Two (fun _ => False) w.heap.size w' u0 x.1.2 u1 x.2.1 A0 A1
theorem Two.nil {F : Nat → Prop} {B : Nat} {w : World} : Two F B w (.slice none 0 0) [] (.slice none 0 0) [] (fun _ => False) (fun _ => False) :=
  ⟨OwnA.none, OwnA.none, fun _ h => h.elim, (fun _ _ h => h), (fun _ _ h => h), (fun _ h => by cases h), (fun _ h => h.elim), (fun _ h => h.elim), fun _ _ => ⟨⟨fun h => h, fun h => h⟩, (fun h => by cases h), fun h => by cases h⟩⟩
theorem ReadR.bad {w w' : World} {x : SysRows} {c : Int} (h : x = noRes c) : ReadR w x (.tuple #[sysV noSys (.slice none 0 0), .slice none 0 0, .int .i64 c]) w' := by
  subst h; exact ⟨_, _, _, _, rfl, Two.nil⟩
theorem ownA_low {b : Bool} {A : Nat → Prop} {B B' : Nat} {w : World} {v : Value} {xs : List (List Int)} (h : OwnA b A IntsR 46 B w v xs) (hB : B' ≤ B) : OwnA b A IntsR 46 B' w v xs := by
  obtain ⟨us, Z, hl, ho, r⟩ := h
  exact ⟨us, Z, hl, ho.lower hB, r⟩
theorem Two.low {F F' : Nat → Prop} {B B' : Nat} {w : World} {v0 v1 : Value} {t0 t1 : List (List Int)} {A0 A1 : Nat → Prop} (h : Two F B w v0 t0 v1 t1 A0 A1) (hB : B' ≤ B) (hF : ∀ k, F' k → F k) : Two F' B' w v0 t0 v1 t1 A0 A1 :=
  ⟨ownA_low h.o0 hB, ownA_low h.o1 hB, h.d, h.a0, h.a1, h.n, fun k hk => ⟨Nat.le_trans hB (h.l0 k hk).1, (h.l0 k hk).2⟩, fun k hk => ⟨Nat.le_trans hB (h.l1 k hk).1, (h.l1 k hk).2⟩, fun k hk => h.f k (hF k hk)⟩
theorem ext_putS {w w' : World} {B : Nat} (h : Ext w w') (hB : w.heap.size ≤ B) (u0 u1 u2 u3 u4 u5 : Value) : Ext w ((((((w'.setCell ⟨B, 0, none⟩ u0).setCell ⟨B, 1, none⟩ u1).setCell ⟨B, 2, none⟩ u2).setCell ⟨B, 3, none⟩ u3).setCell ⟨B, 4, none⟩ u4).setCell ⟨B, 5, none⟩ u5) :=
  Below.setCell (Below.setCell (Below.setCell (Below.setCell (Below.setCell (Below.setCell h (p := ⟨B, 0, none⟩) hB _) (p := ⟨B, 1, none⟩) hB _) (p := ⟨B, 2, none⟩) hB _) (p := ⟨B, 3, none⟩) hB _) (p := ⟨B, 4, none⟩) hB _) (p := ⟨B, 5, none⟩) hB _
/-- a system's box that may be written -/
def BoxS (b : Nat) (mk : MK) (v : Value) (w : World) : Prop := SysAt w b mk v ∧ ∀ i, w.frozen? ⟨b, i, none⟩ = false
theorem BoxS.new (w : World) (mk : MK) (v : Value) (t : TypeId) : BoxS w.heap.size mk v (w.alloc (.cells #[.int .i64 mk.c, .int .i64 mk.d, .int .i64 mk.s, .int .i64 mk.m, .int .i64 mk.l, v] t)) :=
  ⟨(sys_box rfl).2, fun i => frozen_of_row _ _ _ _ t (heap_alloc_new w _)⟩
theorem BoxS.of {b : Nat} {mk : MK} {v : Value} {w w' : World} (h : BoxS b mk v w) (hb : w'.heap[b]? = w.heap[b]?) : BoxS b mk v w' := ⟨h.1.of hb, fun i => (World.frozen?_of_block hb).trans (h.2 i)⟩
theorem BoxS.lt {b : Nat} {mk : MK} {v : Value} {w : World} (h : BoxS b mk v w) : b < w.heap.size := World.block_lt_of_cell? _ _ h.1.c0
theorem BoxS.ext {b : Nat} {mk : MK} {v : Value} {w w' : World} (h : BoxS b mk v w) (e : Ext w w') : BoxS b mk v w' := h.of (Below.block e b h.lt)
theorem BoxS.put5 {b : Nat} {mk : MK} {v : Value} {w : World} (h : BoxS b mk v w) (u : Value) : BoxS b mk u (w.setCell ⟨b, 5, none⟩ u) := by
  obtain ⟨⟨c0, c1, c2, c3, c4, c5⟩, f⟩ := h
  refine ⟨⟨?_, ?_, ?_, ?_, ?_, ?_⟩, fun i => ?_⟩
  all_goals (try simp only [World.frozen?_setCell])
  all_goals first | exact f i | (go_simp; done)
/-- where the two lists begin -/
theorem two_start {w : World} {mk : MK} {t : TypeId} : Two (fun k => k = w.heap.size + 1) w.heap.size ((w.alloc (.cells #[] 46)).alloc (.cells #[.int .i64 mk.c, .int .i64 mk.d, .int .i64 mk.s, .int .i64 mk.m, .int .i64 mk.l, .slice none 0 0] t)) (.slice none 0 0) [] (.slice (some ⟨w.heap.size, 0, none⟩) 0 0) [] (fun _ => False) (fun _ => False) ∧
    BoxS (w.heap.size + 1) mk (.slice none 0 0) ((w.alloc (.cells #[] 46)).alloc (.cells #[.int .i64 mk.c, .int .i64 mk.d, .int .i64 mk.s, .int .i64 mk.m, .int .i64 mk.l, .slice none 0 0] t)) ∧
    Ext w ((w.alloc (.cells #[] 46)).alloc (.cells #[.int .i64 mk.c, .int .i64 mk.d, .int .i64 mk.s, .int .i64 mk.m, .int .i64 mk.l, .slice none 0 0] t)) := by
  have hs : (w.alloc (.cells #[] 46)).heap.size = w.heap.size + 1 := by simp
  refine ⟨⟨OwnA.none, OwnA.below stable_ints (OwnA.empty (Nat.le_refl _)) (Ext.alloc _ _), fun _ h => h.elim, (fun _ _ h => h), (fun _ _ h => h), (fun _ h => by cases h), (fun _ h => h.elim), (fun _ h => h.elim), fun k hk => ⟨⟨fun h => h, fun h => h⟩, (fun h => by cases h), fun h => ?_⟩⟩, ?_, (Ext.alloc _ _).trans (Ext.alloc _ _)⟩
  · injection h with h
    simp only at h
    omega
  · have := BoxS.new (w.alloc (.cells #[] 46)) mk (.slice none 0 0) t
    rw [hs] at this
    exact this
theorem ownP_caps {α : Type} {f : α → Value} {e : TypeId} {B : Nat} {w : World} {v : Value} {xs : List α} (h : OwnP f e B w v xs) : ∃ a n k, v = .slice a n k ∧ n = xs.length ∧ n ≤ 9223372036854775807 ∧ n ≤ k := by
  have h1 := OwnP.reads (E := fun _ _ u x => u = f x) h (fun _ x _ => rfl) (Nat.le_refl _) (Nat.le_refl _)
  obtain ⟨a, n, k, rfl, h2, h3, h4, -⟩ := SliceR.shape h1
  exact ⟨a, n, k, rfl, h2, h3, h4⟩
end Go.Proofs.YtkeikjedbfomnaaGreatDoor
