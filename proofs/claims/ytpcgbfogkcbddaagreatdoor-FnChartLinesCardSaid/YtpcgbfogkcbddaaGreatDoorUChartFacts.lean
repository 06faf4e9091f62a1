/- Proved: the lines of a chart are counted, and equal texts differ nowhere (plain). -/
import Derived.Test.YtpcgbfogkcbddaaGreatDoorUChartBody
import Derived.Test.YtpcgbfogkcbddaaGreatDoorUPkT2
namespace Go.Proofs.YtpcgbfogkcbddaaGreatDoor
open Go.ChangeShapes Go.WideShapes Go.ChangeAt Go.RowKit
set_option linter.unusedVariables false

def NoNl (l : List UInt8) : Prop := ∀ b ∈ l, b ≠ 10
theorem noNl_app {a b : List UInt8} (ha : NoNl a) (hb : NoNl b) : NoNl (a ++ b) := fun x hx => (List.mem_append.1 hx).elim (ha x) (hb x)
theorem noNl_nil : NoNl [] := fun x hx => by simp at hx
theorem noNl_join {sep : List UInt8} (hs : NoNl sep) : ∀ {xs : List (List UInt8)}, (∀ x ∈ xs, NoNl x) → NoNl (Lib.join xs sep)
  | [], _ => noNl_nil
  | x :: r, h => by
    have hr : ∀ (l : List (List UInt8)), (∀ y ∈ l, NoNl y) → NoNl (Lib.joinTail sep l) := by
      intro l
      induction l with
      | nil => intro _; exact noNl_nil
      | cons y l ih =>
        intro hl
        have e : Lib.joinTail sep (y :: l) = (sep ++ y) ++ Lib.joinTail sep l := by unfold Lib.joinTail; simp
        rw [e]
        exact noNl_app (noNl_app hs (hl y (by simp))) (ih (fun z hz => hl z (List.mem_cons_of_mem _ hz)))
    rw [Lib.join_cons]
    exact noNl_app (h x (by simp)) (hr r (fun y hy => h y (List.mem_cons_of_mem _ hy)))
theorem noNl_dec (n : Nat) : NoNl (Lib.decDigits n) := by
  have h1 : ∀ k, k < 10 → UInt8.ofNat (48 + k) ≠ 10 := by
    intro k hk e
    have := congrArg UInt8.toNat e
    rw [UInt8.toNat_ofNat', Nat.mod_eq_of_lt (by omega)] at this
    have h10 : (10 : UInt8).toNat = 10 := rfl
    omega
  induction n using Nat.strongRecOn with
  | _ n ih =>
    by_cases h : n < 10
    · rw [dec_one h]
      intro x hx
      rw [List.mem_singleton.1 hx]
      exact h1 n h
    · rw [dec_more h]
      refine noNl_app (ih (n / 10) (by omega)) (fun x hx => ?_)
      rw [List.mem_singleton.1 hx]
      exact h1 (n % 10) (Nat.mod_lt _ (by decide))
theorem noNl_joinI (xs : List Int) {sep : List UInt8} (hs : NoNl sep) : NoNl (joinI xs sep) := noNl_join hs (fun x hx => by
  obtain ⟨y, -, rfl⟩ := List.mem_map.1 hx
  exact noNl_dec _)
theorem noNl_digs {xs : List Int} (h : ∀ x ∈ xs, 0 ≤ x ∧ x < 10) : NoNl (digsD xs) := by
  rw [← joinI_digs h]
  exact noNl_joinI xs noNl_nil
theorem noNl_pins (ps : List (List Int)) : NoNl (pinsD ps) := noNl_join (by intro b hb; rw [List.mem_singleton.1 hb]; decide) (fun x hx => by
  obtain ⟨st, -, rfl⟩ := List.mem_map.1 hx
  exact noNl_joinI st (by intro b hb; rw [List.mem_singleton.1 hb]; decide))
theorem data_app (a b : ByteArray) : (a ++ b).data.toList = a.data.toList ++ b.data.toList := by rw [ByteArray.data_append]; simp
theorem noNl_keyLine {mk : MK} {t cuts : List (List Int)} (ok : DesignOk mk t cuts) {k : Nat} (hk : k < cuts.length) : NoNl (keyLineV t cuts k).data.toList := by
  have hkt : k < t.length := by rw [← ok.eq]; exact hk
  unfold keyLineV
  simp only [data_app, data_strOf]
  refine noNl_app (noNl_app (noNl_app (noNl_app (noNl_app ?_ (noNl_dec _)) ?_) (noNl_digs (cutDigs ok hk).2)) ?_) (noNl_digs (rowDigs ok hkt).2)
  · show NoNl [107, 101, 121, 32]
    unfold NoNl; decide
  · show NoNl [32]
    unfold NoNl; decide
  · show NoNl [32]
    unfold NoNl; decide
theorem noNl_doorLine (d : Nat) (ps : List (List Int)) : NoNl (doorLineV d ps).data.toList := by
  unfold doorLineV
  simp only [data_app, data_strOf]
  refine noNl_app (noNl_app (noNl_app ?_ (noNl_dec _)) ?_) (noNl_pins ps)
  · show NoNl [100, 111, 111, 114, 32]
    unfold NoNl; decide
  · show NoNl [32]
    unfold NoNl; decide
theorem noNl_maker (mk : MK) : NoNl (makerV mk).data.toList := by
  unfold makerV
  simp only [data_app, data_strOf]
  refine noNl_app ?_ (noNl_joinI _ ?_)
  · show NoNl [109, 97, 107, 101, 114, 32]
    unfold NoNl; decide
  · unfold NoNl; decide
theorem noNl_count {l : List UInt8} (h : NoNl l) : l.count 10 = 0 := List.count_eq_zero.2 (fun hm => h 10 hm rfl)
theorem chartD_count : ∀ (ls : List ByteArray), (∀ l ∈ ls, NoNl l.data.toList) → (chartD ls).count 10 = ls.length
  | [], _ => rfl
  | x :: r, h => by
    have e : chartD (x :: r) = (x.data.toList ++ [10]) ++ chartD r := by unfold chartD; simp
    rw [e, List.count_append, List.count_append, noNl_count (h x (by simp)), chartD_count r (fun y hy => h y (List.mem_cons_of_mem _ hy)), List.length_cons]
    simp
    omega
theorem chartD_last : ∀ (ls : List ByteArray), (linesTo 10 (chartD ls)).2 = [] := by
  intro ls
  rw [linesTo_last]
  rcases List.eq_nil_or_concat ls with rfl | ⟨r, x, rfl⟩
  · exact .inl rfl
  · refine .inr ⟨chartD r ++ x.data.toList, ?_⟩
    unfold chartD
    simp
/-- a chart has a line for the maker, each row and each door -/
theorem chart_lines {mk : MK} {t cuts : List (List Int)} (h : designCode mk t cuts = 0) (h2 : (chartV mk t cuts).size ≤ 240) : countL (chartV mk t cuts).data.toList = (((1 + cuts.length + doorsOf t : Nat) : Int), 0) := by
  have ok := designCode_zero h
  have hd : (chartV mk t cuts).data.toList = chartD (chartLs mk t cuts) := data_strOf _
  have hl : (chartV mk t cuts).data.toList.length = (chartV mk t cuts).size := len_str _
  rw [countL_ok (by omega) (by rw [hd]; exact chartD_last _), hd, chartD_count _ (fun l hl => ?_)]
  · unfold chartLs
    rw [lines_len]
  · unfold chartLs at hl
    rcases List.mem_append.1 hl with hl | hl
    · rcases List.mem_cons.1 hl with rfl | hl
      · exact noNl_maker mk
      · unfold keyLines at hl
        obtain ⟨i, hi, rfl⟩ := List.mem_map.1 hl
        exact noNl_keyLine ok (List.mem_range.1 hi)
    · unfold doorLines at hl
      obtain ⟨i, hi, rfl⟩ := List.mem_map.1 hl
      exact noNl_doorLine _ _
theorem cp_comm : ∀ (A B : List (List UInt8)), cp A B = cp B A
  | [], [] => rfl
  | [], _ :: _ => rfl
  | _ :: _, [] => rfl
  | a :: A, b :: B => by
    rw [cp_cons, cp_cons]
    by_cases h : a = b
    · rw [if_pos h, if_pos h.symm, cp_comm A B]
    · rw [if_neg h, if_neg (fun e => h e.symm)]
/-- equal texts differ nowhere, and the first line that differs is the same both ways -/
theorem same_back {la lb : List UInt8} (h : (sameC la lb).2 = 0) : sameC lb la = sameC la lb ∧ ((sameC la lb).1 = 0 ↔ la = lb) := by
  have h0 : codeL la = 0 ∧ codeL lb = 0 := by
    by_cases h3 : codeL la = 3 ∨ codeL lb = 3
    · rw [sameC_lim h3] at h; cases h
    · by_cases h4 : codeL la ≠ 0 ∨ codeL lb ≠ 0
      · rw [sameC_syn h4 h3] at h; cases h
      · refine ⟨?_, ?_⟩
        · by_cases e : codeL la = 0
          · exact e
          · exact absurd (.inl e) h4
        · by_cases e : codeL lb = 0
          · exact e
          · exact absurd (.inr e) h4
  by_cases he : lns la = lns lb
  · rw [sameC_eq h0.1 h0.2 he, sameC_eq h0.2 h0.1 he.symm]
    exact ⟨rfl, ⟨fun _ => lns_inj h0.1 h0.2 he, fun _ => rfl⟩⟩
  · rw [sameC_ne h0.1 h0.2 he, sameC_ne h0.2 h0.1 (fun e => he e.symm), cp_comm]
    refine ⟨rfl, ⟨fun h => ?_, fun e => absurd (by rw [e]) he⟩⟩
    have h5 : ((cp (lns la) (lns lb) : Nat) : Int) + 1 = 0 := h
    omega
end Go.Proofs.YtpcgbfogkcbddaaGreatDoor
