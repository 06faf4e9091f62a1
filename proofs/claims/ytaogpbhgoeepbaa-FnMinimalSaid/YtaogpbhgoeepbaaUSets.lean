/- Proved: AreSets, the codes for sets and whether a list hits sets: program and reference compute the same, for every list of lists. -/
import Derived.Test.YtaogpbhgoeepbaaChecked
import Derived.Test.YtaogpbhgoeepbaaUHas
import Derived.Test.YtaogpbhgoeepbaaURising
namespace Go.Proofs.Ytaogpbhgoeepbaa
open Go.ChangeShapes Go.WideShapes Go.ChangeAt Go.RowKit
set_option linter.unusedVariables false

def badSet (n : Int) (s : List Int) : Bool := s.isEmpty || !rising s n
def areSets (n : Int) (xss : List (List Int)) : Bool := decide (1 ≤ n ∧ n ≤ 12) && decide (xss.length ≤ 60) && !xss.any (badSet n)
theorem badSet_nil {n : Int} {s : List Int} (h : s.length = 0) : badSet n s = true := by
  have : s = [] := List.eq_nil_of_length_eq_zero h
  subst this; rfl
theorem badSet_pos {n : Int} {s : List Int} (h : s.length ≠ 0) : badSet n s = !rising s n := by
  cases s with
  | nil => simp at h
  | cons a l => simp [badSet]

theorem Try.goesAreSets1 : Goes Try.prog 83 := goes_of Try.func83 (by kernel_rfl) (by kernel_rfl)

set_option maxHeartbeats 400000 in
theorem AreSets1_c (w : World) (v : Value) (z : Zone) (s : List Int) (n : Int) (hn : I64 n) (a : Addr) (hc : w.cell? a = some (.int .i64 n)) (h : IntsR z w v s) :
    Calls Try.prog 83 #[v, .pointer (some a)] w (RetQ w (.bool (badSet n s))) := by
  have hcall := IsRising_c w v z s n h hn
  obtain ⟨ad, len, cap, rfl, hlen, hmax, -⟩ := IntsR.shape h
  by_cases h0 : len = 0
  · subst h0
    have HH := Lib.hid (badSet_nil (n := n) hlen.symm)
    clear hcall h hlen
    go_enter Try.func83, Try.ntmps83
    go_wp2_with fail
    go_ret
    exact ⟨ret_bool' HH.out, Drew.refl _⟩
  · have HH := Lib.hid (badSet_pos (n := n) (s := s) (by omega))
    have hb : ((len : Int) == 0) = false := by rw [beq_eq_false_iff_ne]; omega
    generalize rising s n = q at *
    clear h hlen
    go_enter Try.func83, Try.ntmps83
    go_wp2_with fail
    refine Calls.mono hcall ?_
    rintro e w2 ⟨rfl, hd⟩
    clear hcall
    go_wp2_with fail
    go_ret
    exact ⟨ret_bool' HH.out, hd⟩

set_option maxHeartbeats 400000 in
theorem AreSets_c (w : World) (v : Value) (z : Zone) (xss : List (List Int)) (n : Int) (hn : I64 n) (h : RowsR z w v xss) :
    Calls Try.prog 35 #[.int .i64 n, v] w (Ret w fun r _ => r = .bool (areSets n xss)) := by
  have hcall : Calls Try.prog 82 #[v, .func (.func 83) #[] #[.pointer (some ⟨w.heap.size, 0, none⟩)]] (w.alloc (.cells #[.int .i64 n] 2)) _ :=
    ContainsFuncRows_c (w.alloc (.cells #[.int .i64 n] 2)) v z xss (stable_rows.below h ((Below.refl _ _).alloc (Nat.le_refl _) _)) _ Try.goesAreSets1 #[.pointer (some ⟨w.heap.size, 0, none⟩)] (badSet n) (fun i hi w1 u hb hu =>
      (AreSets1_c w1 u _ _ n hn ⟨w.heap.size, 0, none⟩ (by rw [hb.cell (by simp)]; simp) hu).mono (fun _ _ hq => hq.ret))
  obtain ⟨a, len, cap, rfl, hlen, hmax, -⟩ := SliceR.shape h
  unfold I64 at hn
  obtain ⟨n1, n2⟩ := hn
  by_cases h1 : 1 ≤ n ∧ n ≤ 12
  · obtain ⟨g1, g2⟩ := h1
    by_cases h2 : len ≤ 60
    · have HH : Hid (areSets n xss = !xss.any (badSet n)) := by
        show _ = _; unfold areSets
        rw [decide_eq_true ⟨g1, g2⟩, decide_eq_true (by omega)]; rfl
      generalize xss.any (badSet n) = q at *
      clear h hlen
      go_enter Try.func35, Try.ntmps35
      go_wp2_with (first | (go_at_call 82; refine Calls.mono hcall ?_; rintro e w2 ⟨r, rfl, rfl, hb⟩) | go_in)
      go_ret
      exact ⟨_, rfl, congrArg Value.bool HH.out.symm, ((Below.refl _ _).alloc (Nat.le_refl _) _).trans (hb.mono (by simp))⟩
    · have HH : Hid (areSets n xss = false) := by
        show _ = _; unfold areSets
        rw [decide_eq_false (p := xss.length ≤ 60) (by omega)]; simp
      clear h hlen hcall
      go_enter Try.func35, Try.ntmps35
      go_wp2
      go_ret
      exact ⟨_, rfl, congrArg Value.bool HH.out.symm, ((Below.refl _ _).alloc (Nat.le_refl _) _)⟩
  · have HH : Hid (areSets n xss = false) := by
      show _ = _; unfold areSets
      rw [decide_eq_false h1]; simp
    clear h hlen hcall
    by_cases g1 : 1 ≤ n
    · have g2 : ¬ n ≤ 12 := fun h => h1 ⟨g1, h⟩
      clear h1
      go_enter Try.func35, Try.ntmps35
      go_wp2
      go_ret
      exact ⟨_, rfl, congrArg Value.bool HH.out.symm, ((Below.refl _ _).alloc (Nat.le_refl _) _)⟩
    · clear h1
      go_enter Try.func35, Try.ntmps35
      go_wp2
      go_ret
      exact ⟨_, rfl, congrArg Value.bool HH.out.symm, ((Below.refl _ _).alloc (Nat.le_refl _) _)⟩

/-! ### the reference's -/
theorem areSets_bad {n : Int} {xss : List (List Int)} (k : Nat) (hk : k < xss.length) (h : badSet n xss[k] = true) : areSets n xss = false := by
  have : xss.any (badSet n) = true := by rw [List.any_eq_true]; exact ⟨_, List.getElem_mem hk, h⟩
  unfold areSets; rw [this]; simp
theorem areSets_good {n : Int} {xss : List (List Int)} (h : ∀ k (hk : k < xss.length), badSet n xss[k] = false) : areSets n xss = (decide (1 ≤ n ∧ n ≤ 12) && decide (xss.length ≤ 60)) := by
  have : xss.any (badSet n) = false := by
    rw [List.any_eq_false]; intro y hy
    obtain ⟨i, hi, rfl⟩ := List.getElem_of_mem hy
    simp [h i hi]
  unfold areSets; rw [this]; simp

set_option maxHeartbeats 400000 in
theorem AreSetsSpec_c (w : World) (v : Value) (z : Zone) (xss : List (List Int)) (n : Int) (hn : I64 n) (h : RowsR z w v xss) :
    Calls Try.prog 60 #[.int .i64 n, v] w (RetQ w (.bool (areSets n xss))) := by
  obtain ⟨a, len, cap, rfl, hlen, hmax, hel⟩ := SliceR.elem stable_ints h
  have Hlen := Lib.hid hlen; clear hlen h
  have Hel := Lib.hid hel; clear hel
  have Hn := Lib.hid hn
  unfold I64 at hn
  obtain ⟨n1, n2⟩ := hn
  go_enter Try.func60, Try.ntmps60
  go_wp2
  go_loopw [5] (fun t wr => ∃ k : Nat, k ≤ len ∧ t = .int .i64 k ∧ (∀ j (hj : j < xss.length), j < k → badSet n xss[j] = false) ∧ Drew w wr) (fun t _ => len - (intOf t).toNat)
  case atStart => exact ⟨0, Nat.zero_le _, rfl, by simp, Drew.refl _⟩
  case round =>
    obtain ⟨k, hk, rfl, hall, hd⟩ := hrel
    have Hall := Lib.hid hall; clear hall
    by_cases hlt : k < len
    · have l1 : k < xss.length := by rw [← Hlen.out]; exact hlt
      obtain ⟨b, off, rfl, -, u, hc, hu⟩ := Hel.out k l1
      replace hc := (hd.cell _).trans hc
      have Hgo : Hid (badSet n xss[k] = false → ∀ j (hj : j < xss.length), j < k + 1 → badSet n xss[j] = false) := fun h j hj hjk => by
        by_cases e : j = k
        · subst e; exact h
        · exact Hall.out j hj (by omega)
      have Hbad : Hid (badSet n xss[k] = true → areSets n xss = false) := fun h => areSets_bad k l1 h
      generalize xss[k] = s at *
      have hcall := l01Rises_c wr u _ s n (stable_ints.drew hu hd) Hn.out
      obtain ⟨ad, ls, cs, rfl, hls, hsm, -⟩ := IntsR.shape hu
      clear hu
      by_cases h0 : ls = 0
      · subst h0
        have HH := Lib.hid (Hbad.out (badSet_nil hls.symm))
        clear hcall hls Hgo Hbad
        go_wp2
        go_ret
        exact ⟨ret_bool' HH.out, hd⟩
      · have hb0 : ((ls : Int) == 0) = false := by rw [beq_eq_false_iff_ne]; omega
        have HP := Lib.hid (badSet_pos (n := n) (s := s) (by omega))
        clear hls
        cases hq : rising s n with
        | true =>
          rw [hq] at hcall
          have HH := Lib.hid (Hgo.out (by rw [HP.out, hq]; rfl))
          clear hq HP Hgo Hbad
          go_wp2_with fail
          refine Calls.mono hcall ?_
          rintro e w2 ⟨rfl, hd2⟩
          clear hcall
          go_wp2_with fail
          go_roundw
          case rel => exact ⟨k + 1, by omega, by go_num, HH.out, hd.trans hd2⟩
          case measure => simp [intOf]; omega
        | false =>
          rw [hq] at hcall
          have HH := Lib.hid (Hbad.out (by rw [HP.out, hq]; rfl))
          clear hq HP Hgo Hbad
          go_wp2_with fail
          refine Calls.mono hcall ?_
          rintro e w2 ⟨rfl, hd2⟩
          clear hcall
          go_wp2_with fail
          go_ret
          exact ⟨ret_bool' HH.out, hd.trans hd2⟩
    · have HG := Lib.hid (areSets_good (fun j hj => Hall.out j hj (by have := Hlen.out; omega)))
      have Hl : Hid (xss.length = len) := Hlen.out.symm
      clear Hall
      by_cases h1 : 1 ≤ n ∧ n ≤ 12
      · obtain ⟨g1, g2⟩ := h1
        go_wp2
        go_ret
        refine ⟨ret_bool' ?_, hd⟩
        rw [HG.out, decide_eq_true ⟨g1, g2⟩, Hl.out]
        simp; omega
      · have HE : Hid (areSets n xss = false) := by show _ = _; rw [HG.out, decide_eq_false h1]; rfl
        by_cases g1 : 1 ≤ n
        · have g2 : ¬ n ≤ 12 := fun h => h1 ⟨g1, h⟩
          clear h1
          go_wp2
          go_ret
          exact ⟨ret_bool' HE.out, hd⟩
        · clear h1
          go_wp2
          go_ret
          exact ⟨ret_bool' HE.out, hd⟩

/-! ### hitting -/
def hitsB (xss : List (List Int)) (l : List Int) : Bool := xss.all fun s => common s l
theorem hitsB_any (xss : List (List Int)) (l : List Int) : (!xss.any fun s => !common s l) = hitsB xss l := by unfold hitsB; rw [List.not_any_eq_all_not]; simp

theorem Try.goesHits1 : Goes Try.prog 111 := goes_of Try.func111 (by kernel_rfl) (by kernel_rfl)

theorem hits1_c (w : World) (u v : Value) (y z : Zone) (s l : List Int) (a : Addr) (hc : w.cell? a = some v) (h : IntsR y w u s) (h' : IntsR z w v l) :
    Calls Try.prog 111 #[u, .pointer (some a)] w (Ret w fun r _ => r = .bool (!common s l)) := by
  have hcall := meets_c w u v y z s l h h'
  generalize common s l = q at *
  go_enter Try.func111, Try.ntmps111
  go_wp2_with fail
  refine Calls.mono hcall ?_
  rintro e w2 ⟨r, rfl, rfl, hb⟩
  clear hcall
  go_wp2_with fail
  go_ret
  exact ⟨_, rfl, rfl, hb⟩

theorem hits_c (w : World) (u v : Value) (y z : Zone) (xss : List (List Int)) (l : List Int) (h : RowsR y w u xss) (h' : IntsR z w v l) :
    Calls Try.prog 66 #[u, v] w (Ret w fun r _ => r = .bool (hitsB xss l)) := by
  obtain ⟨a, n, cap, rfl, -⟩ := IntsR.shape h'
  have hcall : Calls Try.prog 82 #[u, .func (.func 111) #[] #[.pointer (some ⟨w.heap.size, 0, none⟩)]] (w.alloc (.cells #[.slice a n cap] 25)) _ :=
    ContainsFuncRows_c (w.alloc (.cells #[.slice a n cap] 25)) u y xss (stable_rows.below h ((Below.refl _ _).alloc (Nat.le_refl _) _)) _ Try.goesHits1 #[.pointer (some ⟨w.heap.size, 0, none⟩)] (fun s => !common s l) (fun i hi w1 u hb hu => by
      refine hits1_c w1 u (.slice a n cap) _ z _ l ⟨w.heap.size, 0, none⟩ ?_ hu (stable_ints.below (stable_ints.below h' ((Below.refl _ _).alloc (Nat.le_refl _) _)) hb)
      rw [hb.cell (by simp)]; simp)
  have H := Lib.hid (hitsB_any xss l)
  generalize (xss.any fun s => !common s l) = q at *
  go_enter Try.func66, Try.ntmps66
  go_wp2_with fail
  refine Calls.mono hcall ?_
  rintro e w2 ⟨r, rfl, rfl, hb⟩
  clear hcall
  go_wp2_with fail
  go_ret
  exact ⟨_, rfl, congrArg Value.bool H.out, ((Below.refl _ _).alloc (Nat.le_refl _) _).trans (hb.mono (by simp))⟩

theorem hitsB_bad {xss : List (List Int)} {l : List Int} (k : Nat) (hk : k < xss.length) (h : common xss[k] l = false) : hitsB xss l = false := by
  unfold hitsB; rw [List.all_eq_false]; exact ⟨_, List.getElem_mem hk, by simp [h]⟩
theorem hitsB_good {xss : List (List Int)} {l : List Int} (h : ∀ k (hk : k < xss.length), common xss[k] l = true) : hitsB xss l = true := by
  unfold hitsB; rw [List.all_eq_true]; intro y hy
  obtain ⟨i, hi, rfl⟩ := List.getElem_of_mem hy
  exact h i hi

set_option maxHeartbeats 400000 in
theorem l26Hits_c (w : World) (u v : Value) (y z : Zone) (xss : List (List Int)) (l : List Int) (h : RowsR y w u xss) (h' : IntsR z w v l) :
    Calls Try.prog 61 #[u, v] w (RetQ w (.bool (hitsB xss l))) := by
  obtain ⟨a, len, cap, rfl, hlen, hmax, hel⟩ := SliceR.elem stable_ints h
  have Hlen := Lib.hid hlen; clear hlen h
  have Hel := Lib.hid hel; clear hel
  go_enter Try.func61, Try.ntmps61
  go_wp2
  go_loopw [5] (fun t wr => ∃ k : Nat, k ≤ len ∧ t = .int .i64 k ∧ (∀ j (hj : j < xss.length), j < k → common xss[j] l = true) ∧ Drew w wr) (fun t _ => len - (intOf t).toNat)
  case atStart => exact ⟨0, Nat.zero_le _, rfl, by simp, Drew.refl _⟩
  case round =>
    obtain ⟨k, hk, rfl, hall, hd⟩ := hrel
    have Hall := Lib.hid hall; clear hall
    by_cases hlt : k < len
    · have l1 : k < xss.length := by rw [← Hlen.out]; exact hlt
      obtain ⟨b, off, rfl, -, u, hc, hu⟩ := Hel.out k l1
      replace hc := (hd.cell _).trans hc
      have Hgo : Hid (common xss[k] l = true → ∀ j (hj : j < xss.length), j < k + 1 → common xss[j] l = true) := fun h j hj hjk => by
        by_cases e : j = k
        · subst e; exact h
        · exact Hall.out j hj (by omega)
      have Hbad : Hid (common xss[k] l = false → hitsB xss l = false) := fun h => hitsB_bad k l1 h
      generalize xss[k] = s at *
      have hcall := Common_c wr u v _ z s l (stable_ints.drew hu hd) (stable_ints.drew h' hd)
      generalize common s l = q at *
      go_wp2_with fail
      refine Calls.mono hcall ?_
      rintro e w2 ⟨rfl, hd2⟩
      clear hcall
      cases q with
      | true =>
        go_wp2_with fail
        go_roundw
        case rel => exact ⟨k + 1, by omega, by go_num, Hgo.out (by simp), hd.trans hd2⟩
        case measure => simp [intOf]; omega
      | false =>
        go_wp2_with fail
        go_ret
        exact ⟨ret_bool' (Hbad.out (by simp)), hd.trans hd2⟩
    · go_wp2
      go_ret
      exact ⟨ret_bool' (hitsB_good (fun j hj => Hall.out j hj (by have := Hlen.out; omega))), hd⟩

/-! ### the codes -/
def setsCode (n : Int) (xss : List (List Int)) (l : List Int) : Int := if areSets n xss = true then (if rising l n = true then 0 else 2) else 1

theorem setsCode_c (w : World) (u v : Value) (y z : Zone) (xss : List (List Int)) (l : List Int) (n : Int) (hn : I64 n) (h : RowsR y w u xss) (h' : IntsR z w v l) :
    Calls Try.prog 65 #[.int .i64 n, u, v] w (Ret w fun r _ => r = .int .i64 (setsCode n xss l)) := by
  have hcall := AreSets_c w u y xss n hn h
  have hcall2 : ∀ w2, Below w.heap.size w w2 → _ := fun w2 hb => IsRising_c w2 v z l n (stable_ints.below h' hb) hn
  have H : Hid (setsCode n xss l = if areSets n xss = true then (if rising l n = true then 0 else 2) else 1) := rfl
  generalize areSets n xss = p at *
  generalize rising l n = q at *
  have H2 := Lib.hid hcall2
  clear hcall2
  go_enter Try.func65, Try.ntmps65
  go_wp2_with fail
  refine Calls.mono hcall ?_
  rintro e w2 ⟨r, rfl, rfl, hb⟩
  clear hcall
  cases p with
  | false =>
    go_wp2_with fail
    go_ret
    exact ⟨_, rfl, congrArg (Value.int .i64) (by rw [H.out]; rfl), hb⟩
  | true =>
    go_wp2_with fail
    refine Calls.mono (H2.out _ hb) ?_
    rintro e w3 ⟨rfl, hd⟩
    cases q with
    | false =>
      go_wp2_with fail
      go_ret
      exact ⟨_, rfl, congrArg (Value.int .i64) (by rw [H.out]; rfl), hb.trans (hd.below _)⟩
    | true =>
      go_wp2_with fail
      go_ret
      exact ⟨_, rfl, congrArg (Value.int .i64) (by rw [H.out]; rfl), hb.trans (hd.below _)⟩

theorem l26Code_c (w : World) (u v : Value) (y z : Zone) (xss : List (List Int)) (l : List Int) (n : Int) (hn : I64 n) (h : RowsR y w u xss) (h' : IntsR z w v l) :
    Calls Try.prog 87 #[.int .i64 n, u, v] w (RetQ w (.int .i64 (setsCode n xss l))) := by
  have hcall := AreSetsSpec_c w u y xss n hn h
  have hcall2 : ∀ w2, Drew w w2 → _ := fun w2 hd => l01Rises_c w2 v z l n (stable_ints.drew h' hd) hn
  have H : Hid (setsCode n xss l = if areSets n xss = true then (if rising l n = true then 0 else 2) else 1) := rfl
  generalize areSets n xss = p at *
  generalize rising l n = q at *
  have H2 := Lib.hid hcall2
  clear hcall2
  go_enter Try.func87, Try.ntmps87
  go_wp2_with fail
  refine Calls.mono hcall ?_
  rintro e w2 ⟨rfl, hb⟩
  clear hcall
  cases p with
  | false =>
    go_wp2_with fail
    go_ret
    exact ⟨ret_int (by rw [H.out]; rfl), hb⟩
  | true =>
    go_wp2_with fail
    refine Calls.mono (H2.out _ hb) ?_
    rintro e w3 ⟨rfl, hd⟩
    cases q with
    | false =>
      go_wp2_with fail
      go_ret
      exact ⟨ret_int (by rw [H.out]; rfl), hb.trans hd⟩
    | true =>
      go_wp2_with fail
      go_ret
      exact ⟨ret_int (by rw [H.out]; rfl), hb.trans hd⟩
end Go.Proofs.Ytaogpbhgoeepbaa
