/- Proved: allWithin and IsTable: program and reference compute the same, for every list of lists. -/
import Derived.Test.YtgagjibjnaappaaChecked
import Derived.Test.YtgagjibjnaappaaUWithin
import Derived.Test.YtgagjibjnaappaaURising
namespace Go.Proofs.Ytgagjibjnaappaa
open Go.ChangeShapes Go.WideShapes Go.ChangeAt Go.RowKit
set_option linter.unusedVariables false

def allB (xs : List Int) (lo hi : Int) : Bool := xs.all fun x => inB x lo hi
theorem allB_bad {xs : List Int} {lo hi : Int} (k : Nat) (h : k < xs.length) (hx : inB (xs.getD k 0) lo hi = false) : allB xs lo hi = false := by
  unfold allB; rw [List.all_eq_false]; exact ⟨xs[k], List.getElem_mem h, by simpa [h] using hx⟩
theorem allB_good {xs : List Int} {lo hi : Int} (h : ∀ k, k < xs.length → inB (xs.getD k 0) lo hi = true) : allB xs lo hi = true := by
  unfold allB; rw [List.all_eq_true]; intro y hy
  obtain ⟨i, hi, rfl⟩ := List.getElem_of_mem hy
  have := h i hi
  simpa [hi] using this

set_option maxHeartbeats 400000 in
theorem allWithin_c (w : World) (v : Value) (z : Zone) (xs : List Int) (lo hi : Int) (h : IntsR z w v xs) :
    Calls Try.prog 53 #[v, .int .i64 lo, .int .i64 hi] w (RetQ w (.bool (allB xs lo hi))) := by
  obtain ⟨a, len, cap, rfl, hlen, hmax, -, -, -, hel⟩ := IntsR.shape h
  have Hlen := Lib.hid hlen; clear hlen h
  have Hel := Lib.hid hel; clear hel
  go_enter Try.func53, Try.ntmps53
  go_wp2
  go_loopw [11] (fun t wr => ∃ i : Nat, i ≤ len ∧ t = .int .i64 i ∧ (∀ j, j < i → inB (xs.getD j 0) lo hi = true) ∧ Drew w wr) (fun t _ => len - (intOf t).toNat)
  case atStart => exact ⟨0, Nat.zero_le _, rfl, by simp, Drew.refl _⟩
  case round =>
    obtain ⟨i, hil, rfl, hall, hd⟩ := hrel
    have Hall := Lib.hid hall; clear hall
    by_cases hlt : i < len
    · obtain ⟨b, off, rfl, hc, hx, -⟩ := Hel.out i hlt
      replace hc := (hd.cell _).trans hc
      have Hgo : Hid (inB (xs.getD i 0) lo hi = true → ∀ j, j < i + 1 → inB (xs.getD j 0) lo hi = true) := fun h j hj => by
        by_cases e : j = i
        · rw [e]; exact h
        · exact Hall.out j (by omega)
      have Hno : Hid (inB (xs.getD i 0) lo hi = false → allB xs lo hi = false) := fun h => allB_bad i (by have := Hlen.out; omega) h
      generalize xs.getD i 0 = x at *
      have hcall := within_c wr x lo hi
      generalize inB x lo hi = q at *
      go_wp2_with fail
      refine Calls.mono hcall ?_
      rintro e w2 ⟨rfl, hd2⟩
      clear hcall
      cases q with
      | true =>
        go_wp2
        go_roundw
        case rel => exact ⟨i + 1, by omega, by go_num, Hgo.out (by simp), hd.trans hd2⟩
        case measure => simp [intOf]; omega
      | false =>
        go_wp2
        go_ret
        exact ⟨ret_bool' (Hno.out (by simp)), hd.trans hd2⟩
    · go_wp2
      go_ret
      exact ⟨ret_bool' (allB_good (fun j hj => Hall.out j (by have := Hlen.out; omega))), hd⟩

def tabRow (m : Nat) (r : List Int) : Bool := decide (r.length = m) && (decide (1 ≤ r.length ∧ r.length ≤ 12) && allB r 0 1)
def isTable (t : List (List Int)) : Bool := t.all (tabRow (t.getD 0 []).length) && decide (1 ≤ t.length ∧ t.length ≤ 10)
theorem isTable_bad {t : List (List Int)} (k : Nat) (hk : k < t.length) (h : tabRow (t.getD 0 []).length t[k] = false) : isTable t = false := by
  have : t.all (tabRow (t.getD 0 []).length) = false := by rw [List.all_eq_false]; exact ⟨_, List.getElem_mem hk, by rw [h]; simp⟩
  unfold isTable; rw [this]; rfl
theorem isTable_good {t : List (List Int)} (h : ∀ k (hk : k < t.length), tabRow (t.getD 0 []).length t[k] = true) : isTable t = decide (1 ≤ t.length ∧ t.length ≤ 10) := by
  have : t.all (tabRow (t.getD 0 []).length) = true := by
    rw [List.all_eq_true]; intro y hy
    obtain ⟨i, hi, rfl⟩ := List.getElem_of_mem hy
    exact h i hi
  unfold isTable; rw [this]; rfl
theorem tabRow_len {m : Nat} {r : List Int} (h : r.length ≠ m) : tabRow m r = false := by unfold tabRow; rw [decide_eq_false h]; rfl
theorem tabRow_many {m : Nat} {r : List Int} (h : ¬ (1 ≤ r.length ∧ r.length ≤ 12)) : tabRow m r = false := by unfold tabRow; rw [decide_eq_false h]; simp
theorem tabRow_in {m : Nat} {r : List Int} (h : r.length = m) (h' : 1 ≤ r.length ∧ r.length ≤ 12) : tabRow m r = allB r 0 1 := by unfold tabRow; rw [decide_eq_true h, decide_eq_true h']; rfl

set_option maxRecDepth 20000 in
set_option maxHeartbeats 1000000 in
theorem IsTable_c (w : World) (v : Value) (z : Zone) (t : List (List Int)) (h : RowsR z w v t) :
    Calls Try.prog 111 #[v] w (RetQ w (.bool (isTable t))) := by
  obtain ⟨a, len, cap, rfl, hlen, hmax, hel⟩ := SliceR.elem stable_ints h
  have Hlen := Lib.hid hlen; clear hlen h
  have Hel := Lib.hid hel; clear hel
  go_enter Try.func111, Try.ntmps111
  go_wp2
  go_loopw [7] (fun s wr => ∃ k : Nat, k ≤ len ∧ s = .int .i64 k ∧ (∀ j (hj : j < t.length), j < k → tabRow (t.getD 0 []).length t[j] = true) ∧ Drew w wr) (fun s _ => len - (intOf s).toNat)
  case atStart => exact ⟨0, Nat.zero_le _, rfl, by simp, Drew.refl _⟩
  case round =>
    obtain ⟨k, hk, rfl, hall, hd⟩ := hrel
    have Hall := Lib.hid hall; clear hall
    by_cases hlt : k < len
    · have l1 : k < t.length := by rw [← Hlen.out]; exact hlt
      have l0 : 0 < t.length := by omega
      obtain ⟨b, off, rfl, -, u, hcu, hu⟩ := Hel.out k l1
      obtain ⟨_, _, he, -, u0, hcu0, hu0⟩ := Hel.out 0 l0
      injection he with he; injection he with he1 he2 _
      subst he1; subst he2
      replace hcu := (hd.cell _).trans hcu
      replace hcu0 := (hd.cell _).trans hcu0
      rw [Nat.add_zero] at hcu0
      have Hgo : Hid (tabRow (t.getD 0 []).length t[k] = true → ∀ j (hj : j < t.length), j < k + 1 → tabRow (t.getD 0 []).length t[j] = true) := fun h j hj hjk => by
        by_cases e : j = k
        · subst e; exact h
        · exact Hall.out j hj (by omega)
      have Hbad : Hid (tabRow (t.getD 0 []).length t[k] = false → isTable t = false) := fun h => isTable_bad k l1 h
      have h0 : t[0] = t.getD 0 [] := by simp [l0]
      rw [h0] at hu0
      clear h0
      generalize t.getD 0 [] = r0 at *
      generalize t[k] = r at *
      have hu' := stable_ints.drew hu hd
      have hcall := allWithin_c wr u _ r 0 1 hu'
      obtain ⟨ad, n, c, rfl, hn, -⟩ := SliceR.shape hu'
      obtain ⟨ad0, n0, c0, rfl, hn0, -⟩ := SliceR.shape hu0
      clear hu hu' hu0
      by_cases g1 : n = n0
      · by_cases g2 : 1 ≤ n ∧ n ≤ 12
        · have HP := Lib.hid (tabRow_in (m := r0.length) (r := r) (by omega) (by omega))
          obtain ⟨g3, g4⟩ := g2
          subst g1
          clear hn hn0
          generalize allB r 0 1 = q at *
          go_wp2_with fail
          refine Calls.mono hcall ?_
          rintro e w2 ⟨rfl, hd2⟩
          clear hcall
          cases q with
          | true =>
            go_wp2_with fail
            go_roundw
            case rel => exact ⟨k + 1, by omega, by go_num, Hgo.out HP.out, hd.trans hd2⟩
            case measure => simp [intOf]; omega
          | false =>
            go_wp2_with fail
            go_ret
            exact ⟨ret_bool' (Hbad.out HP.out), hd.trans hd2⟩
        · have HH := Lib.hid (Hbad.out (tabRow_many (by omega)))
          subst g1
          clear hn hn0 hcall Hgo Hbad
          by_cases g3 : 1 ≤ n
          · have g4 : ¬ n ≤ 12 := fun h => g2 ⟨g3, h⟩
            clear g2
            go_wp2_with fail
            go_ret
            exact ⟨ret_bool' HH.out, hd⟩
          · clear g2
            go_wp2_with fail
            go_ret
            exact ⟨ret_bool' HH.out, hd⟩
      · have HH := Lib.hid (Hbad.out (tabRow_len (by omega)))
        have hb1 : ((n : Int) != (n0 : Int)) = true := by rw [bne_iff_ne]; omega
        clear hn hn0 hcall Hgo Hbad g1
        go_wp2_with fail
        go_ret
        exact ⟨ret_bool' HH.out, hd⟩
    · have HG := Lib.hid (isTable_good (fun j hj => Hall.out j hj (by have := Hlen.out; omega)))
      have Hl : Hid (t.length = len) := Hlen.out.symm
      clear Hall
      by_cases g1 : 1 ≤ len
      · have HE : Hid (isTable t = decide ((len : Int) ≤ 10)) := by show _ = _; rw [HG.out, Hl.out]; exact decide_eq_decide.2 ⟨fun h => by omega, fun h => by omega⟩
        go_wp2_with fail
        go_ret
        exact ⟨ret_bool' HE.out, hd⟩
      · have HE : Hid (isTable t = false) := by show _ = _; rw [HG.out, Hl.out]; exact decide_eq_false (by omega)
        go_wp2_with fail
        go_ret
        exact ⟨ret_bool' HE.out, hd⟩

/-! ### the reference's -/
set_option maxRecDepth 20000 in
set_option maxHeartbeats 2000000 in
theorem IsTableSpec_c (w : World) (v : Value) (z : Zone) (t : List (List Int)) (h : RowsR z w v t) :
    Calls Try.prog 109 #[v] w (RetQ w (.bool (isTable t))) := by
  obtain ⟨a, len, cap, rfl, hlen, hmax, hel⟩ := SliceR.elem stable_ints h
  have Hlen := Lib.hid hlen; clear hlen h
  have Hel := Lib.hid hel; clear hel
  have hcall0 := l01In_c w len 1 10
  by_cases hin : 1 ≤ len ∧ len ≤ 10
  · have HI : inB len 1 10 = true := by simp only [inB, Bool.and_eq_true, decide_eq_true_eq]; omega
    rw [HI] at hcall0
    have HL : Hid (decide (1 ≤ t.length ∧ t.length ≤ 10) = true) := by show _ = _; rw [← Hlen.out]; exact decide_eq_true hin
    clear HI
    obtain ⟨hi1, hi2⟩ := hin
    go_enter Try.func109, Try.ntmps109
    go_wp2_with fail
    refine Calls.mono hcall0 ?_
    rintro e w1 ⟨rfl, hd1⟩
    clear hcall0
    go_wp2_with fail
    go_loopw [3, 4] (fun s _ wr => ∃ k : Nat, k ≤ len ∧ s = .int .i64 k ∧ (∀ j (hj : j < t.length), j < k → tabRow (t.getD 0 []).length t[j] = true) ∧ Drew w wr) (fun s _ _ => len - (intOf s).toNat)
    case atStart => exact ⟨0, Nat.zero_le _, rfl, by simp, hd1⟩
    case round =>
      obtain ⟨k, hk, rfl, hall, hd⟩ := hrel
      have Hall := Lib.hid hall; clear hall
      by_cases hlt : k < len
      · have l1 : k < t.length := by rw [← Hlen.out]; exact hlt
        have l0 : 0 < t.length := by omega
        obtain ⟨b, off, rfl, -, u, hcu, hu⟩ := Hel.out k l1
        obtain ⟨_, _, he, -, u0, hcu0, hu0⟩ := Hel.out 0 l0
        injection he with he; injection he with he1 he2 _
        subst he1; subst he2
        replace hcu := (hd.cell _).trans hcu
        replace hcu0 := (hd.cell _).trans hcu0
        rw [Nat.add_zero] at hcu0
        have Hgo : Hid (tabRow (t.getD 0 []).length t[k] = true → ∀ j (hj : j < t.length), j < k + 1 → tabRow (t.getD 0 []).length t[j] = true) := fun h j hj hjk => by
          by_cases e : j = k
          · subst e; exact h
          · exact Hall.out j hj (by omega)
        have Hbad : Hid (tabRow (t.getD 0 []).length t[k] = false → isTable t = false) := fun h => isTable_bad k l1 h
        have h0 : t[0] = t.getD 0 [] := by simp [l0]
        rw [h0] at hu0
        clear h0
        generalize t.getD 0 [] = r0 at *
        generalize t[k] = r at *
        have hu' := stable_ints.drew hu hd
        obtain ⟨ad, n, c, rfl, hn, hnm, -, -, -, hsel⟩ := IntsR.shape hu'
        obtain ⟨ad0, n0, c0, rfl, hn0, -⟩ := SliceR.shape hu0
        clear hu hu' hu0
        by_cases g1 : n = n0
        · by_cases g2 : 1 ≤ n ∧ n ≤ 12
          · have HP := Lib.hid (tabRow_in (m := r0.length) (r := r) (by omega) (by omega))
            have HI : Hid (inB n 1 12 = true) := by show _ = _; simp only [inB, Bool.and_eq_true, decide_eq_true_eq]; omega
            obtain ⟨g3, g4⟩ := g2
            subst g1
            have Hn := Lib.hid hn
            have Hsel := Lib.hid hsel
            clear hn hn0 hsel
            go_wp2_with fail
            go_quiet ((go_at_call 83; exact RetQ.quiet (Calls.vq (l01In_c _ _ _ _) (congrArg Value.bool HI.out))))
            have hdq := hd.drewN nq
            obtain ⟨wq, hwq⟩ : ∃ wq, wq = wr.drewN nq := ⟨_, rfl⟩
            rw [← hwq] at hdq ⊢
            replace hcu := ((Drew.refl wr).drewN nq).cell _ |>.trans hcu
            rw [← hwq] at hcu
            have hd0 := hd
            clear hwq hd hcu0
            go_wp2_with fail
            go_loopw [4] (fun s wi => ∃ i : Nat, i ≤ n ∧ s = .int .i64 i ∧ (∀ j, j < i → inB (r.getD j 0) 0 1 = true) ∧ Drew wq wi) (fun s _ => n - (intOf s).toNat)
            case atStart => exact ⟨0, Nat.zero_le _, rfl, by simp, Drew.refl _⟩
            case round =>
              obtain ⟨i, hi, rfl, halli, hdi⟩ := hrel
              have Halli := Lib.hid halli; clear halli
              have hdt := hdq.trans hdi
              replace hcu := (hdi.cell _).trans hcu
              by_cases hlti : i < n
              · obtain ⟨b2, o2, rfl, hx, -, -⟩ := Hsel.out i hlti
                replace hx := ((hdi.cell _).trans ((hdq.cell _).trans ((hd0.cell _).symm.trans hx)))
                have Hgoi : Hid (inB (r.getD i 0) 0 1 = true → ∀ j, j < i + 1 → inB (r.getD j 0) 0 1 = true) := fun h j hj => by
                  by_cases e : j = i
                  · rw [e]; exact h
                  · exact Halli.out j (by omega)
                have Hno : Hid (inB (r.getD i 0) 0 1 = false → isTable t = false) := fun h => Hbad.out (by rw [HP.out]; exact allB_bad i (by have := Hn.out; omega) h)
                generalize r.getD i 0 = x at *
                have hcall : ∀ wq, Calls Try.prog 83 #[.int .i64 x, .int .i64 0, .int .i64 1] wq (RetQ wq (.bool (inB x 0 1))) := fun wq => l01In_c wq x 0 1
                generalize inB x 0 1 = q at *
                have HC := Lib.hid hcall; clear hcall
                cases q with
                | true =>
                  go_wp2_with fail
                  refine Calls.mono (HC.out _) ?_
                  rintro e w2 ⟨rfl, hd2⟩
                  go_wp2_with fail
                  go_roundw
                  case rel => exact ⟨i + 1, by omega, by go_num, Hgoi.out (by simp), hdi.trans hd2⟩
                  case measure => simp [intOf]; omega
                | false =>
                  go_wp2_with fail
                  refine Calls.mono (HC.out _) ?_
                  rintro e w2 ⟨rfl, hd2⟩
                  go_wp2_with fail
                  go_ret
                  exact ⟨ret_bool' (Hno.out (by simp)), hdt.trans hd2⟩
              · have HG := Lib.hid (Hgo.out (by rw [HP.out]; exact allB_good (fun j hj => Halli.out j (by have := Hn.out; omega))))
                go_wp2_with fail
                go_roundw
                case rel => exact ⟨k + 1, by omega, by go_num, HG.out, hdt⟩
                case measure => simp [intOf]; omega
          · have HH := Lib.hid (Hbad.out (tabRow_many (by omega)))
            have HI : Hid (inB n 1 12 = false) := by show _ = _; simp only [inB, Bool.and_eq_false_iff, decide_eq_false_iff_not]; omega
            subst g1
            clear hn hn0 hsel g2 Hgo Hbad
            go_wp2_with fail
            go_quiet ((go_at_call 83; exact RetQ.quiet (Calls.vq (l01In_c _ _ _ _) (congrArg Value.bool HI.out))))
            go_wp2_with fail
            go_ret
            exact ⟨ret_bool' HH.out, hd.drewN _⟩
        · have HH := Lib.hid (Hbad.out (tabRow_len (by omega)))
          have hb1 : ((n : Int) != (n0 : Int)) = true := by rw [bne_iff_ne]; omega
          clear hn hn0 hsel g1 Hgo Hbad
          go_wp2_with fail
          go_quiet (fail)
          go_wp2_with fail
          go_ret
          exact ⟨ret_bool' HH.out, hd.drewN _⟩
      · have HG : Hid (isTable t = true) := by
          show _ = _
          rw [isTable_good (fun j hj => Hall.out j hj (by have := Hlen.out; omega))]; exact HL.out
        go_wp2_with fail
        go_ret
        exact ⟨ret_bool' HG.out, hd⟩
  · have HI : inB len 1 10 = false := by simp only [inB, Bool.and_eq_false_iff, decide_eq_false_iff_not]; omega
    rw [HI] at hcall0
    have HE : Hid (isTable t = false) := by
      show _ = _
      have h2 : decide (1 ≤ t.length ∧ t.length ≤ 10) = false := by rw [← Hlen.out]; exact decide_eq_false hin
      unfold isTable; rw [h2]; simp
    clear HI
    go_enter Try.func109, Try.ntmps109
    go_wp2_with fail
    refine Calls.mono hcall0 ?_
    rintro e w1 ⟨rfl, hd1⟩
    go_wp2_with fail
    go_ret
    exact ⟨ret_bool' HE.out, hd1⟩
end Go.Proofs.Ytgagjibjnaappaa
