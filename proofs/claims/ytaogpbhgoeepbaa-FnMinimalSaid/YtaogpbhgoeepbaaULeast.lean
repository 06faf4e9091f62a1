/- Proved: LeastHitting: program and reference compute the same, for all arguments. -/
import Derived.Test.YtaogpbhgoeepbaaChecked
import Derived.Test.YtaogpbhgoeepbaaULeastSpec
namespace Go.Proofs.Ytaogpbhgoeepbaa
open Go.ChangeShapes Go.WideShapes Go.ChangeAt Go.RowKit
set_option linter.unusedVariables false

theorem leastL_eq (p : List Int → Bool) (n : Nat) : leastL p n = ((allChoices n).find? p).getD [] := by unfold leastL; rw [least_eq]
theorem allChoices_none {p : List Int → Bool} {n : Nat} (h : ∀ j, j < n + 1 → (choices j n).find? p = none) : leastL p n = [] := by
  rw [leastL_eq, List.find?_eq_none.2]
  · rfl
  · intro x hx
    unfold allChoices at hx
    obtain ⟨j, hj, hx⟩ := List.mem_flatMap.1 hx
    exact List.find?_eq_none.1 (h j (List.mem_range.1 hj)) x hx
theorem allChoices_at {p : List Int → Bool} {n k : Nat} {x : List Int} (hk : k < n + 1) (h : ∀ j, j < k → (choices j n).find? p = none) (hx : (choices k n).find? p = some x) : leastL p n = x := by
  rw [leastL_eq]
  have e : (allChoices n).find? p = some x := by
    unfold allChoices
    have : List.range (n + 1) = List.range k ++ k :: (List.range (n - k)).map (k + 1 + ·) := by
      have h1 : n + 1 = k + ((n - k) + 1) := by omega
      rw [h1, List.range_add, List.range_succ_eq_map, List.map_cons, List.map_map]
      congr 2
      exact List.map_congr_left (fun i _ => by simp only [Function.comp]; omega)
    rw [this, List.flatMap_append, List.flatMap_cons, List.find?_append, List.find?_append, hx, List.find?_eq_none.2]
    · rfl
    · intro y hy
      obtain ⟨j, hj, hy⟩ := List.mem_flatMap.1 hy
      exact List.find?_eq_none.1 (h j (List.mem_range.1 hj)) y hy
  rw [e]; rfl
theorem find_at {p : List Int → Bool} {l : List (List Int)} {i : Nat} (hi : i < l.length) (h : ∀ j (hj : j < l.length), j < i → p l[j] = false) (hp : p l[i] = true) : l.find? p = some l[i] := by
  rw [List.find?_eq_some_iff_getElem]
  exact ⟨hp, i, hi, rfl, fun j hj => by rw [h j (by omega) hj]; rfl⟩
theorem find_no {p : List Int → Bool} {l : List (List Int)} (h : ∀ j (hj : j < l.length), p l[j] = false) : l.find? p = none := by
  rw [List.find?_eq_none]
  intro x hx
  obtain ⟨j, hj, rfl⟩ := List.getElem_of_mem hx
  rw [h j hj]; simp

set_option maxRecDepth 20000 in
set_option maxHeartbeats 1000000 in
theorem l26Least_c (w : World) (v : Value) (z : Zone) (xss : List (List Int)) (n : Nat) (h12 : n ≤ 12) (h : RowsR z w v xss) :
    Calls Try.prog 55 #[.int .i64 n, v] w (Ret w fun r w' => IntsR (.new w w') w' r (leastL (hitsB xss) n)) := by
  have hHit := fun (wq : World) (hb : Ext w wq) (u : Value) (q : Zone) (l : List Int) (hl : IntsR q wq u l) => l26Hits_c wq v u z q xss l (stable_rows.ext h hb) hl
  generalize hitsB xss = p at *
  have HHit := Lib.hid hHit; clear hHit
  have HAt := Lib.hid (fun (k : Nat) (x : List Int) => allChoices_at (p := p) (n := n) (k := k) (x := x))
  have HNo := Lib.hid (allChoices_none (p := p) (n := n))
  generalize leastL p n = res at *
  obtain ⟨av, nv, cv, rfl, -⟩ := SliceR.shape h
  clear h
  go_enter Try.func55, Try.ntmps55
  go_wp2_with fail
  go_loopw [5] (fun t wr => ∃ k : Nat, k ≤ n + 1 ∧ t = .int .i64 k ∧ (∀ j, j < k → (choices j n).find? p = none) ∧ Ext w wr) (fun t _ => n + 1 - (intOf t).toNat)
  case atStart => exact ⟨0, Nat.zero_le _, rfl, by simp, Ext.refl _⟩
  case round =>
    obtain ⟨k, hk, rfl, hall, hb⟩ := hrel
    have Hall := Lib.hid hall; clear hall
    by_cases hlt : k < n + 1
    · have hcall := l11Choices_c k n wr (by omega) (by omega)
      have HA := Lib.hid (fun x => HAt.out k x hlt Hall.out)
      have HN : Hid ((choices k n).find? p = none → ∀ j, j < k + 1 → (choices j n).find? p = none) := fun h j hj => by
        by_cases e : j = k
        · rw [e]; exact h
        · exact Hall.out j (by omega)
      generalize choices k n = l at *
      clear Hall HAt HNo
      go_wp2_with fail
      refine Calls.mono hcall ?_
      rintro e w1 hr1
      obtain ⟨u1, rfl, r1, b1⟩ := ret_ext hr1
      clear hr1 hcall
      have hb1 := hb.trans b1
      obtain ⟨a1, n1, c1, rfl, hn1, hm1, -, -, -, hel⟩ := SliceR.shape r1
      have Hn1 := Lib.hid hn1
      have Hel := Lib.hid hel
      clear hn1 hel r1 b1
      generalize wr = wo at *
      go_wp2_with fail
      go_loopw [7] (fun t wi => ∃ i : Nat, i ≤ n1 ∧ t = .int .i64 i ∧ (∀ j (hj : j < l.length), j < i → p l[j] = false) ∧ Drew w1 wi) (fun t _ => n1 - (intOf t).toNat)
      case atStart => exact ⟨0, Nat.zero_le _, rfl, by simp, Drew.refl _⟩
      case round =>
        obtain ⟨i, hi, rfl, hno, hd⟩ := hrel
        have Hno := Lib.hid hno; clear hno
        have hbi := hb1.trans (Ext.ofDrew hd)
        by_cases hlti : i < n1
        · have l1 : i < l.length := by rw [← Hn1.out]; exact hlti
          obtain ⟨b, off, rfl, -, -, -, u, y, hcu, hys, -, hu⟩ := Hel.out i l1
          replace hcu := (hd.cell _).trans hcu
          have hu1 : IntsR (.new wo w1) w1 u l[i] := stable_ints.sub hu hys
          have hu2 := stable_ints.drew hu1 hd
          have hcall := HHit.out wr hbi u _ l[i] hu2
          have HY : Hid (p l[i] = true → res = l[i]) := fun hp => HA.out _ (find_at l1 Hno.out hp)
          have HW : Hid (p l[i] = false → ∀ j (hj : j < l.length), j < i + 1 → p l[j] = false) := fun hp j hj hji => by
            by_cases e : j = i
            · subst e; exact hp
            · exact Hno.out j hj (by omega)
          clear hu Hno
          generalize l[i] = x at *
          obtain ⟨au, nu, cu, rfl, -⟩ := SliceR.shape hu2
          cases hq : p x with
          | true =>
            have HH := Lib.hid (HY.out hq)
            rw [hq] at hcall
            clear HY HW hq
            go_wp2_with fail
            refine Calls.mono hcall ?_
            rintro e w5 ⟨rfl, hd5⟩
            have hcu5 := (hd5.cell _).trans hcu
            go_wp2_with fail
            go_ret
            have hwo : Ext w wo := hb
            exact ⟨_, rfl, by rw [HH.out]; exact stable_ints.grow hu1 hwo (Ext.ofDrew (hd.trans hd5)), hbi.trans (Ext.ofDrew hd5)⟩
          | false =>
            have HH := Lib.hid (HW.out hq)
            rw [hq] at hcall
            clear HY HW hq
            go_wp2_with fail
            refine Calls.mono hcall ?_
            rintro e w5 ⟨rfl, hd5⟩
            have hcu5 := (hd5.cell _).trans hcu
            go_wp2_with fail
            go_roundw
            case rel => exact ⟨i + 1, by omega, by go_num, HH.out, hd.trans hd5⟩
            case measure => simp [intOf]; omega
        · have hin : i = n1 := by omega
          have HH := Lib.hid (HN.out (find_no (fun j hj => Hno.out j hj (by rw [hin, Hn1.out]; exact hj))))
          obtain rfl := hin
          clear Hno HN HA
          go_wp2_with fail
          go_roundw
          case rel => exact ⟨k + 1, by omega, by go_num, HH.out, hbi⟩
          case measure => simp [intOf]; omega
    · obtain rfl : k = n + 1 := by omega
      have HH := Lib.hid (HNo.out Hall.out)
      clear HNo HAt Hall
      go_wp2_with fail
      go_ret
      exact ⟨_, rfl, by rw [HH.out]; exact SliceR.nil _ _ _, hb⟩

/-! ### the two functions -/
def leastHit (n : Int) (xss : List (List Int)) : List Int × Int := if areSets n xss = true then (leastL (hitsB xss) n.toNat, 0) else ([], 1)
theorem leastHit_ok {n : Int} {xss : List (List Int)} (h : areSets n xss = true) : leastHit n xss = (leastL (hitsB xss) n.toNat, 0) := by unfold leastHit; rw [if_pos h]
theorem leastHit_no {n : Int} {xss : List (List Int)} (h : areSets n xss = false) : leastHit n xss = ([], 1) := by unfold leastHit; rw [if_neg (by simp [h])]
theorem leastL_length (p : List Int → Bool) (n : Nat) : (leastL p n).length ≤ n := by
  unfold leastL
  have := bestOf_is p (allSets n)
  cases h : bestOf p (allSets n) with
  | none => simp
  | some b =>
    rw [h] at this
    exact rises_length (mem_allSets.1 this.1)
theorem leastHit_length (n : Int) (xss : List (List Int)) : ((leastHit n xss).1.length : Int) ≤ 1048576 := by
  unfold leastHit
  split
  · next h =>
    have := leastL_length (hitsB xss) n.toNat
    have := (areSets_mem h).2.1
    simp only; omega
  · simp

set_option maxHeartbeats 400000 in
theorem LeastHitting_c (w : World) (v : Value) (z : Zone) (xss : List (List Int)) (n : Int) (hn : I64 n) (h : RowsR z w v xss) :
    Calls Try.prog 30 #[.int .i64 n, v] w (Ret w fun r w' => IntsCode w (leastHit n xss) r w') := by
  have hcall := setsCode_c w v (.slice none 0 0) z z xss [] n hn h (SliceR.nil _ _ _)
  rw [setsCode_nil] at hcall
  cases hA : areSets n xss with
  | false =>
    have HH := Lib.hid (leastHit_no hA)
    rw [hA] at hcall
    clear hA
    go_enter Try.func30, Try.ntmps30
    go_wp2_with fail
    refine Calls.mono hcall ?_
    rintro e w1 hr1
    obtain ⟨u1, rfl, rfl, b1⟩ := ret_ext hr1
    go_wp2_with fail
    go_ret2
    exact ⟨_, rfl, IntsCode_nil HH.out, b1⟩
  | true =>
    have HH := Lib.hid (leastHit_ok hA)
    obtain ⟨h1, h12, -⟩ := areSets_mem hA
    obtain ⟨m, rfl⟩ : ∃ m : Nat, n = m := ⟨n.toNat, by omega⟩
    rw [hA] at hcall
    rw [Int.toNat_natCast] at HH
    clear hA
    have HL := Lib.hid (fun (wq : World) (hb : Ext w wq) => leastHitting_c wq v z xss m (by omega) (stable_rows.ext h hb))
    generalize leastL (hitsB xss) m = l at *
    go_enter Try.func30, Try.ntmps30
    go_wp2_with fail
    refine Calls.mono hcall ?_
    rintro e w1 hr1
    obtain ⟨u1, rfl, rfl, b1⟩ := ret_ext hr1
    go_wp2_with fail
    refine Calls.mono (HL.out _ b1) ?_
    rintro e w2 hr2
    obtain ⟨u2, rfl, r2, b2⟩ := ret_ext hr2
    go_wp2_with fail
    go_ret2
    exact ⟨_, rfl, IntsCode_mk HH.out (stable_ints.grow r2 b1 (Ext.refl _)), b1.trans b2⟩

set_option maxHeartbeats 400000 in
theorem LeastHittingSpec_c (w : World) (v : Value) (z : Zone) (xss : List (List Int)) (n : Int) (hn : I64 n) (h : RowsR z w v xss) :
    Calls Try.prog 31 #[.int .i64 n, v] w (Ret w fun r w' => IntsCode w (leastHit n xss) r w') := by
  have hcall := AreSetsSpec_c w v z xss n hn h
  cases hA : areSets n xss with
  | false =>
    have HH := Lib.hid (leastHit_no hA)
    rw [hA] at hcall
    clear hA
    go_enter Try.func31, Try.ntmps31
    go_wp2_with fail
    refine Calls.mono hcall ?_
    rintro e w1 ⟨rfl, d1⟩
    go_wp2_with fail
    go_ret2
    exact ⟨_, rfl, IntsCode_nil HH.out, d1.below _⟩
  | true =>
    have HH := Lib.hid (leastHit_ok hA)
    obtain ⟨h1, h12, -⟩ := areSets_mem hA
    obtain ⟨m, rfl⟩ : ∃ m : Nat, n = m := ⟨n.toNat, by omega⟩
    rw [hA] at hcall
    rw [Int.toNat_natCast] at HH
    clear hA
    have HL := Lib.hid (fun (wq : World) (hb : Ext w wq) => l26Least_c wq v z xss m (by omega) (stable_rows.ext h hb))
    generalize leastL (hitsB xss) m = l at *
    go_enter Try.func31, Try.ntmps31
    go_wp2_with fail
    refine Calls.mono hcall ?_
    rintro e w1 ⟨rfl, d1⟩
    have b1 := Ext.ofDrew d1
    go_wp2_with fail
    refine Calls.mono (HL.out _ b1) ?_
    rintro e w2 hr2
    obtain ⟨u2, rfl, r2, b2⟩ := ret_ext hr2
    go_wp2_with fail
    go_ret2
    exact ⟨_, rfl, IntsCode_mk HH.out (stable_ints.grow r2 b1 (Ext.refl _)), b1.trans b2⟩
end Go.Proofs.Ytaogpbhgoeepbaa
