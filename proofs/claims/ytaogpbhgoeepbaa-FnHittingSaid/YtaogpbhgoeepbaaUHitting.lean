/- Proved: IsHitting and DisjointBound: program and reference compute the same, for all arguments. -/
import Derived.Test.YtaogpbhgoeepbaaChecked
import Derived.Test.YtaogpbhgoeepbaaUSets
import Derived.Test.YtaogpbhgoeepbaaUBase2
import Derived.Test.YtaogpbhgoeepbaaURisingFacts
import Derived.Test.YtaogpbhgoeepbaaUSetsFacts
namespace Go.Proofs.Ytaogpbhgoeepbaa
open Go.ChangeShapes Go.WideShapes Go.ChangeAt Go.RowKit
set_option linter.unusedVariables false

def isHitting (n : Int) (xss : List (List Int)) (l : List Int) : Bool × Int := if setsCode n xss l = 0 then (hitsB xss l, 0) else (false, setsCode n xss l)
theorem isHitting_ok {n : Int} {xss : List (List Int)} {l : List Int} (h : setsCode n xss l = 0) : isHitting n xss l = (hitsB xss l, 0) := by unfold isHitting; rw [if_pos h]
theorem isHitting_no {n : Int} {xss : List (List Int)} {l : List Int} (h : setsCode n xss l ≠ 0) : isHitting n xss l = (false, setsCode n xss l) := by unfold isHitting; rw [if_neg h]
theorem IsHitting_c (w : World) (u v : Value) (y z : Zone) (xss : List (List Int)) (l : List Int) (n : Int) (hn : I64 n) (h : RowsR y w u xss) (h' : IntsR z w v l) :
    Calls Try.prog 36 #[.int .i64 n, u, v] w (Ret w fun r _ => r = BoolCode (isHitting n xss l)) := by
  have hcall := setsCode_c w u v y z xss l n hn h h'
  by_cases hc : setsCode n xss l = 0
  · have HH := Lib.hid (isHitting_ok hc)
    rw [hc] at hcall
    go_enter Try.func36, Try.ntmps36
    go_wp2_with fail
    refine Calls.mono hcall ?_
    rintro e w1 ⟨r, rfl, rfl, b1⟩
    go_wp2_with fail
    refine Calls.mono (hits_c w1 u v y z xss l (stable_rows.below h b1) (stable_ints.below h' b1)) ?_
    rintro e w2 ⟨r, rfl, rfl, b2⟩
    go_wp2_with fail
    go_ret2
    exact ⟨_, rfl, BoolCode_mk HH.out, b1.trans (b2.mono b1.size)⟩
  · have HH := Lib.hid (isHitting_no hc)
    have hb : (setsCode n xss l != 0) = true := by rw [bne_iff_ne]; exact hc
    generalize setsCode n xss l = k at *
    clear hc
    go_enter Try.func36, Try.ntmps36
    go_wp2_with fail
    refine Calls.mono hcall ?_
    rintro e w1 ⟨r, rfl, rfl, b1⟩
    go_wp2_with fail
    go_ret2
    exact ⟨_, rfl, BoolCode_mk HH.out, b1⟩

theorem IsHittingSpec_c (w : World) (u v : Value) (y z : Zone) (xss : List (List Int)) (l : List Int) (n : Int) (hn : I64 n) (h : RowsR y w u xss) (h' : IntsR z w v l) :
    Calls Try.prog 41 #[.int .i64 n, u, v] w (Ret w fun r _ => r = BoolCode (isHitting n xss l)) := by
  have hcall := l26Code_c w u v y z xss l n hn h h'
  by_cases hc : setsCode n xss l = 0
  · have HH := Lib.hid (isHitting_ok hc)
    rw [hc] at hcall
    go_enter Try.func41, Try.ntmps41
    go_wp2_with fail
    refine Calls.mono hcall ?_
    rintro e w1 ⟨rfl, b1⟩
    go_wp2_with fail
    refine Calls.mono (l26Hits_c w1 u v y z xss l (stable_rows.drew h b1) (stable_ints.drew h' b1)) ?_
    rintro e w2 ⟨rfl, b2⟩
    go_wp2_with fail
    go_ret2
    exact ⟨_, rfl, BoolCode_mk HH.out, (b1.trans b2).below _⟩
  · have HH := Lib.hid (isHitting_no hc)
    have hb : (setsCode n xss l != 0) = true := by rw [bne_iff_ne]; exact hc
    generalize setsCode n xss l = k at *
    clear hc
    go_enter Try.func41, Try.ntmps41
    go_wp2_with fail
    refine Calls.mono hcall ?_
    rintro e w1 ⟨rfl, b1⟩
    go_wp2_with fail
    go_ret2
    exact ⟨_, rfl, BoolCode_mk HH.out, b1.below _⟩

/-! ### the bound -/
def boundStep (x : List Int × Int) (s : List Int) : List Int × Int := if common s x.1 = true then x else (x.1 ++ s, x.2 + 1)
def boundAt (xss : List (List Int)) (k : Nat) : List Int × Int := (xss.take k).foldl boundStep ([], 0)
theorem boundAt_succ {xss : List (List Int)} {k : Nat} (h : k < xss.length) : boundAt xss (k+1) = boundStep (boundAt xss k) xss[k] := by
  unfold boundAt; rw [List.take_add_one, List.getElem?_eq_getElem h, List.foldl_append]; rfl
theorem boundAt_yes {xss : List (List Int)} {k : Nat} (h : k < xss.length) (hc : common xss[k] (boundAt xss k).1 = true) : boundAt xss (k+1) = boundAt xss k := by
  rw [boundAt_succ h]; unfold boundStep; rw [if_pos hc]
theorem boundAt_no {xss : List (List Int)} {k : Nat} (h : k < xss.length) (hc : common xss[k] (boundAt xss k).1 = false) : boundAt xss (k+1) = ((boundAt xss k).1 ++ xss[k], (boundAt xss k).2 + 1) := by
  rw [boundAt_succ h]; unfold boundStep; rw [if_neg (by simp [hc])]
/-- what the taken sets hold, and how many they are -/
def BoundOk (xss : List (List Int)) (k : Nat) : Prop := (boundAt xss k).1.length ≤ 12 * k ∧ 0 ≤ (boundAt xss k).2 ∧ (boundAt xss k).2 ≤ k ∧ ∀ x ∈ (boundAt xss k).1, I64 x
theorem bound_ok {xss : List (List Int)} (h : ∀ s ∈ xss, s.length ≤ 12 ∧ ∀ x ∈ s, I64 x) : ∀ k, k ≤ xss.length → BoundOk xss k := by
  intro k
  unfold BoundOk
  induction k with
  | zero => intro _; simp [boundAt]
  | succ k ih =>
    intro hk
    obtain ⟨h1, h2, h3, h4⟩ := ih (by omega)
    have hs := h xss[k] (List.getElem_mem (by omega))
    by_cases hc : common xss[k] (boundAt xss k).1 = true
    · rw [boundAt_yes (by omega) hc]; exact ⟨by omega, h2, by omega, h4⟩
    · rw [boundAt_no (by omega) (by simpa using hc)]
      refine ⟨by simp; omega, by simp only; omega, by simp only; omega, fun x hx => ?_⟩
      rcases List.mem_append.1 hx with hx | hx
      · exact h4 x hx
      · exact hs.2 x hx
def disjointBound (n : Int) (xss : List (List Int)) : Int × Int := if areSets n xss = true then ((boundAt xss xss.length).2, 0) else (0, 1)
theorem disjointBound_ok {n : Int} {xss : List (List Int)} (h : areSets n xss = true) : disjointBound n xss = ((boundAt xss xss.length).2, 0) := by unfold disjointBound; rw [if_pos h]
theorem disjointBound_no {n : Int} {xss : List (List Int)} (h : areSets n xss = false) : disjointBound n xss = (0, 1) := by unfold disjointBound; rw [if_neg (by simp [h])]

set_option maxRecDepth 20000 in
set_option maxHeartbeats 1000000 in
theorem DisjointBoundSpec_c (w : World) (v : Value) (z : Zone) (xss : List (List Int)) (n : Int) (hn : I64 n) (h : RowsR z w v xss) :
    Calls Try.prog 33 #[.int .i64 n, v] w (Ret w fun r _ => r = IntCode (disjointBound n xss)) := by
  have hcall := AreSetsSpec_c w v z xss n hn h
  cases hA : areSets n xss with
  | false =>
    have HH := Lib.hid (disjointBound_no hA)
    rw [hA] at hcall
    clear hA
    go_enter Try.func33, Try.ntmps33
    go_wp2_with fail
    refine Calls.mono hcall ?_
    rintro e w1 ⟨rfl, hd⟩
    go_wp2_with fail
    go_ret2
    exact ⟨_, rfl, IntCode_mk HH.out, hd.below _⟩
  | true =>
    have HH := Lib.hid (disjointBound_ok hA)
    obtain ⟨-, -, hl60, hsets⟩ := areSets_mem hA
    have Hok := Lib.hid (bound_ok (fun s hs => ⟨(hsets s hs).2.2, RowsR.mems h s hs⟩))
    have Hset := Lib.hid (fun s hs => (hsets s hs).2.2)
    rw [hA] at hcall
    clear hA hsets
    obtain ⟨a, len, cap, rfl, hlen, hmax, hel⟩ := SliceR.elem stable_ints h
    have hl60' : len ≤ 60 := by omega
    have Hlen := Lib.hid hlen; clear hlen h hl60
    have Hel := Lib.hid hel; clear hel
    go_enter Try.func33, Try.ntmps33
    go_wp2_with fail
    refine Calls.mono hcall ?_
    rintro e w1 ⟨rfl, hd⟩
    clear hcall
    have b1 := hd.below w.heap.size
    have sz1 := hd.size
    go_wp2_with fail
    generalize hw2 : World.alloc _ _ = w2
    have b2 : Below w.heap.size w w2 := by rw [← hw2]; exact b1.alloc (by omega) _
    have o2 : OwnP (Value.int .i64) 2 w.heap.size w2 (.slice (some ⟨w1.heap.size, 0, none⟩) 0 0) [] := by rw [← hw2]; exact OwnP.empty (by omega)
    have z2 : w.heap.size ≤ w2.heap.size := b2.size
    rw [sz1] at o2
    clear hw2
    go_loopw [6, 7, 8] (fun t c i wr => ∃ k : Nat, k ≤ len ∧ i = .int .i64 k ∧ c = .int .i64 (boundAt xss k).2 ∧ OwnP (Value.int .i64) 2 w.heap.size wr t (boundAt xss k).1 ∧ Below w.heap.size w wr) (fun _ _ i _ => len - (intOf i).toNat)
    case atStart => exact ⟨0, Nat.zero_le _, rfl, rfl, o2, b2⟩
    case round =>
      obtain ⟨k, hk, rfl, rfl, hown, hb⟩ := hrel
      obtain ⟨k1, k2, k3, k4⟩ := Hok.out k (by rw [← Hlen.out]; exact hk)
      have K4 := Lib.hid k4; clear k4 o2 b2
      by_cases hlt : k < len
      · have l1 : k < xss.length := by rw [← Hlen.out]; exact hlt
        obtain ⟨b, off, rfl, hb0, u, hc, hu⟩ := Hel.out k l1
        replace hc := (hb.cell hb0).trans hc
        have HY := Lib.hid (boundAt_yes l1)
        have HN := Lib.hid (boundAt_no l1)
        have hsl := Hset.out _ (List.getElem_mem l1)
        generalize xss[k] = s at *
        have hu' := stable_ints.below hu hb
        have HS : Hid (boundAt xss k = ((boundAt xss k).1, (boundAt xss k).2)) := rfl
        generalize (boundAt xss k).1 = tk at *
        generalize (boundAt xss k).2 = mk at *
        have hcall := Common_c wr u _ _ _ s tk hu' (OwnP.ints hown K4.out (Nat.le_refl _))
        obtain ⟨au, nu, cu, rfl, hnu, -⟩ := SliceR.shape hu'
        have hbs := hb.size
        cases hq : common s tk with
        | true =>
          have HH := Lib.hid (HY.out hq)
          rw [hq] at hcall
          clear hq HY HN hnu
          go_wp2_with fail
          refine Calls.mono hcall ?_
          rintro e w3 ⟨rfl, hd3⟩
          clear hcall
          go_wp2_with fail
          go_roundw
          case rel => exact ⟨k + 1, by omega, by go_num, by rw [HH.out, HS.out], by rw [HH.out, HS.out]; exact hown.below (hd3.below _), hb.trans (hd3.below _)⟩
          case measure => simp [intOf]; omega
        | false =>
          have HH := Lib.hid (HN.out hq)
          rw [hq] at hcall
          have Hnu := Lib.hid hnu
          clear hq HY HN hnu
          go_wp2_with fail
          refine Calls.mono hcall ?_
          rintro e w3 ⟨rfl, hd3⟩
          clear hcall
          have hsz3 := hd3.size
          have hown3 := hown.below (hd3.below _)
          replace hc := (hd3.cell _).trans hc
          go_wp2_with (at_builtin; (refine wpList_appendR (f := Value.int .i64) (e := 2) (B := w.heap.size) (xs := tk) (ys := s) rfl _ _ 25 rfl 0 8 Try.underlying25 Try.infoI64 rfl (fun _ => rfl) rfl hown3 (E := IntR) (fun h => h.1) rfl (stable_ints.drew hu' hd3) (by omega) (by omega) (by omega) ?_); intro v4 w4 hown4 hg4)
          have hb4 : Below w.heap.size w w4 := (hb.trans (hd3.below _)).grown hg4 (by omega) (fun j hj => (hown3.block j hj).1)
          go_roundw
          case rel => exact ⟨k + 1, by omega, by go_num, by rw [HH.out], by rw [HH.out]; exact hown4, hb4⟩
          case measure => simp [intOf]; omega
      · have hin : k = len := by omega
        have Hl := Hlen.out
        go_wp2_with fail
        go_ret2
        refine ⟨_, rfl, IntCode_mk ?_, hb⟩
        rw [HH.out, ← Hl, hin]

set_option maxRecDepth 20000 in
set_option maxHeartbeats 1000000 in
theorem DisjointBound_c (w : World) (v : Value) (z : Zone) (xss : List (List Int)) (n : Int) (hn : I64 n) (h : RowsR z w v xss) :
    Calls Try.prog 32 #[.int .i64 n, v] w (Ret w fun r _ => r = IntCode (disjointBound n xss)) := by
  have hcall := setsCode_c w v (.slice none 0 0) z z xss [] n hn h (SliceR.nil _ _ _)
  rw [setsCode_nil] at hcall
  cases hA : areSets n xss with
  | false =>
    have HH := Lib.hid (disjointBound_no hA)
    rw [hA] at hcall
    clear hA
    go_enter Try.func32, Try.ntmps32
    go_wp2_with fail
    refine Calls.mono hcall ?_
    rintro e w1 ⟨r, rfl, rfl, b1⟩
    go_wp2_with fail
    go_ret2
    exact ⟨_, rfl, IntCode_mk HH.out, b1⟩
  | true =>
    have HH := Lib.hid (disjointBound_ok hA)
    obtain ⟨-, -, hl60, hsets⟩ := areSets_mem hA
    have Hok := Lib.hid (bound_ok (fun s hs => ⟨(hsets s hs).2.2, RowsR.mems h s hs⟩))
    have Hset := Lib.hid (fun s hs => (hsets s hs).2.2)
    rw [hA] at hcall
    clear hA hsets
    obtain ⟨a, len, cap, rfl, hlen, hmax, hel⟩ := SliceR.elem stable_ints h
    have hl60' : len ≤ 60 := by omega
    have Hlen := Lib.hid hlen; clear hlen h hl60
    have Hel := Lib.hid hel; clear hel
    go_enter Try.func32, Try.ntmps32
    go_wp2_with fail
    refine Calls.mono hcall ?_
    rintro e w1 ⟨r, rfl, rfl, b1⟩
    clear hcall
    have sz1 := b1.size
    go_wp2_with fail
    generalize hw2 : World.alloc _ _ = w2
    have b2 : Below w.heap.size w w2 := by rw [← hw2]; exact b1.alloc (by omega) _
    have o2 : OwnP (Value.int .i64) 2 w.heap.size w2 (.slice (some ⟨w1.heap.size, 0, none⟩) 0 0) [] := by rw [← hw2]; exact OwnP.empty (by omega)
    have z2 : w.heap.size ≤ w2.heap.size := b2.size
    clear hw2
    go_loopw [7, 8, 20] (fun c t i wr => ∃ k : Nat, k ≤ len ∧ i = .int .i64 k ∧ c = .int .i64 (boundAt xss k).2 ∧ OwnP (Value.int .i64) 2 w.heap.size wr t (boundAt xss k).1 ∧ Below w.heap.size w wr) (fun _ _ i _ => len - (intOf i).toNat)
    case atStart => exact ⟨0, Nat.zero_le _, rfl, rfl, o2, b2⟩
    case round =>
      obtain ⟨k, hk, rfl, rfl, hown, hb⟩ := hrel
      obtain ⟨k1, k2, k3, k4⟩ := Hok.out k (by rw [← Hlen.out]; exact hk)
      have K4 := Lib.hid k4; clear k4 o2 b2
      by_cases hlt : k < len
      · have l1 : k < xss.length := by rw [← Hlen.out]; exact hlt
        obtain ⟨b, off, rfl, hb0, u, hc, hu⟩ := Hel.out k l1
        replace hc := (hb.cell hb0).trans hc
        have HY := Lib.hid (boundAt_yes l1)
        have HN := Lib.hid (boundAt_no l1)
        have hsl := Hset.out _ (List.getElem_mem l1)
        generalize xss[k] = s at *
        have hu' := stable_ints.below hu hb
        have HS : Hid (boundAt xss k = ((boundAt xss k).1, (boundAt xss k).2)) := rfl
        generalize (boundAt xss k).1 = tk at *
        generalize (boundAt xss k).2 = mk at *
        have hcall := meets_c wr u _ _ _ s tk hu' (OwnP.ints hown K4.out (Nat.le_refl _))
        obtain ⟨au, nu, cu, rfl, hnu, -⟩ := SliceR.shape hu'
        have hbs := hb.size
        have Hnu := Lib.hid hnu
        clear hnu
        cases hq : common s tk with
        | true =>
          have HH := Lib.hid (HY.out hq)
          rw [hq] at hcall
          clear hq HY HN
          go_wp2_with fail
          refine Calls.mono hcall ?_
          rintro e w3 ⟨r, rfl, rfl, b3⟩
          clear hcall
          go_wp2_with fail
          go_roundw
          case rel => exact ⟨k + 1, by omega, by go_num, by rw [HH.out, HS.out], by rw [HH.out, HS.out]; exact hown.below b3, hb.trans (b3.mono hbs)⟩
          case measure => simp [intOf]; omega
        | false =>
          have HH := Lib.hid (HN.out hq)
          rw [hq] at hcall
          clear hq HY HN
          go_wp2_with fail
          refine Calls.mono hcall ?_
          rintro e w3 ⟨r, rfl, rfl, b3⟩
          clear hcall
          have hsz3 := b3.size
          have hown3 := hown.below b3
          go_wp2_with (at_builtin; (refine wpList_appendR (f := Value.int .i64) (e := 2) (B := w.heap.size) (xs := tk) (ys := s) rfl _ _ 25 rfl 0 8 Try.underlying25 Try.infoI64 rfl (fun _ => rfl) rfl hown3 (E := IntR) (fun h => h.1) rfl (stable_ints.below hu' b3) (by omega) (by omega) (by omega) ?_); intro v4 w4 hown4 hg4)
          have hb4 : Below w.heap.size w w4 := (hb.trans (b3.mono hbs)).grown hg4 (by omega) (fun j hj => (hown3.block j hj).1)
          go_roundw
          case rel => exact ⟨k + 1, by omega, by go_num, by rw [HH.out], by rw [HH.out]; exact hown4, hb4⟩
          case measure => simp [intOf]; omega
      · have hin : k = len := by omega
        have Hl := Hlen.out
        go_wp2_with fail
        go_ret2
        refine ⟨_, rfl, IntCode_mk ?_, hb⟩
        rw [HH.out, ← Hl, hin]
end Go.Proofs.Ytaogpbhgoeepbaa
