/- Proved: the laws' own helpers that mark a list of lists of integers and look whether it is marked. -/
import Derived.Test.YtgagjibjnaappaaChecked
import Derived.Test.YtgagjibjnaappaaULawRows
import Derived.Test.YtgagjibjnaappaaUMarkInts
namespace Go.Proofs.Ytgagjibjnaappaa
open Go.ChangeShapes Go.WideShapes Go.ChangeAt Go.RowKit
set_option linter.unusedVariables false

/-! ### marks -/
/-- each row marked in turn -/
def markRows (k : Int) (xss : List (List Int)) : List (List Int) := (List.range xss.length).map fun i => marks (k + (offs xss i : Int)) (xss.getD i []).length
theorem markRows_length (k : Int) (xss : List (List Int)) : (markRows k xss).length = xss.length := by simp [markRows]
theorem markRows_get (k : Int) (xss : List (List Int)) (i : Nat) (h : i < xss.length) (h' : i < (markRows k xss).length) : (markRows k xss)[i] = marks (k + (offs xss i : Int)) (xss[i]).length := by simp [markRows, h]
theorem markRows_set (k : Int) (xss : List (List Int)) (i : Nat) (h : i < xss.length) :
    ((markRows k xss).take i ++ xss.drop i).set i (marks (k + (offs xss i : Int)) (xss[i]).length) = (markRows k xss).take (i+1) ++ xss.drop (i+1) := by
  have hl := markRows_length k xss
  rw [List.set_append_right _ _ (by simp; omega), show i - ((markRows k xss).take i).length = 0 by simp; omega, List.drop_eq_getElem_cons h, List.set_cons_zero, List.take_add_one, List.getElem?_eq_getElem (by omega), markRows_get k xss i h]
  simp
/-- what markInt64SS leaves -/
def MarksPost (w : World) (z : Zone) (v : Value) (k : Int) (xss : List (List Int)) (e : Ending) (w' : World) : Prop := e = .returned (.int .i64 (k + (offs xss xss.length : Int))) ∧ RowsR z w' v (markRows k xss) ∧ Within z w w'

set_option maxHeartbeats 400000 in
theorem markInt64SS_c (w : World) (v : Value) (z : Zone) (xss : List (List Int)) (k0 : Int) (h : RowsR z w v xss) (ho : z.own = true) (h0 : 0 ≤ k0) (h1 : k0 + (offs xss xss.length : Int) ≤ 4611686018427387904) :
    Calls Try.prog 26 #[v, .int .i64 k0] w (MarksPost w z v k0 xss) := by
  obtain ⟨a, n, cap, rfl, hn, hmax, -, -, -, -⟩ := SliceR.shape h
  have Hn := Lib.hid hn; clear hn
  have H := Lib.hid h; clear h
  have Ho := Lib.hid ho; clear ho
  have H1 := Lib.hid h1; clear h1
  go_enter Try.func26, Try.ntmps26
  go_wp2
  go_loopw [1, 5] (fun s t wr => ∃ i : Nat, i ≤ n ∧ t = .int .i64 i ∧ s = .int .i64 (k0 + (offs xss i : Int)) ∧ RowsR z wr (.slice a n cap) ((markRows k0 xss).take i ++ xss.drop i) ∧ Within z w wr) (fun _ t _ => n - (intOf t).toNat)
  case atStart => exact ⟨0, Nat.zero_le _, rfl, by simp [offs], by simpa using H.out, Within.refl _ _⟩
  case round =>
    obtain ⟨i, hi, rfl, rfl, hr, hw⟩ := hrel
    have hn := Hn.out
    have hml := markRows_length k0 xss
    by_cases hlt : i < n
    · have hil : i < ((markRows k0 xss).take i ++ xss.drop i).length := by simp; omega
      obtain ⟨b, off, n', cap', u, Y, he, hn', hc, hu, hY, hYo, hput⟩ := SliceR.inner stable_ints hr Ho.out i hil
      injection he with e1 e2 e3
      subst e1; subst e3
      have hx : ((markRows k0 xss).take i ++ xss.drop i)[i] = xss[i]'(by omega) := by
        rw [List.getElem_append_right (by simp; omega)]
        simp [show min i (markRows k0 xss).length = i by omega]
      rw [hx] at hu
      have Hs := Lib.hid (offs_succ (xss := xss) (k := i) (by omega))
      have hle := offs_le xss (i+1)
      have hle' : k0 + ((offs xss (i + 1) : Nat) : Int) ≤ 4611686018427387904 := by have := H1.out; omega
      have He := Lib.hid (markRows_set k0 xss i (by omega))
      have Hput := Lib.hid hput
      clear hput hle
      generalize hxs : xss[i]'(by have := Hn.out; omega) = x at *
      clear hxs hx hr hil hml e2 hn' hn
      generalize hoi : offs xss i = oi at *
      have hb1 : k0 + (oi : Int) + (x.length : Int) ≤ 4611686018427387904 := by rw [Hs.out] at hle'; omega
      clear hle'
      go_wp2_with (go_at_call 27; refine (markInt64S_c _ _ _ x _ hu hYo (by omega) hb1).mono ?_; rintro e w2 ⟨rfl, hr2, hw2⟩)
      go_roundw
      case rel => exact ⟨i + 1, by omega, by go_num, by rw [Hs.out]; go_num, by rw [← He.out]; exact Hput.out _ _ hw2 hr2, hw.trans (hw2.sub hY)⟩
      case measure => simp [intOf]; omega
    · have hin : i = n := by omega
      clear hml
      go_wp2
      go_ret
      refine ⟨?_, ?_, hw⟩
      · rw [← hn, ← hin]; rfl
      · rw [hin, hn, List.drop_length, List.append_nil, List.take_of_length_le (by rw [markRows_length]; exact Nat.le_refl _)] at hr
        rw [hn]; exact hr

set_option maxHeartbeats 400000 in
theorem heldInt64SS_c (w : World) (v : Value) (z : Zone) (xss : List (List Int)) (k0 : Int) (h : RowsR z w v (markRows k0 xss)) (h0 : 0 ≤ k0) (h1 : k0 + (offs xss xss.length : Int) ≤ 4611686018427387904) :
    Calls Try.prog 38 #[v, .int .i64 k0] w (RetQ w (.int .i64 (k0 + (offs xss xss.length : Int)))) := by
  obtain ⟨a, n, cap, rfl, hn, hmax, hel⟩ := SliceR.elem stable_ints h
  rw [markRows_length] at hn
  have Hn := Lib.hid hn; clear hn
  have Hel := Lib.hid hel; clear hel h
  have H1 := Lib.hid h1; clear h1
  go_enter Try.func38, Try.ntmps38
  go_wp2
  go_loopw [1, 5] (fun s t wr => ∃ i : Nat, i ≤ n ∧ t = .int .i64 i ∧ s = .int .i64 (k0 + (offs xss i : Int)) ∧ Drew w wr) (fun _ t _ => n - (intOf t).toNat)
  case atStart => exact ⟨0, Nat.zero_le _, rfl, by simp [offs], Drew.refl _⟩
  case round =>
    obtain ⟨i, hi, rfl, rfl, hd⟩ := hrel
    have hn := Hn.out
    by_cases hlt : i < n
    · obtain ⟨b, off, rfl, -, u, hc, hu⟩ := Hel.out i (by rw [markRows_length]; omega)
      rw [markRows_get k0 xss i (by omega)] at hu
      replace hc := (hd.cell _).trans hc
      have Hs := Lib.hid (offs_succ (xss := xss) (k := i) (by omega))
      have hle := offs_le xss (i+1)
      have hle' : k0 + ((offs xss (i + 1) : Nat) : Int) ≤ 4611686018427387904 := by have := H1.out; omega
      clear hle
      generalize hxs : xss[i]'(by have := Hn.out; omega) = x at *
      clear hxs hn
      generalize hoi : offs xss i = oi at *
      have hb1 : k0 + (oi : Int) + (x.length : Int) ≤ 4611686018427387904 := by rw [Hs.out] at hle'; omega
      clear hle'
      go_wp2_with (go_at_call 28; refine (heldInt64S_c _ _ _ x.length _ (stable_ints.drew hu hd) (by omega) hb1).mono ?_; rintro e w2 ⟨rfl, hd2⟩)
      go_roundw
      case rel => exact ⟨i + 1, by omega, by go_num, by rw [Hs.out]; go_num, hd.trans hd2⟩
      case measure => simp [intOf]; omega
    · have hin : i = n := by omega
      go_wp2
      go_ret
      refine ⟨?_, hd⟩
      rw [← hn, ← hin]; rfl
end Go.Proofs.Ytgagjibjnaappaa
