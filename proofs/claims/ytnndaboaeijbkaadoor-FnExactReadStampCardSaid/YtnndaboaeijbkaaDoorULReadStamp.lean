/- Proved: for every maker, text and secret, laws.FnExactReadStamp returns true and changes nothing that was there; the listed tables of the library start as the program's text lays them. -/
import Derived.Test.YtnndaboaeijbkaaDoorRows
import Derived.ChangeMaps5
import Derived.LaidMore
import Derived.LaidSub
import Derived.Lay
import Derived.Lib.LaidTab
import Derived.SevenTiedAt
import Derived.Deep.DeepHandedRow
import Derived.Test.YtnndaboaeijbkaaDoorCards
import Derived.Test.YtnndaboaeijbkaaDoorTie
import Derived.Test.YtnndaboaeijbkaaDoorUPkW
import Derived.Test.YtnndaboaeijbkaaDoorUPkKa
namespace Go.Proofs.YtnndaboaeijbkaaDoor
open Go.ChangeShapes Go.WideShapes Go.ChangeAt Go.RowKit
set_option linter.unusedVariables false
namespace fnExactReadStamp

theorem gTab : Tryd.prog.globalNamed "internal/strconv.uint64pow10" = some 0 := by kernel_rfl
theorem gTabType : (Tryd.prog.globals[0]?).map (·.type) = some 102 := by kernel_rfl
theorem cellsTab : Tryd.prog.cellsOf 102 = 20 := by kernel_rfl
theorem cellsOne : Tryd.prog.cellsOf 88 = 1 := by kernel_rfl
theorem rowTab : Rows.fnExactReadStampRow.laid.filter (fun x => x.1 == "internal/strconv.uint64pow10") = [("internal/strconv.uint64pow10", Lib.tabData .u64 Lib.pow10Tab)] := by kernel_rfl
theorem pow10_of {W : World} (h : laidMetH Tryd.prog Rows.fnExactReadStampRow.laid W) : Pow10 W := by
  have h' := laidMetH.filter (fun x => x.1 == "internal/strconv.uint64pow10") h
  rw [rowTab] at h'
  exact Lib.tabIs_of_head (rest := []) gTab gTabType Tryd.underlying102 Tryd.underlying88 cellsOne cellsTab h'

/-- what reading gives, in one form -/
theorem read_form (mk : MK) (l : List UInt8) (sec : Int) : ∃ (res0 : List Int) (a c : Int), (res0.length : Int) ≤ 6 ∧ ∀ (w w' : World) (r : Value), ReadOut mk l sec w.heap.size r w' → ∃ u, r = .tuple #[u, .int .i64 a, .int .i64 c] ∧ IntsR (.new w w') w' u res0 := by
  by_cases hc : codeM mk 0 sec = 0
  · cases hb : readB (lenM mk) (countM mk) l with
    | false => exact ⟨[], 0, 6, by simp, fun w w' r h => ⟨_, h.2.1 hc hb, SliceR.nil _ _ _⟩⟩
    | true =>
      obtain ⟨hm, -⟩ := codeM_zero hc
      have hN : 0 < countM mk := by obtain ⟨-, -, -, h4, h5, -⟩ := readB_yes hb; omega
      have hg := List.getElem?_eq_getElem (idxM_lt (l := l) (sec := sec) hN)
      have hmem := List.mem_of_getElem? hg
      obtain ⟨hl, hx⟩ := allK_mem hmem
      have hc6 := (mkOk hm).c6
      have hd8 := (mkOk hm).d8
      refine ⟨_, (byteN l 0 : Int) - 65, 0, by rw [hl]; omega, fun w w' r h => ?_⟩
      obtain ⟨u, key, rfl, o, hk⟩ := h.2.2 hc hb
      rw [hg] at hk
      injection hk with hk
      subst hk
      exact ⟨u, rfl, OwnP.ints o (fun x hxm => by have := hx x hxm; unfold I64; omega) (Nat.le_refl _)⟩
  · exact ⟨[], 0, codeM mk 0 sec, by simp, fun w w' r h => ⟨_, h.1 hc, SliceR.nil _ _ _⟩⟩

set_option maxRecDepth 20000 in
set_option maxHeartbeats 2000000 in
theorem walk (w : World) (_ : w.ShapedOpen Tryd.prog) (hL : laidMetH Tryd.prog Rows.fnExactReadStampRow.laid w) (mk : MK) (s : ByteArray) (hs : s.size ≤ maxLen) (sec : Int) (hsec : I64 sec) :
    Calls Tryd.prog 4 #[mk.v, .string s, .int .i64 sec] w (Ret w fun r _ => r = .bool true) := by
  have hT := pow10_of hL
  have CM := Lib.hid (fun (w' : World) => toMaker_c w' mk)
  obtain ⟨res0, ra, rc, hlen, hform⟩ := read_form mk s.data.toList sec
  have CS : Hid (∀ (wq : World), Calls Tryd.prog 10 #[mk.v, .string s, .int .i64 sec] wq (Ret wq fun r w' => ∃ u, r = .tuple #[u, .int .i64 ra, .int .i64 rc] ∧ IntsR (.new wq w') w' u res0)) := fun wq => (ReadStampSpec_c wq mk s hs sec).mono (fun e w' h => by
    obtain ⟨r, rfl, h1, h2⟩ := ret_ext h
    exact ⟨r, rfl, hform wq w' r h1, h2⟩)
  have CI : Hid (∀ (wq : World), Ext w wq → Calls Tryd.prog 11 #[mk.v, .string s, .int .i64 sec] wq (Ret wq fun r w' => ∃ u, r = .tuple #[u, .int .i64 ra, .int .i64 rc] ∧ IntsR (.new wq w') w' u res0)) := fun wq he => (ReadStamp_c wq (hT.ext he) mk s hs sec).mono (fun e w' h => by
    obtain ⟨r, rfl, h1, h2⟩ := ret_ext h
    exact ⟨r, rfl, hform wq w' r h1, h2⟩)
  have LR0 : (res0.length : Int) ≤ 1048576 := by omega
  clear hform hT hL hs hsec hlen
  obtain ⟨c, d, st, m, l⟩ := mk
  unfold MK.v at *
  simp only at CM CS CI ⊢
  by_cases hbig : 1048576 < s.size
  · have hb : decide ((1048576 : Int) < (s.size : Int)) = true := decide_eq_true (by omega)
    clear CM CS CI
    go_enter Tryd.func4, Tryd.ntmps4
    go_wp2_with fail
    go_ret
    exact ⟨_, rfl, rfl, Ext.alloc _ _⟩
  have hb : decide ((1048576 : Int) < (s.size : Int)) = false := decide_eq_false (by omega)
  have hb2 : decide (1048576 < s.size) = false := decide_eq_false (by omega)
  clear hbig
  go_enter Tryd.func4, Tryd.ntmps4
  go_wp2_with fail
  generalize hw2 : World.alloc w _ = w1
  obtain ⟨B1, S1⟩ := mk_box (mk := ⟨c, d, st, m, l⟩) hw2
  replace B1 : Below w.heap.size w w1 := B1
  have s1 : w.heap.size < w1.heap.size := by rw [← hw2]; simp
  clear hw2
  obtain ⟨q0, q1, q2, q3, q4⟩ := S1
  simp only at q0 q1 q2 q3 q4
  go_wp2_with fail
  refine Calls.mono (CM.out w1) ?_
  rintro e w2 ⟨r, rfl, rfl, bb2⟩
  have b2 : Below w1.heap.size w1 w2 := bb2
  have B2 : Below w.heap.size w w2 := B1.trans (b2.mono B1.size)
  have s2 : w1.heap.size ≤ w2.heap.size := b2.size
  replace q0 := (b2.cell (p := ⟨w.heap.size, 0, none⟩) (by show w.heap.size < w1.heap.size; omega)).trans q0
  replace q1 := (b2.cell (p := ⟨w.heap.size, 1, none⟩) (by show w.heap.size < w1.heap.size; omega)).trans q1
  replace q2 := (b2.cell (p := ⟨w.heap.size, 2, none⟩) (by show w.heap.size < w1.heap.size; omega)).trans q2
  replace q3 := (b2.cell (p := ⟨w.heap.size, 3, none⟩) (by show w.heap.size < w1.heap.size; omega)).trans q3
  replace q4 := (b2.cell (p := ⟨w.heap.size, 4, none⟩) (by show w.heap.size < w1.heap.size; omega)).trans q4
  go_wp2_with fail
  refine Calls.mono (CS.out w2) ?_
  rintro e w3 ⟨rr3, rfl, ⟨u3, rfl, rS0⟩, bb3⟩
  have b3 : Below w2.heap.size w2 w3 := bb3
  have B3 : Below w.heap.size w w3 := B2.trans (b3.mono B2.size)
  have s3 : w2.heap.size ≤ w3.heap.size := b3.size
  replace q0 := (b3.cell (p := ⟨w.heap.size, 0, none⟩) (by show w.heap.size < w2.heap.size; omega)).trans q0
  replace q1 := (b3.cell (p := ⟨w.heap.size, 1, none⟩) (by show w.heap.size < w2.heap.size; omega)).trans q1
  replace q2 := (b3.cell (p := ⟨w.heap.size, 2, none⟩) (by show w.heap.size < w2.heap.size; omega)).trans q2
  replace q3 := (b3.cell (p := ⟨w.heap.size, 3, none⟩) (by show w.heap.size < w2.heap.size; omega)).trans q3
  replace q4 := (b3.cell (p := ⟨w.heap.size, 4, none⟩) (by show w.heap.size < w2.heap.size; omega)).trans q4
  go_wp2_with fail
  refine Calls.mono (CM.out w3) ?_
  rintro e w4 ⟨r, rfl, rfl, bb4⟩
  have b4 : Below w3.heap.size w3 w4 := bb4
  have B4 : Below w.heap.size w w4 := B3.trans (b4.mono B3.size)
  have s4 : w3.heap.size ≤ w4.heap.size := b4.size
  replace rS0 := stable_ints.below rS0 b4
  replace q0 := (b4.cell (p := ⟨w.heap.size, 0, none⟩) (by show w.heap.size < w3.heap.size; omega)).trans q0
  replace q1 := (b4.cell (p := ⟨w.heap.size, 1, none⟩) (by show w.heap.size < w3.heap.size; omega)).trans q1
  replace q2 := (b4.cell (p := ⟨w.heap.size, 2, none⟩) (by show w.heap.size < w3.heap.size; omega)).trans q2
  replace q3 := (b4.cell (p := ⟨w.heap.size, 3, none⟩) (by show w.heap.size < w3.heap.size; omega)).trans q3
  replace q4 := (b4.cell (p := ⟨w.heap.size, 4, none⟩) (by show w.heap.size < w3.heap.size; omega)).trans q4
  go_wp2_with fail
  refine Calls.mono (CI.out w4 B4) ?_
  rintro e w5 ⟨rr5, rfl, ⟨u5, rfl, rG0⟩, bb5⟩
  have b5 : Below w4.heap.size w4 w5 := bb5
  have B5 : Below w.heap.size w w5 := B4.trans (b5.mono B4.size)
  have s5 : w4.heap.size ≤ w5.heap.size := b5.size
  replace rS0 := stable_ints.below rS0 b5
  replace q0 := (b5.cell (p := ⟨w.heap.size, 0, none⟩) (by show w.heap.size < w4.heap.size; omega)).trans q0
  replace q1 := (b5.cell (p := ⟨w.heap.size, 1, none⟩) (by show w.heap.size < w4.heap.size; omega)).trans q1
  replace q2 := (b5.cell (p := ⟨w.heap.size, 2, none⟩) (by show w.heap.size < w4.heap.size; omega)).trans q2
  replace q3 := (b5.cell (p := ⟨w.heap.size, 3, none⟩) (by show w.heap.size < w4.heap.size; omega)).trans q3
  replace q4 := (b5.cell (p := ⟨w.heap.size, 4, none⟩) (by show w.heap.size < w4.heap.size; omega)).trans q4
  go_wp2_with fail
  refine Calls.mono (Calls.vq (eqInt64S_c w5 _ _ _ _ res0 res0 rG0 rS0) (congrArg Value.bool (decide_eq_true rfl))) ?_
  rintro e w6 ⟨rfl, hd6⟩
  have b6 : Below w5.heap.size w5 w6 := hd6.below _
  have B6 : Below w.heap.size w w6 := B5.trans (b6.mono B5.size)
  have s6 : w5.heap.size ≤ w6.heap.size := b6.size
  replace rS0 := stable_ints.below rS0 b6
  replace rG0 := stable_ints.below rG0 b6
  replace q0 := (b6.cell (p := ⟨w.heap.size, 0, none⟩) (by show w.heap.size < w5.heap.size; omega)).trans q0
  replace q1 := (b6.cell (p := ⟨w.heap.size, 1, none⟩) (by show w.heap.size < w5.heap.size; omega)).trans q1
  replace q2 := (b6.cell (p := ⟨w.heap.size, 2, none⟩) (by show w.heap.size < w5.heap.size; omega)).trans q2
  replace q3 := (b6.cell (p := ⟨w.heap.size, 3, none⟩) (by show w.heap.size < w5.heap.size; omega)).trans q3
  replace q4 := (b6.cell (p := ⟨w.heap.size, 4, none⟩) (by show w.heap.size < w5.heap.size; omega)).trans q4
  go_wp2_with fail
  refine Calls.mono (markInt64S_c w6 _ _ res0 _ rG0 rfl (by omega) (by omega)) ?_
  rintro e w7 ⟨rfl, rmG0, hw7⟩
  have hz7 : w7.heap.size = w6.heap.size := hw7.size
  have B7 : Below w.heap.size w w7 := B6.trans (hw7.below (by simp only [Zone.new]; omega))
  clear rG0
  replace rS0 := stable_ints.within rS0 hw7 (fun k h1 h2 => by have q1 := h1.1; have q2 := h1.2; have q3 := h2.1; have q4 := h2.2; simp only [Zone.new] at q1 q2 q3 q4; omega)
  replace q0 := (hw7.cell (p := ⟨w.heap.size, 0, none⟩) (fun h => by have q1 := h.1; simp only [Zone.new] at q1; omega)).trans q0
  replace q1 := (hw7.cell (p := ⟨w.heap.size, 1, none⟩) (fun h => by have q1 := h.1; simp only [Zone.new] at q1; omega)).trans q1
  replace q2 := (hw7.cell (p := ⟨w.heap.size, 2, none⟩) (fun h => by have q1 := h.1; simp only [Zone.new] at q1; omega)).trans q2
  replace q3 := (hw7.cell (p := ⟨w.heap.size, 3, none⟩) (fun h => by have q1 := h.1; simp only [Zone.new] at q1; omega)).trans q3
  replace q4 := (hw7.cell (p := ⟨w.heap.size, 4, none⟩) (fun h => by have q1 := h.1; simp only [Zone.new] at q1; omega)).trans q4
  have s7 : w6.heap.size ≤ w7.heap.size := by omega
  clear hw7
  obtain ⟨m1, em1⟩ : ∃ t : Int, t = 1 + (res0.length : Int) := ⟨_, rfl⟩
  rw [← em1]
  have gm1a : 0 ≤ m1 ∧ m1 ≤ 1048577 := by omega
  have Em1 := Lib.hid em1; clear em1; obtain ⟨gm1a, gm1b⟩ := gm1a
  go_wp2_with fail
  refine Calls.mono (Calls.vq (heldInt64S_c w7 _ _ res0.length _ rmG0 (by omega) (by have := Em1.out; omega)) (congrArg (Value.int .i64) Em1.out.symm)) ?_
  rintro e w8 ⟨rfl, hd8⟩
  have b8 : Below w7.heap.size w7 w8 := hd8.below _
  have B8 : Below w.heap.size w w8 := B7.trans (b8.mono B7.size)
  have s8 : w7.heap.size ≤ w8.heap.size := b8.size
  replace rS0 := stable_ints.below rS0 b8
  replace rmG0 := stable_ints.below rmG0 b8
  replace q0 := (b8.cell (p := ⟨w.heap.size, 0, none⟩) (by show w.heap.size < w7.heap.size; omega)).trans q0
  replace q1 := (b8.cell (p := ⟨w.heap.size, 1, none⟩) (by show w.heap.size < w7.heap.size; omega)).trans q1
  replace q2 := (b8.cell (p := ⟨w.heap.size, 2, none⟩) (by show w.heap.size < w7.heap.size; omega)).trans q2
  replace q3 := (b8.cell (p := ⟨w.heap.size, 3, none⟩) (by show w.heap.size < w7.heap.size; omega)).trans q3
  replace q4 := (b8.cell (p := ⟨w.heap.size, 4, none⟩) (by show w.heap.size < w7.heap.size; omega)).trans q4
  go_wp2_with fail
  refine Calls.mono (CM.out w8) ?_
  rintro e w9 ⟨r, rfl, rfl, bb9⟩
  have b9 : Below w8.heap.size w8 w9 := bb9
  have B9 : Below w.heap.size w w9 := B8.trans (b9.mono B8.size)
  have s9 : w8.heap.size ≤ w9.heap.size := b9.size
  replace rS0 := stable_ints.below rS0 b9
  replace rmG0 := stable_ints.below rmG0 b9
  replace q0 := (b9.cell (p := ⟨w.heap.size, 0, none⟩) (by show w.heap.size < w8.heap.size; omega)).trans q0
  replace q1 := (b9.cell (p := ⟨w.heap.size, 1, none⟩) (by show w.heap.size < w8.heap.size; omega)).trans q1
  replace q2 := (b9.cell (p := ⟨w.heap.size, 2, none⟩) (by show w.heap.size < w8.heap.size; omega)).trans q2
  replace q3 := (b9.cell (p := ⟨w.heap.size, 3, none⟩) (by show w.heap.size < w8.heap.size; omega)).trans q3
  replace q4 := (b9.cell (p := ⟨w.heap.size, 4, none⟩) (by show w.heap.size < w8.heap.size; omega)).trans q4
  go_wp2_with fail
  refine Calls.mono (CI.out w9 B9) ?_
  rintro e w10 ⟨rr10, rfl, ⟨u10, rfl, rH0⟩, bb10⟩
  have b10 : Below w9.heap.size w9 w10 := bb10
  have B10 : Below w.heap.size w w10 := B9.trans (b10.mono B9.size)
  have s10 : w9.heap.size ≤ w10.heap.size := b10.size
  replace rS0 := stable_ints.below rS0 b10
  replace rmG0 := stable_ints.below rmG0 b10
  replace q0 := (b10.cell (p := ⟨w.heap.size, 0, none⟩) (by show w.heap.size < w9.heap.size; omega)).trans q0
  replace q1 := (b10.cell (p := ⟨w.heap.size, 1, none⟩) (by show w.heap.size < w9.heap.size; omega)).trans q1
  replace q2 := (b10.cell (p := ⟨w.heap.size, 2, none⟩) (by show w.heap.size < w9.heap.size; omega)).trans q2
  replace q3 := (b10.cell (p := ⟨w.heap.size, 3, none⟩) (by show w.heap.size < w9.heap.size; omega)).trans q3
  replace q4 := (b10.cell (p := ⟨w.heap.size, 4, none⟩) (by show w.heap.size < w9.heap.size; omega)).trans q4
  go_wp2_with fail
  refine Calls.mono (Calls.vq (eqInt64S_c w10 _ _ _ _ res0 res0 rH0 rS0) (congrArg Value.bool (decide_eq_true rfl))) ?_
  rintro e w11 ⟨rfl, hd11⟩
  have b11 : Below w10.heap.size w10 w11 := hd11.below _
  have B11 : Below w.heap.size w w11 := B10.trans (b11.mono B10.size)
  have s11 : w10.heap.size ≤ w11.heap.size := b11.size
  replace rS0 := stable_ints.below rS0 b11
  replace rmG0 := stable_ints.below rmG0 b11
  replace rH0 := stable_ints.below rH0 b11
  replace q0 := (b11.cell (p := ⟨w.heap.size, 0, none⟩) (by show w.heap.size < w10.heap.size; omega)).trans q0
  replace q1 := (b11.cell (p := ⟨w.heap.size, 1, none⟩) (by show w.heap.size < w10.heap.size; omega)).trans q1
  replace q2 := (b11.cell (p := ⟨w.heap.size, 2, none⟩) (by show w.heap.size < w10.heap.size; omega)).trans q2
  replace q3 := (b11.cell (p := ⟨w.heap.size, 3, none⟩) (by show w.heap.size < w10.heap.size; omega)).trans q3
  replace q4 := (b11.cell (p := ⟨w.heap.size, 4, none⟩) (by show w.heap.size < w10.heap.size; omega)).trans q4
  go_wp2_with fail
  refine Calls.mono (Calls.vq (heldInt64S_c w11 _ _ res0.length _ rmG0 (by omega) (by have := Em1.out; omega)) (congrArg (Value.int .i64) Em1.out.symm)) ?_
  rintro e w12 ⟨rfl, hd12⟩
  have b12 : Below w11.heap.size w11 w12 := hd12.below _
  have B12 : Below w.heap.size w w12 := B11.trans (b12.mono B11.size)
  have s12 : w11.heap.size ≤ w12.heap.size := b12.size
  replace rS0 := stable_ints.below rS0 b12
  replace rmG0 := stable_ints.below rmG0 b12
  replace rH0 := stable_ints.below rH0 b12
  replace q0 := (b12.cell (p := ⟨w.heap.size, 0, none⟩) (by show w.heap.size < w11.heap.size; omega)).trans q0
  replace q1 := (b12.cell (p := ⟨w.heap.size, 1, none⟩) (by show w.heap.size < w11.heap.size; omega)).trans q1
  replace q2 := (b12.cell (p := ⟨w.heap.size, 2, none⟩) (by show w.heap.size < w11.heap.size; omega)).trans q2
  replace q3 := (b12.cell (p := ⟨w.heap.size, 3, none⟩) (by show w.heap.size < w11.heap.size; omega)).trans q3
  replace q4 := (b12.cell (p := ⟨w.heap.size, 4, none⟩) (by show w.heap.size < w11.heap.size; omega)).trans q4
  go_wp2_with fail
  go_ret
  exact ⟨_, rfl, rfl, B12⟩

/-! ### the row -/
theorem own : ownKnob Tryd.prog.godebug = none := by kernel_rfl
theorem laidOut : laidOutB Tryd.prog = true := by kernel_rfl
set_option maxRecDepth 100000 in
theorem lifted (os : Os) (started : os.Started) (H : Type) (enc : TypeId × Value → H) (F : Stop.Interp) :
    ReturnsInHanded {} Tryd.checked os 4 .any ((OpenSpec.ofChange Rows.fnExactReadStampSpec).preRow enc Tryd.prog Tryd.f4 Rows.fnExactReadStampRow.domain false Rows.fnExactReadStampRow.laid)
      (((OpenSpec.ofChange Rows.fnExactReadStampSpec).at F).post enc Tryd.prog Tryd.f4 false true false false) := by
  refine returnsInHanded_of_row (C := Tryd.checked) (s := OpenSpec.ofChange Rows.fnExactReadStampSpec) own started (by kernel_rfl) Tryd.func4
    (ChangeSpec.witness_shaped (s := Rows.fnExactReadStampSpec) (enc := enc) (C := Tryd.checked) (os := os) (X := fun w _ => laidMetH Tryd.prog Rows.fnExactReadStampRow.laid w) false (World.laidAll Tryd.prog os Rows.fnExactReadStampRow.laid) #[.agg #[.int .i64 0, .int .i64 0, .int .i64 0, .int .i64 0, .int .i64 0], .string ByteArray.empty, .int .i64 0] 8 (World.laidAll_os _ _ _)
      (World.shaped_of_ZipB (by kernel_rfl) (by kernel_rfl)) (by kernel_rfl) (by kernel_rfl) (by kernel_rfl)
      (by rw [MakeChecks.laidMetH_plain _ _ _ (by kernel_rfl)]; exact laidMet_laidAll _ (by kernel_rfl) (by kernel_rfl))) ?_
  intro W base args ds gs before hval0 hW hcnd _ _ hL hshape _
  have hval : ∀ (j : Nat) t v, Tryd.f4.params[j]? = some t → args[j]? = some v → Value.okWide Tryd.prog W .any base t v := hval0
  have hW' := hW
  obtain ⟨p, q, hA0, hV, rfl, hfz, hnd⟩ := hW
  have hA : DataW.TrodAll enc Tryd.prog W 0 (fun _ => true) true Tryd.f4.params.toList args.toList ds p := hA0
  rw [Tryd.params4] at hA hval
  obtain ⟨v0, vs0, d0, ds0, p0, q0, hargs, rfl, rfl, h0, r0⟩ := trodAll_cons hA
  obtain ⟨v1, vs1, d1, ds1, p1, q1, rfl, rfl, rfl, h1, r1⟩ := trodAll_cons r0
  obtain ⟨v2, vs2, d2, ds2, p2, q2, rfl, rfl, rfl, h2, r2⟩ := trodAll_cons r1
  obtain ⟨rfl, rfl, rfl⟩ := trodAll_nil r2
  obtain rfl : args = #[v0, v1, v2] := by cases args; simp_all
  obtain ⟨rfl, rfl⟩ := trodVars_none hV
  have k0 := h0
  have lt0 : ∀ x ∈ p0, x.block < W.heap.size := by obtain ⟨m, hm⟩ := k0; exact DataW.trod_lt m _ _ _ hm
  obtain ⟨M0, rfl, w0⟩ := open_mk Tryd.underlying23 (by kernel_rfl) ⟨rfl, by kernel_rfl, Tryd.underlying2⟩ ⟨rfl, by kernel_rfl, Tryd.underlying2⟩ ⟨rfl, by kernel_rfl, Tryd.underlying2⟩ ⟨rfl, by kernel_rfl, Tryd.underlying2⟩ ⟨rfl, by kernel_rfl, Tryd.underlying2⟩ (hval 0 23 v0 rfl rfl) h0
  have k1 := h1
  have lt1 : ∀ x ∈ p1, x.block < W.heap.size := by obtain ⟨m, hm⟩ := k1; exact DataW.trod_lt m _ _ _ hm
  obtain ⟨a1, rfl, -, -, w1⟩ := Go.ChangeMaps.open_string Tryd.underlying9 (hval 1 9 v1 rfl rfl) h1
  have k2 := h2
  have lt2 : ∀ x ∈ p2, x.block < W.heap.size := by obtain ⟨m, hm⟩ := k2; exact DataW.trod_lt m _ _ _ hm
  obtain ⟨a2, rfl, -, -, g2⟩ := open_int Tryd.underlying2 (hval 2 2 v2 rfl rfl) h2
  have w2 := wf_i64 g2
  clear hA0 hval0
  refine (walk W hshape hL M0 a1 w1 a2 w2).mono fun e W' hret => ?_
  obtain ⟨r, rfl, rfl, bel⟩ := hret
  exact ⟨_, rfl, _, _, _, [], _, [], hW', trodAll_mk1 (shut_bool Tryd.underlying4 _), (trodAll_cons_mk (Below.trod laidOut (by kernel_rfl) (of_decide_eq_true (by kernel_rfl)) k0 bel lt0) (trodAll_cons_mk (Below.trod laidOut (by kernel_rfl) (of_decide_eq_true (by kernel_rfl)) k1 bel lt1) (trodAll_cons_mk (Below.trod laidOut (by kernel_rfl) (of_decide_eq_true (by kernel_rfl)) k2 bel lt2) trodAll_mk0))), rfl, bel.frame _, fun h => by cases h⟩

theorem over : Rows.fnExactReadStampRow.holds Tryd.pinned (OpenSpec.ofChange Rows.fnExactReadStampSpec) :=
  OpenClaim.holds_of_cond 4 Tryd.f4 rfl rfl rfl rfl rfl rfl rfl ⟨rfl, rfl, rfl, rfl, rfl⟩ rfl rfl rfl rfl rfl (by kernel_rfl) Tryd.func4 (by kernel_rfl)
    (of_decide_eq_true (by kernel_rfl)) (by unfold Func.isWrapper; first | (rw [if_pos (by decide +kernel)]; kernel_rfl) | (rw [if_neg (by decide +kernel)]; exact ⟨rfl, rfl⟩))
    (fun os started H enc _ F => by rw [OpenClaim.pre_eq_preRow]; exact lifted os started H enc F)

theorem proved : Rows.FnExactReadStampCardSaid :=
  Claim7.holds_tied_plain_at .later [] _ _ _ _ over (fun _ h => by cases h) (by kernel_rfl) (fun _ h => by cases h) fnExactReadStamp_row_tie rfl ⟨rfl, rfl⟩ (by kernel_rfl) rfl
    (fun f fn hf hfn => by
      obtain rfl : f = 4 := Option.some.inj ((show Tryd.prog.funcNamed Rows.fnExactReadStampRow.func = some 4 by kernel_rfl).symm.trans hf) |>.symm
      obtain rfl : fn = Tryd.f4 := (Option.some.inj (Tryd.func4.symm.trans hfn)).symm
      exact ⟨by kernel_rfl, fun j t ht => by
        rw [Tryd.params4] at ht
        have hm : t ∈ [23, 9, 2] := by simpa using Array.mem_of_getElem? ht
        have hall : ([23, 9, 2].all fun u => !Tryd.prog.wantsStandIn u) = true := by kernel_rfl
        exact (show Tryd.prog.wantsStandIn t = false by simpa using List.all_eq_true.1 hall t hm)⟩)
    (by kernel_rfl)

end fnExactReadStamp
end Go.Proofs.YtnndaboaeijbkaaDoor
