/- Proved: the draw of the law on retired rows; the draw of a row of a chart; the draws of charts; the draws of the law on charts. -/
import Derived.Test.YtkeikjedbfomnaaGreatDoorChecked
import Derived.Deep.RegionLaw
import Derived.Deep.RegionHeld3
import Derived.Deep.Cut
import Derived.Test.YtkeikjedbfomnaaGreatDoorUDrawRet
import Derived.Test.YtkeikjedbfomnaaGreatDoorUDrawSearch
import Derived.Test.YtkeikjedbfomnaaGreatDoorUDamage
import Derived.Test.YtkeikjedbfomnaaGreatDoorUChartS
namespace Go.Proofs.YtkeikjedbfomnaaGreatDoor
open Go.ChangeShapes Go.WideShapes Go.ChangeAt Go.RowKit
set_option linter.unusedVariables false

/-- a system, cuts and a row's number -/
def SysCutsKeyD (w : World) (r : Value) (w' : World) : Prop := ∃ (mk : MK) (v : Value) (t : List (List Int)) (u : Value) (cuts : List (List Int)) (key : Int), r = .tuple #[sysV mk v, u, .int .i64 key] ∧ I64 key ∧ RowsR ⟨w.heap.size, w'.heap.size, false⟩ w' v t ∧ RowsR ⟨w.heap.size, w'.heap.size, false⟩ w' u cuts

open Go.ChangeShapes Go.WideShapes Go.ChangeAt Go.RowKit
set_option linter.unusedVariables false

open Go.ChangeShapes Go.WideShapes Go.ChangeAt Go.RowKit
set_option linter.unusedVariables false

theorem chartM_size (mk : MK) (t cuts : List (List Int)) : (chartM mk t cuts).1.size ≤ 240 := by
  unfold chartM
  split
  · exact Nat.zero_le _
  · split
    · exact Nat.zero_le _
    · rename_i h; show (chartV mk t cuts).size ≤ 240; omega

set_option maxRecDepth 20000 in
set_option maxHeartbeats 1000000 in
theorem l27Draw_c (w : World) (g : Nat) (h : Src g w) : Calls Tryz.prog 38 #[.pointer (some ⟨g, 0, none⟩)] w (DrawR g w (StrD 300)) := by
  have hcall := l21Draw_c w g h
  have hlt := h.lt
  have HN := Lib.hid (fun (w' : World) (h : Src g w') (n : Int) (hn : I64 n) => l01Next_c w' g h n hn)
  have HDm := Lib.hid (fun (w' : World) (h : Src g w') (t : ByteArray) (ht : t.size ≤ 240) => l01Damage_c w' g h t (by omega))
  clear h
  go_enter Tryz.func38, Tryz.ntmps38
  go_wp2_with fail
  refine Calls.mono hcall ?_
  rintro e w2 ⟨_, rfl, ⟨mk, v, t, u, cuts, rfl, q1, ht, q2, q3, hc, q4⟩, hd2⟩
  clear hcall
  have HCh := Lib.hid (fun (w' : World) (e : Ext w2 w') => ChartTextSpec_c w' mk v _ t (stable_rows.ext ht e) u _ cuts (stable_rows.ext hc e))
  obtain ⟨a, n, k, rfl, -⟩ := SliceR.shape ht
  obtain ⟨a2, n2, k2, rfl, -⟩ := SliceR.shape hc
  clear q1 q2 q3 q4 ht hc
  have hcs := chartM_size mk t cuts
  unfold StrCode at HCh
  generalize (chartM mk t cuts).1 = tx at *
  generalize (chartM mk t cuts).2 = cd at *
  unfold sysV at *
  go_wp2_with fail
  refine Calls.mono (HCh.out _ (Ext.alloc _ _)) ?_
  rintro e w3 hr
  obtain ⟨r, rfl, rfl, e3⟩ := ret_ext hr
  clear hr HCh
  have d3 : Dr g w w3 := (hd2.alloc _).below e3
  clear hd2 e3
  go_wp2_with fail
  refine Calls.mono (HN.out w3 d3.src 6 (by unfold I64; omega)) ?_
  rintro e w4 ⟨_, rfl, ⟨y, rfl, hy0, hy1⟩, d4⟩
  have d34 := d3.trans d4
  obtain ⟨m, rfl⟩ := Int.eq_ofNat_of_zero_le hy0
  clear d3 d4 hy0
  by_cases hm0 : m = 0
  · subst hm0
    have hz : ((0 : Nat) : Int) = 0 := rfl
    rw [hz]
    have HD2 := Lib.hid (HDm.out w4 d34.src tx hcs)
    clear HDm hy1
    go_wp2_with fail
    refine Calls.mono HD2.out ?_
    rintro e w5 ⟨_, rfl, ⟨s5, rfl, hs5⟩, d5⟩
    go_wp2_with fail
    go_ret
    exact ⟨_, rfl, ⟨s5, rfl, by omega⟩, d34.trans d5⟩
  · have hb0 : ((m : Int) == 0) = false := by rw [beq_eq_false_iff_ne]; omega
    by_cases hm1 : m = 1
    · subst hm1
      have hz : ((1 : Nat) : Int) = 1 := rfl
      rw [hz]
      clear hy1 hm0 HDm
      go_wp2_with fail
      refine Calls.mono (HN.out w4 d34.src 6 (by unfold I64; omega)) ?_
      rintro e w5 ⟨_, rfl, ⟨x, rfl, hx0, hx1⟩, d5⟩
      have d35 := d34.trans d5
      clear d34 d5
      by_cases hx : x = 0
      · subst hx
        clear hx0 hx1
        go_wp2_with fail
        go_loopw [5] (fun s5 wr => ∃ s : ByteArray, s5 = .string s ∧ s.size ≤ 260 ∧ wr = w5) (fun s5 _ => 300 - (textOf s5).size)
        case atStart => exact ⟨tx, rfl, by omega, rfl⟩
        case round =>
          obtain ⟨s, rfl, hs, rfl⟩ := hrel
          by_cases hle : s.size ≤ 240
          · have hb1 : decide ((s.size : Int) ≤ 240) = true := decide_eq_true (by omega)
            have hb2 : decide (s.size ≤ 240) = true := decide_eq_true hle
            have hsz : ¬ (9223372036854775807 < s.size + 11) := by omega
            have HZ : Hid ((s ++ (⟨#[100, 111, 111, 114, 32, 49, 32, 48, 43, 49, 10]⟩ : ByteArray)).size = s.size + 11) := by show _ = _; rw [ByteArray.size_append]; rfl
            have Hle := Lib.hid hle
            clear hle
            go_wp2_with fail
            go_roundw
            case measure => (show 300 - (s ++ (⟨#[100, 111, 111, 114, 32, 49, 32, 48, 43, 49, 10]⟩ : ByteArray)).size < 300 - s.size; rw [HZ.out]; omega)
            case rel => exact ⟨_, rfl, by rw [HZ.out]; have := Hle.out; omega, by first | trivial | rfl⟩
          · have hb1 : decide ((s.size : Int) ≤ 240) = false := decide_eq_false (by omega)
            have hb2 : decide (s.size ≤ 240) = false := decide_eq_false hle
            have hgt : 241 ≤ s.size := by omega
            clear hle
            go_wp2_with fail
            refine Calls.mono (HN.out wr d35.src 2 (by unfold I64; omega)) ?_
            rintro e w6 ⟨_, rfl, ⟨z, rfl, hz0, hz1⟩, d6⟩
            have hzz : z = 0 ∨ z = 1 := by omega
            have HE : Hid (∀ j, j ≤ s.size → (s.extract 0 j).size = j) := fun j hj => by have := extract_le s 0 j hj (Nat.zero_le _); omega
            clear hz0 hz1
            rcases hzz with rfl | rfl
            · go_wp2_with fail
              go_ret
              exact ⟨_, rfl, ⟨_, rfl, by first | (rw [HE.out 240 (by omega)]; omega) | (simp; omega)⟩, d35.trans d6⟩
            · go_wp2_with fail
              go_ret
              exact ⟨_, rfl, ⟨_, rfl, by first | (rw [HE.out 241 (by omega)]; omega) | (simp; omega)⟩, d35.trans d6⟩
      · have hb1 : (x == 0) = false := by rw [beq_eq_false_iff_ne]; exact hx
        clear hx
        go_wp2_with fail
        go_ret
        exact ⟨_, rfl, ⟨tx, rfl, by omega⟩, d35⟩
    · have hb1 : ((m : Int) == 1) = false := by rw [beq_eq_false_iff_ne]; omega
      clear hm0 hm1 HDm
      go_wp2_with fail
      go_ret
      exact ⟨_, rfl, ⟨tx, rfl, by omega⟩, d34⟩

/-- two texts -/
def StrPairD (v : Value) (_ : World) : Prop := ∃ a b : ByteArray, v = .tuple #[.string a, .string b] ∧ a.size ≤ 1000 ∧ b.size ≤ 1000

open Go.ChangeShapes Go.WideShapes Go.ChangeAt Go.RowKit
set_option linter.unusedVariables false

set_option maxRecDepth 20000 in
set_option maxHeartbeats 1000000 in
theorem DrawChartText_c (w : World) (vb : Value) (zb : Zone) (xs : List Int) (h : BytesR zb w vb xs) : Calls Tryz.prog 14 #[vb] w (Ret w (SysCutsE w)) := by
  have R0 := res_new w 26
  have e0 : Ext w (w.alloc (.cells #[.int .i64 0, .int .i64 0, .int .i64 0, .int .i64 0, .int .i64 0, .slice none 0 0] 26)) := Ext.alloc _ _
  have hsz0 : (w.alloc (.cells #[.int .i64 0, .int .i64 0, .int .i64 0, .int .i64 0, .int .i64 0, .slice none 0 0] 26)).heap.size = w.heap.size + 1 := by simp
  have hcall := l01From_c _ vb zb xs (stable_bytes.ext h e0)
  obtain ⟨ab, nb, kb, rfl, -⟩ := BytesR.shape h
  clear h
  go_enter Tryz.func14, Tryz.ntmps14
  go_wp2_with fail
  generalize w.alloc (.cells #[.int .i64 0, .int .i64 0, .int .i64 0, .int .i64 0, .int .i64 0, .slice none 0 0] 26) = w0 at *
  refine Calls.mono hcall ?_
  rintro e w1 hr
  obtain ⟨_, rfl, ⟨g, hg, rfl, hsrc⟩, e1⟩ := ret_ext hr
  clear hr hcall
  have hwg : w.heap.size ≠ g := by omega
  have hwg' : w.heap.size ≤ g := by omega
  have R1 := R0.ext e1
  have HE1 := Lib.hid (e0.trans e1)
  have hs1 := e1.size
  have hw1 : w.heap.size < w1.heap.size := by omega
  have hcall := l21Draw_c w1 g hsrc
  clear R0 e0 e1 hsz0 hs1 hg hsrc
  go_wp2_with fail
  refine Calls.mono hcall ?_
  rintro e w2 ⟨_, rfl, ⟨mk, v, t, u, cuts, rfl, -, ht, -, -, hc, -⟩, hd2⟩
  clear hcall
  obtain ⟨a, n, k, rfl, -⟩ := SliceR.shape ht
  obtain ⟨a2, n2, k2, rfl, -⟩ := SliceR.shape hc
  have HX := Lib.hid ht
  have HC := Lib.hid hc
  have HD := Lib.hid hd2
  obtain ⟨r0, r1, r2, r3, r4, r5, f0, f1, f2, f3, f4, f5⟩ := R1.dr hd2 hwg
  unfold sysV
  clear ht hc hd2 R1
  go_wp2_with fail
  refine bodyPost_ret (v := .tuple #[.agg #[.int .i64 mk.c, .int .i64 mk.d, .int .i64 mk.s, .int .i64 mk.m, .int .i64 mk.l, .slice a n k], .slice a2 n2 k2]) (by simp [results, Tryz.results14, go_sem, r0, r1, r2, r3, r4, r5]) rfl ⟨_, rfl, ⟨mk, _, t, _, cuts, rfl, rows_put6 HX.out hw1 _ _ _ _ _ _, rows_put6 HC.out hw1 _ _ _ _ _ _⟩, ext_put6 (Below.trans HE1.out (HD.out.back hwg')) (Nat.le_refl _) _ _ _ _ _ _⟩

set_option maxRecDepth 20000 in
theorem DrawReadChart_c (w : World) (vb : Value) (zb : Zone) (xs : List Int) (h : BytesR zb w vb xs) : Calls Tryz.prog 17 #[vb] w (Ret w fun r w' => StrD 300 r w') := by
  have hcall := l01From_c w vb zb xs h
  have HL := Lib.hid (fun (w' : World) (g : Nat) (h : Src g w') => l27Draw_c w' g h)
  obtain ⟨ab, nb, kb, rfl, -⟩ := BytesR.shape h
  clear h
  go_enter Tryz.func17, Tryz.ntmps17
  go_wp2_with fail
  refine Calls.mono hcall ?_
  rintro e w1 hr
  obtain ⟨_, rfl, ⟨g, hg, rfl, hsrc⟩, e1⟩ := ret_ext hr
  clear hr hcall
  go_wp2_with fail
  refine Calls.mono (HL.out w1 g hsrc) ?_
  rintro e w2 ⟨_, rfl, ⟨a, rfl, ha⟩, d2⟩
  go_wp2_with fail
  go_ret
  exact ⟨_, rfl, ⟨a, rfl, ha⟩, Ext.to' (a := w) e1 (d2.back hg)⟩
end Go.Proofs.YtkeikjedbfomnaaGreatDoor
