/- Proved: for every text, laws.FnExactReadChart returns true and changes nothing that was there; the listed variables of the library start as the program's text lays them. -/
import Derived.Test.YtkeikjedbfomnaaGreatDoorRows
import Derived.Deep.RegionLaw
import Derived.Deep.RegionHeld3
import Derived.Deep.Cut
import Derived.ChangeMaps5
import Derived.LaidMore
import Derived.LaidSub
import Derived.Lay
import Derived.Lib.LaidTab
import Derived.Stop.LaidErr
import Derived.MakeChecks
import Derived.SevenTiedAt
import Derived.Deep.DeepHandedRow
import Derived.Test.YtkeikjedbfomnaaGreatDoorCards
import Derived.Test.YtkeikjedbfomnaaGreatDoorTie
import Derived.Test.YtkeikjedbfomnaaGreatDoorUPkL
import Derived.Test.YtkeikjedbfomnaaGreatDoorUOwnMark
import Derived.Test.YtkeikjedbfomnaaGreatDoorUReadI
import Derived.Test.YtkeikjedbfomnaaGreatDoorUReadS
namespace Go.Proofs.YtkeikjedbfomnaaGreatDoor
open Go.ChangeShapes Go.WideShapes Go.ChangeAt Go.RowKit
set_option linter.unusedVariables false
namespace fnExactReadChart

theorem gTab : Tryz.prog.globalNamed "internal/strconv.uint64pow10" = some 5 := by kernel_rfl
theorem gTabType : (Tryz.prog.globals[5]?).map (·.type) = some 212 := by kernel_rfl
theorem cellsTab : Tryz.prog.cellsOf 212 = 20 := by kernel_rfl
theorem cellsOne : Tryz.prog.cellsOf 173 = 1 := by kernel_rfl
theorem rowTab : Rows.fnExactReadChartRow.laid.filter (fun x => x.1 == "internal/strconv.uint64pow10") = [("internal/strconv.uint64pow10", Lib.tabData .u64 Lib.pow10Tab)] := by kernel_rfl
theorem pow10_of {W : World} (h : laidMetH Tryz.prog Rows.fnExactReadChartRow.laid W) : Pow10 W := by
  have h' := laidMetH.filter (fun x => x.1 == "internal/strconv.uint64pow10") h
  rw [rowTab] at h'
  exact Lib.tabIs_of_head (rest := []) gTab gTabType Tryz.underlying212 Tryz.underlying173 cellsOne cellsTab h'
theorem star : "*" ++ "errors.errorString" = "*errors.errorString" := by decide
theorem rowE (u : TypeId) (h : Tryz.prog.typeName? 3 u = some "*errors.errorString") : u = 216 :=
  typeName_ptr_named (nm := "errors.errorString") (by rw [star]; kernel_rfl) (by kernel_rfl) (by decide) u (by rw [star]; exact h)
theorem cellsE : Tryz.prog.cellsOf 218 = 1 := by kernel_rfl
theorem cellsS : Tryz.prog.cellsOf 9 = 1 := by kernel_rfl

theorem gSyn : Tryz.prog.globalNamed "strconv.ErrSyntax" = some 3 := by kernel_rfl
theorem gSynType : (Tryz.prog.globals[3]?).map (·.type) = some 107 := by kernel_rfl
theorem rowSyn : Rows.fnExactReadChartRow.laid.filter (fun x => x.1 == "strconv.ErrSyntax") = [("strconv.ErrSyntax", .iface "*errors.errorString" (.ptr (.agg [.lit (.string [105, 110, 118, 97, 108, 105, 100, 32, 115, 121, 110, 116, 97, 120])])))] := by kernel_rfl
theorem errSyn_of {W : World} (h : laidMetH Tryz.prog Rows.fnExactReadChartRow.laid W) : ErrVar W "strconv.ErrSyntax" := by
  have h' := laidMetH.filter (fun x => x.1 == "strconv.ErrSyntax") h
  rw [rowSyn, MakeChecks.laidMetH_plain _ _ _ (by kernel_rfl)] at h'
  obtain ⟨a, s, hv, -⟩ := laid_sentinel h' gSyn gSynType Tryz.underlying107 rowE Tryz.underlying216 Tryz.underlying218 rfl rfl Tryz.underlying9 cellsE cellsS
  exact ⟨_, _, hv⟩
theorem gRng : Tryz.prog.globalNamed "strconv.ErrRange" = some 4 := by kernel_rfl
theorem gRngType : (Tryz.prog.globals[4]?).map (·.type) = some 107 := by kernel_rfl
theorem rowRng : Rows.fnExactReadChartRow.laid.filter (fun x => x.1 == "strconv.ErrRange") = [("strconv.ErrRange", .iface "*errors.errorString" (.ptr (.agg [.lit (.string [118, 97, 108, 117, 101, 32, 111, 117, 116, 32, 111, 102, 32, 114, 97, 110, 103, 101])])))] := by kernel_rfl
theorem errRng_of {W : World} (h : laidMetH Tryz.prog Rows.fnExactReadChartRow.laid W) : ErrVar W "strconv.ErrRange" := by
  have h' := laidMetH.filter (fun x => x.1 == "strconv.ErrRange") h
  rw [rowRng, MakeChecks.laidMetH_plain _ _ _ (by kernel_rfl)] at h'
  obtain ⟨a, s, hv, -⟩ := laid_sentinel h' gRng gRngType Tryz.underlying107 rowE Tryz.underlying216 Tryz.underlying218 rfl rfl Tryz.underlying9 cellsE cellsS
  exact ⟨_, _, hv⟩
theorem read_size (s : ByteArray) : (offs (readC s).1.2 (readC s).1.2.length : Int) ≤ 1048576 ∧ (offs (readC s).2.1 (readC s).2.1.length : Int) ≤ 1048576 := by
  unfold readC
  split
  · exact ⟨offs_nil, offs_nil⟩
  · split
    · next hb =>
      have ok := isCh_ok (isChB_is hb)
      have hl := ok.len
      have hq := ok.eq
      refine ⟨offs_small 12 (fun r hr => ?_) (by show (rowsP s).length ≤ 1000; omega) (by omega), offs_small 12 (fun r hr => ?_) (by show (keysP s).length ≤ 1000; omega) (by omega)⟩
      · obtain ⟨j, hj, rfl⟩ := List.getElem_of_mem hr
        replace hj : j < (rowsP s).length := hj
        have h1 := ok.row j hj
        have h2 := ok.doors
        rw [List.getD_eq_getElem?_getD, List.getElem?_eq_getElem hj] at h1
        replace h1 : ((rowsP s)[j]).length = _ := h1
        show ((rowsP s)[j]).length ≤ 12
        omega
      · obtain ⟨j, hj, rfl⟩ := List.getElem_of_mem hr
        replace hj : j < (keysP s).length := hj
        have h1 := ok.rowLen hj
        rw [List.getD_eq_getElem?_getD, List.getElem?_eq_getElem hj] at h1
        replace h1 : ((keysP s)[j]).length ≤ 12 := by
          have : (((some (keysP s)[j] : Option (List Int)).getD [])).length ≤ 12 := by omega
          exact this
        exact h1
    · exact ⟨offs_nil, offs_nil⟩

set_option maxRecDepth 20000 in
set_option maxHeartbeats 1000000 in
theorem walk (w : World) (hsh : w.ShapedOpen Tryz.prog) (hL : laidMetH Tryz.prog Rows.fnExactReadChartRow.laid w) (s : ByteArray) (hs : s.size ≤ maxLen) : Calls Tryz.prog 3 #[.string s] w (Ret w fun r _ => r = .bool true) := by
  have hT := pow10_of hL
  have hPE : ParseErr w := ⟨errSyn_of hL, errRng_of hL⟩
  have hSC := sepCell_of w hsh
  have RI := Lib.hid (fun (w' : World) (e : Ext w w') => ReadChart_c w' (hT.ext e) (hPE.ext e) (hSC.ext e) s hs)
  have RS := Lib.hid (fun (w' : World) => ReadChartSpec_c w' s hs)
  obtain ⟨hz0, hz1⟩ := read_size s
  generalize readC s = q at *
  obtain ⟨⟨mk, t⟩, ⟨cuts, code⟩⟩ := q
  simp only at hz0 hz1
  clear hT hPE hSC hL hsh hs
  by_cases hbig : 1048576 < s.size
  · have hb : decide ((1048576 : Int) < (s.size : Int)) = true := decide_eq_true (by omega)
    clear RI RS
    go_enter Tryz.func3, Tryz.ntmps3
    go_wp2_with fail
    go_ret
    exact ⟨_, rfl, rfl, Ext.refl _⟩
  have hb : decide ((1048576 : Int) < (s.size : Int)) = false := decide_eq_false (by omega)
  have hb2 : decide (1048576 < s.size) = false := decide_eq_false (by omega)
  clear hbig
  obtain ⟨m1, em1⟩ : ∃ x : Int, x = 1 + (offs t t.length : Int) := ⟨_, rfl⟩
  obtain ⟨m2, em2⟩ : ∃ x : Int, x = m1 + (offs cuts cuts.length : Int) := ⟨_, rfl⟩
  have hm1 : decide (m1 < 0) = false := decide_eq_false (by omega)
  have hm2 : decide (m2 < 0) = false := decide_eq_false (by omega)
  have L1 : Hid ((0 : Int) ≤ 1 ∧ 1 + (offs t t.length : Int) ≤ 4611686018427387904) := by constructor <;> omega
  have L2 : Hid (0 ≤ m1 ∧ m1 + (offs cuts cuts.length : Int) ≤ 4611686018427387904) := by constructor <;> omega
  have Em1 := Lib.hid em1
  have Em2 := Lib.hid em2
  clear hz0 hz1 em1 em2
  go_enter Tryz.func3, Tryz.ntmps3
  go_wp2_with fail
  refine Calls.mono (RS.out w) ?_
  rintro e w1 hr
  obtain ⟨_, rfl, ⟨u0, u1, A0, A1, rfl, htw⟩, e1⟩ := ret_ext hr
  simp only at htw
  have hi0 := htw.rows0
  have hi1 := htw.rows1
  obtain ⟨ua, un, uk, rfl, -⟩ := SliceR.shape hi0
  obtain ⟨va, vn, vk, rfl, -⟩ := SliceR.shape hi1
  have Hi0 := Lib.hid hi0
  have Hi1 := Lib.hid hi1
  have X1 := Lib.hid e1
  clear hr htw hi0 hi1 e1 RS
  unfold sysV
  go_upto_region 4 with fail
  generalize hw2 : World.alloc w1 _ = w2
  obtain ⟨e2, S3⟩ := sys_box hw2
  have h12 : w1.heap.size < w2.heap.size := by rw [← hw2]; simp
  obtain ⟨b3, hb3⟩ : ∃ b, w1.heap.size = b := ⟨_, rfl⟩
  rw [hb3] at S3
  simp only [hb3]
  have HZ3 : Hid (w1.heap.size = b3 ∧ w1.heap.size < w2.heap.size) := ⟨hb3, h12⟩
  have HS := Lib.hid S3
  have X2 := Lib.hid (X1.out.trans e2)
  have Y2 := Lib.hid e2
  clear hw2 e2 S3 h12 hb3
  go_wp2_with fail
  refine Calls.mono (RI.out w2 X2.out) ?_
  rintro e w3 hr
  obtain ⟨_, rfl, ⟨g0, g1, B0, B1, rfl, T⟩, e3⟩ := ret_ext hr
  simp only at T
  obtain ⟨ga, gn, gk, rfl, -⟩ := SliceR.shape T.rows0
  obtain ⟨fa, fn, fk, rfl, -⟩ := SliceR.shape T.rows1
  have HT := Lib.hid T
  have X3 := Lib.hid e3
  clear hr T e3
  unfold sysV
  go_upto_region 5 with fail
  generalize hw4 : World.alloc w3 _ = w4
  obtain ⟨e4, S6⟩ := sys_box hw4
  obtain ⟨b6, hb6⟩ : ∃ b, w3.heap.size = b := ⟨_, rfl⟩
  rw [hb6] at S6
  simp only [hb6]
  have P4 : Hid (Past w2.heap.size w3.heap.size w4 w4) := Past.refl _ _ _
  have HR0 : Hid (∀ w', Past w2.heap.size w3.heap.size w4 w' → RowsR ⟨w.heap.size, w1.heap.size, true⟩ w' (.slice ua un uk) t) := fun w' q => q.rows (stable_rows.ext Hi0.out (Y2.out.trans (X3.out.trans e4))) (by have := HZ3.out.2; show w1.heap.size ≤ _; omega)
  have HR1 : Hid (∀ w', Past w2.heap.size w3.heap.size w4 w' → RowsR ⟨w.heap.size, w1.heap.size, true⟩ w' (.slice va vn vk) cuts) := fun w' q => q.rows (stable_rows.ext Hi1.out (Y2.out.trans (X3.out.trans e4))) (by have := HZ3.out.2; show w1.heap.size ≤ _; omega)
  have HS3 : Hid (∀ w', Past w2.heap.size w3.heap.size w4 w' → SysAt w' b3 mk (.slice ua un uk)) := fun w' q => q.sys (HS.out.ext (X3.out.trans e4)) (by have := HZ3.out; omega)
  have HS6 : Hid (∀ w', Past w2.heap.size w3.heap.size w4 w' → SysAt w' b6 mk (.slice ga gn gk)) := fun w' q => q.sys S6 (by omega)
  have HX : Hid (∀ w', Past w2.heap.size w3.heap.size w4 w' → Ext w w') := fun w' q => q.toExt (X2.out.trans (X3.out.trans e4)) (by have := X2.out.size; omega)
  have T4 := Lib.hid (HT.out.ext e4)
  clear hw4 e4 S6 hb6 HS Hi0 Hi1 X1 X2 Y2 X3 HZ3
  have hcall := eqSystem_c w4 mk _ _ _ _ t T4.out.rows0 (HR0.out w4 P4.out)
  unfold sysV at hcall
  obtain ⟨c0, c1, c2, c3, c4, c5⟩ := HS6.out w4 P4.out
  obtain ⟨d0, d1, d2, d3, d4, d5⟩ := HS3.out w4 P4.out
  go_wp2_with fail
  refine Calls.mono hcall ?_
  rintro e w5 hr
  obtain ⟨_, rfl, rfl, e5⟩ := ret_ext hr
  have P5 := Lib.hid (P4.out.trans (Past.ext e5))
  have T5 := Lib.hid (T4.out.ext e5)
  clear hr e5
  clear hcall c0 c1 c2 c3 c4 c5 d0 d1 d2 d3 d4 d5
  have hcall := Calls.vq (eqInt64SS_c w5 _ _ _ _ cuts cuts T5.out.rows1 (HR1.out w5 P5.out)) (congrArg Value.bool (decide_eq_true rfl))
  go_wp2_with fail
  refine Calls.mono hcall ?_
  rintro e w6 hr
  obtain ⟨rfl, -, e6⟩ := retq_ext hr
  have P6 := Lib.hid (P5.out.trans (Past.ext e6))
  have T6 := Lib.hid (T5.out.ext e6)
  clear hr hcall e6
  have hcall := markSystem_own w6 mk _ B0 _ t 1 T6.out.o0 L1.out.1 L1.out.2
  unfold MarkSysOwn sysV at hcall
  rw [← Em1.out] at hcall
  obtain ⟨c0, c1, c2, c3, c4, c5⟩ := HS6.out w6 P6.out
  go_wp2_with fail
  refine Calls.mono hcall ?_
  rintro e w7 ⟨rfl, M0, wm, em, ho7⟩
  have P7 := Lib.hid (P6.out.trans ((Past.ext em).trans (Past.only ho7 HT.out.l0)))
  have O1 := Lib.hid (OwnA.keepM stable_ints (OwnA.below stable_ints T6.out.o1 em) ho7 (fun k a b => HT.out.d k b a) HT.out.a0)
  have HM := Lib.hid M0
  clear em ho7 M0
  clear hcall c0 c1 c2 c3 c4 c5
  have hcall := markInt64SS_own w7 _ B1 _ cuts m1 O1.out L2.out.1 L2.out.2
  unfold MarksOwn at hcall
  rw [← Em2.out] at hcall
  go_wp2_with fail
  refine Calls.mono hcall ?_
  rintro e w8 ⟨rfl, M1, ho8⟩
  have P8 := Lib.hid (P7.out.trans (Past.only ho8 HT.out.l1))
  have HM0 : Hid (∀ w', Ext w8 w' → RowsR ⟨w2.heap.size, w8.heap.size, true⟩ w' (.slice ga gn gk) (markRows 1 t)) := fun w' e => stable_rows.ext (OwnA.reads (OwnA.keepM stable_ints HM.out ho8 (fun k a b => HT.out.d k a b) HT.out.a1) (fun k hk => (HT.out.l0 k hk).1) (Nat.le_refl _)) e
  have HM1 : Hid (∀ w', Ext w8 w' → RowsR ⟨w2.heap.size, w8.heap.size, true⟩ w' (.slice fa fn fk) (markRows m1 cuts)) := fun w' e => stable_rows.ext (OwnA.reads M1 (fun k hk => (HT.out.l1 k hk).1) (Nat.le_refl _)) e
  have HP : Hid (∀ w', Ext w8 w' → Past w2.heap.size w3.heap.size w4 w') := fun w' e => P8.out.trans (Past.ext e)
  have X8 : Hid (Ext w8 w8) := Ext.refl _
  clear ho8 M1 hcall HM O1 T4 T5 T6 P4 P5 P6 P7 P8
  have hcall := heldSystem_c w8 mk _ _ t 1 (HM0.out w8 X8.out) L1.out.1 L1.out.2
  unfold sysV at hcall
  rw [← Em1.out] at hcall
  obtain ⟨c0, c1, c2, c3, c4, c5⟩ := HS6.out w8 (HP.out w8 X8.out)
  go_wp2_with fail
  refine Calls.mono hcall ?_
  rintro e w9 hr
  obtain ⟨_, rfl, rfl, e9⟩ := ret_ext hr
  have X9 := Lib.hid (X8.out.trans e9)
  clear hr e9
  clear hcall c0 c1 c2 c3 c4 c5
  have hcall := heldInt64SS_c w9 _ _ cuts m1 (HM1.out w9 X9.out) L2.out.1 L2.out.2
  rw [← Em2.out] at hcall
  go_wp2_with fail
  refine Calls.mono hcall ?_
  rintro e w10 hr
  obtain ⟨rfl, -, e10⟩ := retq_ext hr
  have X10 := Lib.hid (X9.out.trans e10)
  clear hr hcall e10
  go_wp2_with fail
  refine Calls.mono (RI.out w10 (HX.out w10 (HP.out w10 X10.out))) ?_
  rintro e w11 hr
  obtain ⟨_, rfl, ⟨h0, h1, C0, C1, rfl, T⟩, e11⟩ := ret_ext hr
  simp only at T
  have hj0 := T.rows0
  have hj1 := T.rows1
  obtain ⟨ha, hn, hk, rfl, -⟩ := SliceR.shape hj0
  obtain ⟨ia, ino, ik, rfl, -⟩ := SliceR.shape hj1
  have HJ0 := Lib.hid hj0
  have HJ1 := Lib.hid hj1
  have X11 := Lib.hid (X10.out.trans e11)
  clear hr T e11 hj0 hj1 RI
  unfold sysV
  go_upto_region 20 with fail
  generalize hw12 : World.alloc w11 _ = w12
  obtain ⟨e12, S9⟩ := sys_box hw12
  obtain ⟨b9, hb9⟩ : ∃ b, w11.heap.size = b := ⟨_, rfl⟩
  rw [hb9] at S9
  simp only [hb9]
  have X12 := Lib.hid (X11.out.trans e12)
  have Y12 := Lib.hid e12
  have HS9 : Hid (∀ w', Ext w12 w' → SysAt w' b9 mk (.slice ha hn hk)) := fun w' e => S9.ext e
  clear hw12 e12 S9 hb9
  have hcall := eqSystem_c w12 mk _ _ _ _ t (stable_rows.ext HJ0.out Y12.out) (HR0.out w12 (HP.out w12 X12.out))
  unfold sysV at hcall
  obtain ⟨c0, c1, c2, c3, c4, c5⟩ := HS9.out w12 (Ext.refl _)
  obtain ⟨d0, d1, d2, d3, d4, d5⟩ := HS3.out w12 (HP.out w12 X12.out)
  go_wp2_with fail
  refine Calls.mono hcall ?_
  rintro e w13 hr
  obtain ⟨_, rfl, rfl, e13⟩ := ret_ext hr
  have X13 := Lib.hid (X12.out.trans e13)
  have Y13 := Lib.hid (Y12.out.trans e13)
  clear hr e13
  clear hcall c0 c1 c2 c3 c4 c5 d0 d1 d2 d3 d4 d5
  have hcall := Calls.vq (eqInt64SS_c w13 _ _ _ _ cuts cuts (stable_rows.ext HJ1.out Y13.out) (HR1.out w13 (HP.out w13 X13.out))) (congrArg Value.bool (decide_eq_true rfl))
  go_wp2_with fail
  refine Calls.mono hcall ?_
  rintro e w14 hr
  obtain ⟨rfl, -, e14⟩ := retq_ext hr
  have X14 := Lib.hid (X13.out.trans e14)
  clear hr hcall e14
  have hcall := heldSystem_c w14 mk _ _ t 1 (HM0.out w14 X14.out) L1.out.1 L1.out.2
  unfold sysV at hcall
  rw [← Em1.out] at hcall
  obtain ⟨c0, c1, c2, c3, c4, c5⟩ := HS6.out w14 (HP.out w14 X14.out)
  go_wp2_with fail
  refine Calls.mono hcall ?_
  rintro e w15 hr
  obtain ⟨_, rfl, rfl, e9⟩ := ret_ext hr
  have X15 := Lib.hid (X14.out.trans e9)
  clear hr e9
  clear hcall c0 c1 c2 c3 c4 c5
  have hcall := heldInt64SS_c w15 _ _ cuts m1 (HM1.out w15 X15.out) L2.out.1 L2.out.2
  rw [← Em2.out] at hcall
  go_wp2_with fail
  refine Calls.mono hcall ?_
  rintro e w16 hr
  obtain ⟨rfl, -, e10⟩ := retq_ext hr
  have X16 := Lib.hid (X15.out.trans e10)
  clear hr hcall e10
  go_wp2_with fail
  go_ret
  exact ⟨_, rfl, rfl, HX.out w16 (HP.out w16 X16.out)⟩


/-! ### the row -/
theorem own : ownKnob Tryz.prog.godebug = none := by kernel_rfl
theorem laidOut : laidOutB Tryz.prog = true := by kernel_rfl
set_option maxRecDepth 100000 in
theorem lifted (os : Os) (started : os.Started) (H : Type) (enc : TypeId × Value → H) (F : Stop.Interp) :
    ReturnsInHanded {} Tryz.checked os 3 .any ((OpenSpec.ofChange Rows.fnExactReadChartSpec).preRow enc Tryz.prog Tryz.f3 Rows.fnExactReadChartRow.domain false Rows.fnExactReadChartRow.laid)
      (((OpenSpec.ofChange Rows.fnExactReadChartSpec).at F).post enc Tryz.prog Tryz.f3 false true false false) := by
  refine returnsInHanded_of_row (C := Tryz.checked) (s := OpenSpec.ofChange Rows.fnExactReadChartSpec) own started (by kernel_rfl) Tryz.func3
    (ChangeSpec.witness_shaped (s := Rows.fnExactReadChartSpec) (enc := enc) (C := Tryz.checked) (os := os) (X := fun w _ => laidMetH Tryz.prog Rows.fnExactReadChartRow.laid w) false (World.laidAll Tryz.prog os Rows.fnExactReadChartRow.laid) #[.string ByteArray.empty] 8 (World.laidAll_os _ _ _)
      (World.shaped_of_ZipB (by kernel_rfl) (by kernel_rfl)) (by kernel_rfl) (by kernel_rfl) (by kernel_rfl)
      (by rw [MakeChecks.laidMetH_plain _ _ _ (by kernel_rfl)]; exact laidMet_laidAll _ (by kernel_rfl) (by kernel_rfl))) ?_
  intro W base args ds gs before hval0 hW hcnd _ _ hL hshape _
  have hval : ∀ (j : Nat) t v, Tryz.f3.params[j]? = some t → args[j]? = some v → Value.okWide Tryz.prog W .any base t v := hval0
  have hW' := hW
  obtain ⟨p, q, hA0, hV, rfl, hfz, hnd⟩ := hW
  have hA : DataW.TrodAll enc Tryz.prog W 0 (fun _ => true) true Tryz.f3.params.toList args.toList ds p := hA0
  rw [Tryz.params3] at hA hval
  obtain ⟨v0, vs0, d0, ds0, p0, q0, hargs, rfl, rfl, h0, r0⟩ := trodAll_cons hA
  obtain ⟨rfl, rfl, rfl⟩ := trodAll_nil r0
  obtain rfl : args = #[v0] := by cases args; simp_all
  obtain ⟨rfl, rfl⟩ := trodVars_none hV
  have k0 := h0
  have lt0 : ∀ x ∈ p0, x.block < W.heap.size := by obtain ⟨m, hm⟩ := k0; exact DataW.trod_lt m _ _ _ hm
  obtain ⟨a0, rfl, -, -, w0⟩ := Go.ChangeMaps.open_string Tryz.underlying9 (hval 0 9 v0 rfl rfl) h0
  clear hA0 hval0
  refine (walk W hshape hL a0 w0).mono fun e W' hret => ?_
  obtain ⟨r, rfl, rfl, bel⟩ := hret
  exact ⟨_, rfl, _, _, _, [], _, [], hW', trodAll_mk1 (shut_bool Tryz.underlying4 _), (trodAll_cons_mk (Below.trod laidOut (by kernel_rfl) (of_decide_eq_true (by kernel_rfl)) k0 bel lt0) trodAll_mk0), rfl, bel.frame _, fun h => by cases h⟩

theorem over : Rows.fnExactReadChartRow.holds Tryz.pinned (OpenSpec.ofChange Rows.fnExactReadChartSpec) :=
  OpenClaim.holds_of_cond 3 Tryz.f3 rfl rfl rfl rfl rfl rfl rfl ⟨rfl, rfl, rfl, rfl, rfl⟩ rfl rfl rfl rfl rfl (by kernel_rfl) Tryz.func3 (by kernel_rfl)
    (of_decide_eq_true (by kernel_rfl)) (by unfold Func.isWrapper; first | (rw [if_pos (by decide +kernel)]; kernel_rfl) | (rw [if_neg (by decide +kernel)]; exact ⟨rfl, rfl⟩))
    (fun os started H enc _ F => by rw [OpenClaim.pre_eq_preRow]; exact lifted os started H enc F)

theorem proved : Rows.FnExactReadChartCardSaid :=
  Claim7.holds_tied_plain_at .later [] _ _ _ _ over (fun _ h => by cases h) (by kernel_rfl) (fun _ h => by cases h) fnExactReadChart_row_tie rfl ⟨rfl, rfl⟩ (by kernel_rfl) rfl
    (fun f fn hf hfn => by
      obtain rfl : f = 3 := Option.some.inj ((show Tryz.prog.funcNamed Rows.fnExactReadChartRow.func = some 3 by kernel_rfl).symm.trans hf) |>.symm
      obtain rfl : fn = Tryz.f3 := (Option.some.inj (Tryz.func3.symm.trans hfn)).symm
      exact ⟨by kernel_rfl, fun j t ht => by
        rw [Tryz.params3] at ht
        have hm : t ∈ [9] := by simpa using Array.mem_of_getElem? ht
        have hall : ([9].all fun u => !Tryz.prog.wantsStandIn u) = true := by kernel_rfl
        exact (show Tryz.prog.wantsStandIn t = false by simpa using List.all_eq_true.1 hall t hm)⟩)
    (by kernel_rfl)

end fnExactReadChart
end Go.Proofs.YtkeikjedbfomnaaGreatDoor
