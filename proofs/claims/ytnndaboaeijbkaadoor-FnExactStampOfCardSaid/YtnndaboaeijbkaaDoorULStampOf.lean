/- Proved: for every maker, list of cuts, series and secret, laws.FnExactStampOf returns true and changes nothing that was there; the listed tables of the library start as the program's text lays them. -/
import Derived.Test.YtnndaboaeijbkaaDoorRows
import Derived.ChangeMaps5
import Derived.LaidMore
import Derived.LaidSub
import Derived.Lay
import Derived.Lib.LaidTab
import Derived.SevenTiedAt
import Derived.Deep.DeepHandedRow
import Derived.Test.YtnndaboaeijbkaaDoorCards
import Derived.Test.YtnndaboaeijbkaaDoorTie
import Derived.Test.YtnndaboaeijbkaaDoorUPkW
import Derived.Test.YtnndaboaeijbkaaDoorUPkRk
namespace Go.Proofs.YtnndaboaeijbkaaDoor
open Go.ChangeShapes Go.WideShapes Go.ChangeAt Go.RowKit
set_option linter.unusedVariables false
namespace fnExactStampOf

theorem gTab : Tryd.prog.globalNamed "internal/strconv.uint64pow10" = some 0 := by kernel_rfl
theorem gTabType : (Tryd.prog.globals[0]?).map (·.type) = some 102 := by kernel_rfl
theorem cellsTab : Tryd.prog.cellsOf 102 = 20 := by kernel_rfl
theorem cellsOne : Tryd.prog.cellsOf 88 = 1 := by kernel_rfl
theorem rowTab : Rows.fnExactStampOfRow.laid.filter (fun x => x.1 == "internal/strconv.uint64pow10") = [("internal/strconv.uint64pow10", Lib.tabData .u64 Lib.pow10Tab)] := by kernel_rfl
theorem pow10_of {W : World} (h : laidMetH Tryd.prog Rows.fnExactStampOfRow.laid W) : Pow10 W := by
  have h' := laidMetH.filter (fun x => x.1 == "internal/strconv.uint64pow10") h
  rw [rowTab] at h'
  exact Lib.tabIs_of_head (rest := []) gTab gTabType Tryd.underlying102 Tryd.underlying88 cellsOne cellsTab h'

set_option maxRecDepth 20000 in
set_option maxHeartbeats 2000000 in
theorem walk (w : World) (_ : w.ShapedOpen Tryd.prog) (hL : laidMetH Tryd.prog Rows.fnExactStampOfRow.laid w) (mk : MK) (v : Value) (key : List Int) (hk : IntsR (.old w) w v key) (ser : Int) (hser : I64 ser) (sec : Int) (hsec : I64 sec) :
    Calls Tryd.prog 6 #[mk.v, v, .int .i64 ser, .int .i64 sec] w (Ret w fun r _ => r = .bool true) := by
  have hT := pow10_of hL
  have CM := Lib.hid (fun (w' : World) => toMaker_c w' mk)
  have CT := Lib.hid (fun (hs : key.length ≤ 1048576) (w' : World) (e : Ext w w') => toInt64S_c w' v (.old w) key (stable_ints.ext hk e) hs)
  have CS := Lib.hid (fun (w' : World) (u : Value) (z : Zone) (g : IntsR z w' u key) => StampOfSpec_c w' mk u z key g ser sec)
  have CI := Lib.hid (fun (w' : World) (e : Ext w w') (u : Value) (z : Zone) (g : IntsR z w' u key) => StampOf_c w' (hT.ext e) mk u z key g ser sec)
  have CE := Lib.hid (fun (w' : World) (u1 u2 : Value) (z1 z2 : Zone) (g1 : IntsR z1 w' u1 key) (g2 : IntsR z2 w' u2 key) => eqInt64S_c w' u1 u2 z1 z2 key key g1 g2)
  have hdt : decide (key = key) = true := decide_eq_true rfl
  rw [hdt] at CE
  have HW : ∃ (b : ByteArray) (q : Int), stampOfM mk key ser sec = .tuple #[.string b, .int .i64 q] := by
    unfold stampOfM
    split
    · exact ⟨_, _, rfl⟩
    · split
      · exact ⟨_, _, rfl⟩
      · exact ⟨_, _, rfl⟩
  obtain ⟨b, q, hw⟩ := HW
  rw [hw] at CS CI
  obtain ⟨a, n, cap, rfl, hn, -⟩ := SliceR.shape hk
  clear hw hT hL hdt hser hsec hk
  obtain ⟨c, d, st, m, l⟩ := mk
  unfold MK.v at *
  simp only at CM CS CI ⊢
  by_cases hbig : 1048576 < n
  · have hb : decide ((1048576 : Int) < (n : Int)) = true := decide_eq_true (by omega)
    clear CM CS CI CT CE hn
    go_enter Tryd.func6, Tryd.ntmps6
    go_wp2_with fail
    go_ret
    exact ⟨_, rfl, rfl, Ext.alloc _ _⟩
  · have hb : decide ((1048576 : Int) < (n : Int)) = false := decide_eq_false (by omega)
    have hb2 : decide (1048576 < n) = false := decide_eq_false (by omega)
    have CT2 := Lib.hid (CT.out (by omega))
    clear CT hn
    go_enter Tryd.func6, Tryd.ntmps6
    go_wp2_with fail
    generalize hw2 : World.alloc w _ = w1
    obtain ⟨e1, S1⟩ := mk_box (mk := ⟨c, d, st, m, l⟩) hw2
    clear hw2
    have HS := Lib.hid S1
    obtain ⟨c0, c1, c2, c3, c4⟩ := S1
    go_wp2_with fail
    refine Calls.mono (CM.out w1) ?_
    rintro e w2 hr
    obtain ⟨r, rfl, rfl, e2⟩ := ret_ext hr
    clear hr c0 c1 c2 c3 c4
    have et2 := e1.trans e2
    go_wp2_with fail
    refine Calls.mono (CT2.out w2 et2) ?_
    rintro e w3 hr
    obtain ⟨r3, rfl, i3, e3⟩ := ret_ext hr
    clear hr
    have I3 := Lib.hid i3
    obtain ⟨a3, n3, k3, rfl, -⟩ := SliceR.shape i3
    clear i3
    have et3 := et2.trans e3
    go_wp2_with fail
    refine Calls.mono (CS.out w3 _ _ I3.out) ?_
    rintro e w4 hr
    obtain ⟨r, rfl, rfl, e4⟩ := ret_ext hr
    clear hr
    have et4 := et3.trans e4
    go_wp2_with fail
    refine Calls.mono (CT2.out w4 et4) ?_
    rintro e w5 hr
    obtain ⟨r5, rfl, i5, e5⟩ := ret_ext hr
    clear hr
    have I5 := Lib.hid i5
    obtain ⟨a5, n5, k5, rfl, -⟩ := SliceR.shape i5
    clear i5
    have et5 := et4.trans e5
    obtain ⟨c0, c1, c2, c3, c4⟩ := HS.out.ext (((e2.trans e3).trans e4).trans e5)
    go_wp2_with fail
    refine Calls.mono (CM.out w5) ?_
    rintro e w6 hr
    obtain ⟨r, rfl, rfl, e6⟩ := ret_ext hr
    clear hr c0 c1 c2 c3 c4
    have et6 := et5.trans e6
    go_wp2_with fail
    refine Calls.mono (CI.out w6 et6 _ _ (stable_ints.ext I5.out e6)) ?_
    rintro e w7 hr
    obtain ⟨r, rfl, rfl, e7⟩ := ret_ext hr
    clear hr
    have et7 := et6.trans e7
    have I7 := Lib.hid (stable_ints.ext (stable_ints.ext I5.out e6) e7)
    go_wp2_with fail
    refine Calls.mono (CT2.out w7 et7) ?_
    rintro e w8 hr
    obtain ⟨r8, rfl, i8, e8⟩ := ret_ext hr
    clear hr
    have I8 := Lib.hid i8
    obtain ⟨a8, n8, k8, rfl, -⟩ := SliceR.shape i8
    clear i8
    have et8 := et7.trans e8
    go_wp2_with fail
    refine Calls.mono (CE.out w8 _ _ _ _ (stable_ints.ext I7.out e8) I8.out) ?_
    rintro e w9 hr
    obtain ⟨rfl, hd9, e9⟩ := retq_ext hr
    clear hr
    have HE := Lib.hid (et8.trans e9)
    go_wp2_with fail
    go_ret
    exact ⟨_, rfl, rfl, HE.out⟩

/-! ### the row -/
theorem own : ownKnob Tryd.prog.godebug = none := by kernel_rfl
theorem laidOut : laidOutB Tryd.prog = true := by kernel_rfl
set_option maxRecDepth 100000 in
theorem lifted (os : Os) (started : os.Started) (H : Type) (enc : TypeId × Value → H) (F : Stop.Interp) :
    ReturnsInHanded {} Tryd.checked os 6 .any ((OpenSpec.ofChange Rows.fnExactStampOfSpec).preRow enc Tryd.prog Tryd.f6 Rows.fnExactStampOfRow.domain false Rows.fnExactStampOfRow.laid)
      (((OpenSpec.ofChange Rows.fnExactStampOfSpec).at F).post enc Tryd.prog Tryd.f6 false true false false) := by
  refine returnsInHanded_of_row (C := Tryd.checked) (s := OpenSpec.ofChange Rows.fnExactStampOfSpec) own started (by kernel_rfl) Tryd.func6
    (ChangeSpec.witness_shaped (s := Rows.fnExactStampOfSpec) (enc := enc) (C := Tryd.checked) (os := os) (X := fun w _ => laidMetH Tryd.prog Rows.fnExactStampOfRow.laid w) false (World.laidAll Tryd.prog os Rows.fnExactStampOfRow.laid) #[.agg #[.int .i64 0, .int .i64 0, .int .i64 0, .int .i64 0, .int .i64 0], .slice none 0 0, .int .i64 0, .int .i64 0] 8 (World.laidAll_os _ _ _)
      (World.shaped_of_ZipB (by kernel_rfl) (by kernel_rfl)) (by kernel_rfl) (by kernel_rfl) (by kernel_rfl)
      (by rw [MakeChecks.laidMetH_plain _ _ _ (by kernel_rfl)]; exact laidMet_laidAll _ (by kernel_rfl) (by kernel_rfl))) ?_
  intro W base args ds gs before hval0 hW hcnd _ _ hL hshape _
  have hval : ∀ (j : Nat) t v, Tryd.f6.params[j]? = some t → args[j]? = some v → Value.okWide Tryd.prog W .any base t v := hval0
  have hW' := hW
  obtain ⟨p, q, hA0, hV, rfl, hfz, hnd⟩ := hW
  have hA : DataW.TrodAll enc Tryd.prog W 0 (fun _ => true) true Tryd.f6.params.toList args.toList ds p := hA0
  rw [Tryd.params6] at hA hval
  obtain ⟨v0, vs0, d0, ds0, p0, q0, hargs, rfl, rfl, h0, r0⟩ := trodAll_cons hA
  obtain ⟨v1, vs1, d1, ds1, p1, q1, rfl, rfl, rfl, h1, r1⟩ := trodAll_cons r0
  obtain ⟨v2, vs2, d2, ds2, p2, q2, rfl, rfl, rfl, h2, r2⟩ := trodAll_cons r1
  obtain ⟨v3, vs3, d3, ds3, p3, q3, rfl, rfl, rfl, h3, r3⟩ := trodAll_cons r2
  obtain ⟨rfl, rfl, rfl⟩ := trodAll_nil r3
  obtain rfl : args = #[v0, v1, v2, v3] := by cases args; simp_all
  obtain ⟨rfl, rfl⟩ := trodVars_none hV
  have k0 := h0
  have lt0 : ∀ x ∈ p0, x.block < W.heap.size := by obtain ⟨m, hm⟩ := k0; exact DataW.trod_lt m _ _ _ hm
  obtain ⟨M0, rfl, w0⟩ := open_mk Tryd.underlying23 (by kernel_rfl) ⟨rfl, by kernel_rfl, Tryd.underlying2⟩ ⟨rfl, by kernel_rfl, Tryd.underlying2⟩ ⟨rfl, by kernel_rfl, Tryd.underlying2⟩ ⟨rfl, by kernel_rfl, Tryd.underlying2⟩ ⟨rfl, by kernel_rfl, Tryd.underlying2⟩ (hval 0 23 v0 rfl rfl) h0
  have k1 := h1
  have lt1 : ∀ x ∈ p1, x.block < W.heap.size := by obtain ⟨m, hm⟩ := k1; exact DataW.trod_lt m _ _ _ hm
  obtain ⟨a1, len1, cap1, rfl⟩ := okWide_slice Tryd.underlying28 (hval 1 28 v1 rfl rfl)
  obtain ⟨x1, w1⟩ : ∃ xs, IntsR (.old W) W (.slice a1 len1 cap1) xs := by obtain ⟨fuel, hf⟩ := h1; exact open_IntsR Tryd.underlying28 Tryd.underlying2 (by kernel_rfl) hf
  have k2 := h2
  have lt2 : ∀ x ∈ p2, x.block < W.heap.size := by obtain ⟨m, hm⟩ := k2; exact DataW.trod_lt m _ _ _ hm
  obtain ⟨a2, rfl, -, -, g2⟩ := open_int Tryd.underlying2 (hval 2 2 v2 rfl rfl) h2
  have w2 := wf_i64 g2
  have k3 := h3
  have lt3 : ∀ x ∈ p3, x.block < W.heap.size := by obtain ⟨m, hm⟩ := k3; exact DataW.trod_lt m _ _ _ hm
  obtain ⟨a3, rfl, -, -, g3⟩ := open_int Tryd.underlying2 (hval 3 2 v3 rfl rfl) h3
  have w3 := wf_i64 g3
  clear hA0 hval0
  refine (walk W hshape hL M0 _ x1 w1 a2 w2 a3 w3).mono fun e W' hret => ?_
  obtain ⟨r, rfl, rfl, bel⟩ := hret
  exact ⟨_, rfl, _, _, _, [], _, [], hW', trodAll_mk1 (shut_bool Tryd.underlying4 _), (trodAll_cons_mk (Below.trod laidOut (by kernel_rfl) (of_decide_eq_true (by kernel_rfl)) k0 bel lt0) (trodAll_cons_mk (Below.trod laidOut (by kernel_rfl) (of_decide_eq_true (by kernel_rfl)) k1 bel lt1) (trodAll_cons_mk (Below.trod laidOut (by kernel_rfl) (of_decide_eq_true (by kernel_rfl)) k2 bel lt2) (trodAll_cons_mk (Below.trod laidOut (by kernel_rfl) (of_decide_eq_true (by kernel_rfl)) k3 bel lt3) trodAll_mk0)))), rfl, bel.frame _, fun h => by cases h⟩

theorem over : Rows.fnExactStampOfRow.holds Tryd.pinned (OpenSpec.ofChange Rows.fnExactStampOfSpec) :=
  OpenClaim.holds_of_cond 6 Tryd.f6 rfl rfl rfl rfl rfl rfl rfl ⟨rfl, rfl, rfl, rfl, rfl⟩ rfl rfl rfl rfl rfl (by kernel_rfl) Tryd.func6 (by kernel_rfl)
    (of_decide_eq_true (by kernel_rfl)) (by unfold Func.isWrapper; first | (rw [if_pos (by decide +kernel)]; kernel_rfl) | (rw [if_neg (by decide +kernel)]; exact ⟨rfl, rfl⟩))
    (fun os started H enc _ F => by rw [OpenClaim.pre_eq_preRow]; exact lifted os started H enc F)

theorem proved : Rows.FnExactStampOfCardSaid :=
  Claim7.holds_tied_plain_at .later [] _ _ _ _ over (fun _ h => by cases h) (by kernel_rfl) (fun _ h => by cases h) fnExactStampOf_row_tie rfl ⟨rfl, rfl⟩ (by kernel_rfl) rfl
    (fun f fn hf hfn => by
      obtain rfl : f = 6 := Option.some.inj ((show Tryd.prog.funcNamed Rows.fnExactStampOfRow.func = some 6 by kernel_rfl).symm.trans hf) |>.symm
      obtain rfl : fn = Tryd.f6 := (Option.some.inj (Tryd.func6.symm.trans hfn)).symm
      exact ⟨by kernel_rfl, fun j t ht => by
        rw [Tryd.params6] at ht
        have hm : t ∈ [23, 28, 2, 2] := by simpa using Array.mem_of_getElem? ht
        have hall : ([23, 28, 2, 2].all fun u => !Tryd.prog.wantsStandIn u) = true := by kernel_rfl
        exact (show Tryd.prog.wantsStandIn t = false by simpa using List.all_eq_true.1 hall t hm)⟩)
    (by kernel_rfl)

end fnExactStampOf
end Go.Proofs.YtnndaboaeijbkaaDoor
