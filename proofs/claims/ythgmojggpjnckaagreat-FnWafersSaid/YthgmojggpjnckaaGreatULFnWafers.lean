/- Proved: for every code, laws.FnWafers returns true and changes nothing that was there; no condition. -/
import Derived.Test.YthgmojggpjnckaaGreatRows
import Derived.Deep.RegionLaw
import Derived.Deep.RegionHeld3
import Derived.Test.YthgmojggpjnckaaGreatUPkL
import Derived.Test.YthgmojggpjnckaaGreatUDrawWaf
import Derived.Test.YthgmojggpjnckaaGreatUWafFacts
import Derived.Test.YthgmojggpjnckaaGreatUPkWg
import Derived.Test.YthgmojggpjnckaaGreatUPkLg
import Derived.Test.YthgmojggpjnckaaGreatUPkBx
import Derived.Test.YthgmojggpjnckaaGreatUPkWa
import Derived.Test.YthgmojggpjnckaaGreatUBig
namespace Go.Proofs.YthgmojggpjnckaaGreat
open Go.ChangeShapes Go.WideShapes Go.ChangeAt Go.RowKit
set_option linter.unusedVariables false
namespace fnWafers

set_option maxRecDepth 20000 in
set_option maxHeartbeats 8000000 in
theorem walk (w : World) (v : Value) (x : List Int) (h : BytesR (.old w) w v x) : Calls Tryz.prog 3 #[v] w (Ret w fun r _ => r = .bool true) := by
  have hcall := big_c w v _ x h
  have H := Lib.hid (fun (w' : World) (e : Ext w w') => stable_bytes.ext h e)
  clear h
  cases hb : decide (4096 < x.length) with
  | true =>
    rw [hb] at hcall
    clear hb
    go_enter Tryz.func3, Tryz.ntmps3
    go_wp2_with fail
    refine Calls.mono hcall ?_
    rintro e w1 hr
    obtain ⟨rfl, hd, e1⟩ := retq_ext hr
    clear hr hcall
    go_wp2_with fail
    go_ret
    exact ⟨_, rfl, rfl, e1⟩
  | false =>
    rw [hb] at hcall
    clear hb
    go_enter Tryz.func3, Tryz.ntmps3
    go_wp2_with fail
    refine Calls.mono hcall ?_
    rintro e w1 hr
    obtain ⟨rfl, hd, e1⟩ := retq_ext hr
    have X1 := Lib.hid e1
    clear hr hcall hd e1
    have hcall := DrawWafersFor_c w1 v _ x (H.out _ (by repeat (first | exact Ext.refl _ | exact RowKit.Hid.out (by assumption) | (refine Ext.trans ?_ (Ext.alloc _ _)) | (refine Ext.trans ?_ (RowKit.Hid.out (by assumption))))))
    go_wp2_with fail
    refine Calls.mono hcall ?_
    rintro e w2 hr
    obtain ⟨_, rfl, ⟨mka, na, rfl, hia⟩, e2⟩ := ret_ext hr
    have X2 := Lib.hid e2
    clear hr hcall e2
    unfold MK.v
    go_upto_region 4 with fail
    generalize hw3 : World.alloc w2 _ = w3
    obtain ⟨e3, S3⟩ := mk_box hw3
    obtain ⟨bxa, hba⟩ : ∃ bxa, w2.heap.size = bxa := ⟨_, rfl⟩
    rw [hba] at S3
    simp only [hba]
    have HSa := Lib.hid (fun (w' : World) (e : Ext w3 w') => S3.ext e)
    have X3 := Lib.hid e3
    clear hw3 hba S3 e3
    obtain ⟨⟨wa, bad⟩, hexa⟩ : ∃ q, wafersForR mka na = q := ⟨_, rfl⟩
    have HFa : Hid (bad = 0 → ∃ a : Int, mostR mka wa = (a, 0) ∧ na ≤ a ∧ 0 ≤ wa ∧ wa ≤ 42 ∧ (wa ≠ 0 → ∃ b : Int, mostR mka (wa - 1) = (b, 0) ∧ b < na)) := fun h0 => wafers_facts (by rw [hexa, h0])
    have hcall := WafersFor_c w3 mka na
    rw [hexa] at hcall
    unfold MK.v IntCode at hcall
    obtain ⟨c0, c1, c2, c3, c4⟩ := HSa.out w3 (by repeat (first | exact Ext.refl _ | exact RowKit.Hid.out (by assumption) | (refine Ext.trans ?_ (Ext.alloc _ _)) | (refine Ext.trans ?_ (RowKit.Hid.out (by assumption)))))
    go_wp2_with fail
    refine Calls.mono hcall ?_
    rintro e w4 hr
    obtain ⟨_, rfl, rfl, e4⟩ := ret_ext hr
    have X4 := Lib.hid e4
    clear hr hcall c0 c1 c2 c3 c4 e4
    have hcall := WafersForSpec_c w4 mka na
    rw [hexa] at hcall
    unfold MK.v IntCode at hcall
    obtain ⟨c0, c1, c2, c3, c4⟩ := HSa.out w4 (by repeat (first | exact Ext.refl _ | exact RowKit.Hid.out (by assumption) | (refine Ext.trans ?_ (Ext.alloc _ _)) | (refine Ext.trans ?_ (RowKit.Hid.out (by assumption)))))
    go_wp2_with fail
    refine Calls.mono hcall ?_
    rintro e w5 hr
    obtain ⟨_, rfl, rfl, e5⟩ := ret_ext hr
    have X5 := Lib.hid e5
    clear hr hcall c0 c1 c2 c3 c4 e5
    clear hexa
    have hcall := DrawMostOpeners_c w5 v _ x (H.out _ (by repeat (first | exact Ext.refl _ | exact RowKit.Hid.out (by assumption) | (refine Ext.trans ?_ (Ext.alloc _ _)) | (refine Ext.trans ?_ (RowKit.Hid.out (by assumption))))))
    go_wp2_with fail
    refine Calls.mono hcall ?_
    rintro e w6 hr
    obtain ⟨_, rfl, ⟨mkx, nx, rfl, hix⟩, e6⟩ := ret_ext hr
    have X6 := Lib.hid e6
    clear hr hcall e6
    unfold MK.v
    go_upto_region 7 with fail
    generalize hw7 : World.alloc w6 _ = w7
    obtain ⟨e7, S7⟩ := mk_box hw7
    obtain ⟨bxx, hbx⟩ : ∃ bxx, w6.heap.size = bxx := ⟨_, rfl⟩
    rw [hbx] at S7
    simp only [hbx]
    have HSx := Lib.hid (fun (w' : World) (e : Ext w7 w') => S7.ext e)
    have X7 := Lib.hid e7
    clear hw7 hbx S7 e7
    obtain ⟨⟨ox, one⟩, hexx⟩ : ∃ q, mostR mkx nx = q := ⟨_, rfl⟩
    have hcall := MostOpeners_c w7 mkx nx
    rw [hexx] at hcall
    unfold MK.v IntCode at hcall
    obtain ⟨c0, c1, c2, c3, c4⟩ := HSx.out w7 (by repeat (first | exact Ext.refl _ | exact RowKit.Hid.out (by assumption) | (refine Ext.trans ?_ (Ext.alloc _ _)) | (refine Ext.trans ?_ (RowKit.Hid.out (by assumption)))))
    go_wp2_with fail
    refine Calls.mono hcall ?_
    rintro e w8 hr
    obtain ⟨_, rfl, rfl, e8⟩ := ret_ext hr
    have X8 := Lib.hid e8
    clear hr hcall c0 c1 c2 c3 c4 e8
    have hcall := MostOpenersSpec_c w8 mkx nx
    rw [hexx] at hcall
    unfold MK.v IntCode at hcall
    obtain ⟨c0, c1, c2, c3, c4⟩ := HSx.out w8 (by repeat (first | exact Ext.refl _ | exact RowKit.Hid.out (by assumption) | (refine Ext.trans ?_ (Ext.alloc _ _)) | (refine Ext.trans ?_ (RowKit.Hid.out (by assumption)))))
    go_wp2_with fail
    refine Calls.mono hcall ?_
    rintro e w9 hr
    obtain ⟨_, rfl, rfl, e9⟩ := ret_ext hr
    have X9 := Lib.hid e9
    clear hr hcall c0 c1 c2 c3 c4 e9
    clear hexx
    have hcall := DrawLeastWafers_c w9 v _ x (H.out _ (by repeat (first | exact Ext.refl _ | exact RowKit.Hid.out (by assumption) | (refine Ext.trans ?_ (Ext.alloc _ _)) | (refine Ext.trans ?_ (RowKit.Hid.out (by assumption))))))
    go_wp2_with fail
    refine Calls.mono hcall ?_
    rintro e w10 hr
    obtain ⟨_, rfl, ⟨mks, vt, ts, rfl, ht⟩, e10⟩ := ret_ext hr
    have X10 := Lib.hid e10
    clear hr hcall e10
    obtain ⟨tsa, tsn, tsk, rfl, -⟩ := SliceR.shape ht
    have HTs := Lib.hid (fun (w' : World) (e : Ext w10 w') => stable_rows.ext ht e)
    clear ht
    unfold sysV
    go_upto_region 10 with fail
    generalize hw11 : World.alloc w10 _ = w11
    obtain ⟨e11, S11⟩ := sys_box hw11
    obtain ⟨bxs, hbs⟩ : ∃ bxs, w10.heap.size = bxs := ⟨_, rfl⟩
    rw [hbs] at S11
    simp only [hbs]
    have HSs := Lib.hid (fun (w' : World) (e : Ext w11 w') => S11.ext e)
    have X11 := Lib.hid e11
    clear hw11 hbs S11 e11
    obtain ⟨⟨l, three⟩, hexl⟩ : ∃ q, leastR mks ts = q := ⟨_, rfl⟩
    have HFl : Hid (three = 0 → ∀ d n, findD mks ts 300 = ((d, n), 0) → ∃ s : Int, sysWaf mks ts d = (s, 0) ∧ l ≤ s) := fun h0 d n hd => least_facts (by rw [hexl, h0]) hd
    have hcall := LeastWafersA_c w11 mks _ _ ts (HTs.out _ (by repeat (first | exact Ext.refl _ | exact RowKit.Hid.out (by assumption) | (refine Ext.trans ?_ (Ext.alloc _ _)) | (refine Ext.trans ?_ (RowKit.Hid.out (by assumption)))))) 
    rw [hexl] at hcall
    unfold sysV at hcall
    try unfold IntCode at hcall
    obtain ⟨c0, c1, c2, c3, c4, c5⟩ := HSs.out w11 (by repeat (first | exact Ext.refl _ | exact RowKit.Hid.out (by assumption) | (refine Ext.trans ?_ (Ext.alloc _ _)) | (refine Ext.trans ?_ (RowKit.Hid.out (by assumption)))))
    go_wp2_with fail
    refine Calls.mono hcall ?_
    rintro e w12 hr
    obtain ⟨_, rfl, rfl, e12⟩ := ret_ext hr
    have X12 := Lib.hid e12
    clear hr hcall c0 c1 c2 c3 c4 c5 e12
    have hcall := LeastWafersSpecA_c w12 mks _ _ ts (HTs.out _ (by repeat (first | exact Ext.refl _ | exact RowKit.Hid.out (by assumption) | (refine Ext.trans ?_ (Ext.alloc _ _)) | (refine Ext.trans ?_ (RowKit.Hid.out (by assumption)))))) 
    rw [hexl] at hcall
    unfold sysV at hcall
    try unfold IntCode at hcall
    obtain ⟨c0, c1, c2, c3, c4, c5⟩ := HSs.out w12 (by repeat (first | exact Ext.refl _ | exact RowKit.Hid.out (by assumption) | (refine Ext.trans ?_ (Ext.alloc _ _)) | (refine Ext.trans ?_ (RowKit.Hid.out (by assumption)))))
    go_wp2_with fail
    refine Calls.mono hcall ?_
    rintro e w13 hr
    obtain ⟨_, rfl, rfl, e13⟩ := ret_ext hr
    have X13 := Lib.hid e13
    clear hr hcall c0 c1 c2 c3 c4 c5 e13
    clear hexl
    go_upto_if 106 with fail
    go_cut [3, 4, 5, 6] (fun s3 s4 s5 s6 wx => s3 = .pointer (some ⟨bxa, 0, none⟩) ∧ s4 = .int .i64 na ∧ s5 = .int .i64 wa ∧ s6 = .int .i64 bad ∧ Ext w13 wx)
    case first =>
      by_cases h3 : three = 0
      · subst h3
        obtain ⟨⟨⟨d, nd⟩, five⟩, hexd⟩ : ∃ q, findD mks ts 300 = q := ⟨_, rfl⟩
        have HFd : Hid (five = 0 → ∃ s : Int, sysWaf mks ts d = (s, 0) ∧ l ≤ s) := fun h0 => HFl.out rfl d nd (by rw [hexd, h0])
        have hcall := FindDesign_c w13 mks _ _ ts (HTs.out _ (by repeat (first | exact Ext.refl _ | exact RowKit.Hid.out (by assumption) | (refine Ext.trans ?_ (Ext.alloc _ _)) | (refine Ext.trans ?_ (RowKit.Hid.out (by assumption)))))) 300 (by unfold I64; omega)
        rw [hexd] at hcall
        unfold sysV at hcall
        try unfold IntCode at hcall
        obtain ⟨c0, c1, c2, c3, c4, c5⟩ := HSs.out w13 (by repeat (first | exact Ext.refl _ | exact RowKit.Hid.out (by assumption) | (refine Ext.trans ?_ (Ext.alloc _ _)) | (refine Ext.trans ?_ (RowKit.Hid.out (by assumption)))))
        go_wp2_with fail
        refine Calls.mono hcall ?_
        rintro e w14 hr
        obtain ⟨_, rfl, ⟨u0, y0, rfl, hy0⟩, e14⟩ := ret_ext hr
        simp only at hy0
        obtain ⟨da, dn, dk, rfl, -⟩ := SliceR.shape hy0
        have HDs := Lib.hid (fun (w' : World) (e : Ext w14 w') => stable_rows.ext hy0 e)
        clear hy0 HFl
        have X14 := Lib.hid e14
        clear hr hcall c0 c1 c2 c3 c4 c5 e14
        clear hexd
        by_cases h5 : five = 0
        · subst h5
          obtain ⟨s, hexs, hls⟩ := HFd.out rfl
          have HLs := Lib.hid hls
          clear HFd hls
          have hcall := SystemWafers_c w14 mks _ _ ts (HTs.out _ (by repeat (first | exact Ext.refl _ | exact RowKit.Hid.out (by assumption) | (refine Ext.trans ?_ (Ext.alloc _ _)) | (refine Ext.trans ?_ (RowKit.Hid.out (by assumption)))))) _ _ d (HDs.out _ (by repeat (first | exact Ext.refl _ | exact RowKit.Hid.out (by assumption) | (refine Ext.trans ?_ (Ext.alloc _ _)) | (refine Ext.trans ?_ (RowKit.Hid.out (by assumption))))))
          rw [hexs] at hcall
          unfold sysV at hcall
          try unfold IntCode at hcall
          obtain ⟨c0, c1, c2, c3, c4, c5⟩ := HSs.out w14 (by repeat (first | exact Ext.refl _ | exact RowKit.Hid.out (by assumption) | (refine Ext.trans ?_ (Ext.alloc _ _)) | (refine Ext.trans ?_ (RowKit.Hid.out (by assumption)))))
          go_wp2_with fail
          refine Calls.mono hcall ?_
          rintro e w15 hr
          obtain ⟨_, rfl, rfl, e15⟩ := ret_ext hr
          have X15 := Lib.hid e15
          clear hr hcall c0 c1 c2 c3 c4 c5 e15
          have hlt : ¬ (s < l) := by have := HLs.out; omega
          have hlb : decide (s < l) = false := decide_eq_false hlt
          have XE : Hid (Ext w13 w15) := Lib.hid (by repeat (first | exact Ext.refl _ | exact RowKit.Hid.out (by assumption) | (refine Ext.trans ?_ (Ext.alloc _ _)) | (refine Ext.trans ?_ (RowKit.Hid.out (by assumption)))))
          clear hexs HLs
          go_wp2_with fail
          go_meet
          exact ⟨rfl, rfl, rfl, rfl, XE.out⟩
        · have h5b : (five == 0) = false := by simpa using h5
          have XE : Hid (Ext w13 w14) := Lib.hid (by repeat (first | exact Ext.refl _ | exact RowKit.Hid.out (by assumption) | (refine Ext.trans ?_ (Ext.alloc _ _)) | (refine Ext.trans ?_ (RowKit.Hid.out (by assumption)))))
          clear HFd
          go_wp2_with fail
          go_meet
          exact ⟨rfl, rfl, rfl, rfl, XE.out⟩
      · have h3b : (three == 0) = false := by simpa using h3
        clear HFl
        go_wp2_with fail
        go_meet
        exact ⟨rfl, rfl, rfl, rfl, Ext.refl _⟩
    case rest =>
      obtain ⟨rfl, rfl, rfl, rfl, ec⟩ := hcut
      have Xc := Lib.hid ec
      clear ec HFl HSs HTs HSx
      by_cases hbad : bad = 0
      · subst hbad
        obtain ⟨a, hexm, hna, hw0, hw42, hless⟩ := HFa.out rfl
        have HLe := Lib.hid hless
        clear HFa hless
        have hcall := MostOpeners_c wc mka wa
        rw [hexm] at hcall
        unfold MK.v IntCode at hcall
        obtain ⟨c0, c1, c2, c3, c4⟩ := HSa.out wc (by repeat (first | exact Ext.refl _ | exact RowKit.Hid.out (by assumption) | (refine Ext.trans ?_ (Ext.alloc _ _)) | (refine Ext.trans ?_ (RowKit.Hid.out (by assumption)))))
        go_wp2_with fail
        refine Calls.mono hcall ?_
        rintro e wd hr
        obtain ⟨_, rfl, rfl, ewd⟩ := ret_ext hr
        have Xwd := Lib.hid ewd
        clear hr hcall c0 c1 c2 c3 c4 ewd
        clear hexm
        have hlt : ¬ (a < na) := by omega
        have hlb : decide (a < na) = false := decide_eq_false hlt
        by_cases hz : wa = 0
        · subst hz
          have XE : Hid (Ext w wd) := Lib.hid (by repeat (first | exact Ext.refl _ | exact RowKit.Hid.out (by assumption) | (refine Ext.trans ?_ (Ext.alloc _ _)) | (refine Ext.trans ?_ (RowKit.Hid.out (by assumption)))))
          clear HLe
          go_wp2_with fail
          go_ret
          exact ⟨_, rfl, rfl, XE.out⟩
        · have hzb : (wa == 0) = false := by simpa using hz
          obtain ⟨b, hexb, hbn⟩ := HLe.out hz
          clear HLe
          have hwr : IntKind.i64.wrap (wa - 1) = wa - 1 := IntWalk.i64_in _ (by omega)
          have hcall := MostOpeners_c wd mka (wa - 1)
          rw [hexb] at hcall
          unfold MK.v IntCode at hcall
          obtain ⟨c0, c1, c2, c3, c4⟩ := HSa.out wd (by repeat (first | exact Ext.refl _ | exact RowKit.Hid.out (by assumption) | (refine Ext.trans ?_ (Ext.alloc _ _)) | (refine Ext.trans ?_ (RowKit.Hid.out (by assumption)))))
          go_wp2_with fail
          refine Calls.mono hcall ?_
          rintro e we hr
          obtain ⟨_, rfl, rfl, ewe⟩ := ret_ext hr
          have Xwe := Lib.hid ewe
          clear hr hcall c0 c1 c2 c3 c4 ewe
          have hbb : decide (b < na) = true := decide_eq_true hbn
          have XE : Hid (Ext w we) := Lib.hid (by repeat (first | exact Ext.refl _ | exact RowKit.Hid.out (by assumption) | (refine Ext.trans ?_ (Ext.alloc _ _)) | (refine Ext.trans ?_ (RowKit.Hid.out (by assumption)))))
          clear hexb
          go_wp2_with fail
          go_ret
          exact ⟨_, rfl, rfl, XE.out⟩
      · have hne : (bad != 0) = true := by rw [bne_iff_ne]; exact hbad
        have XE : Hid (Ext w wc) := Lib.hid (by repeat (first | exact Ext.refl _ | exact RowKit.Hid.out (by assumption) | (refine Ext.trans ?_ (Ext.alloc _ _)) | (refine Ext.trans ?_ (RowKit.Hid.out (by assumption)))))
        clear HFa
        go_wp2_with fail
        go_ret
        exact ⟨_, rfl, rfl, XE.out⟩


/-! ### the row -/
theorem own : ownKnob Tryz.prog.godebug = none := by kernel_rfl
theorem laidOut : laidOutB Tryz.prog = true := by kernel_rfl
set_option maxRecDepth 100000 in
theorem lifted (os : Os) (started : os.Started) (H : Type) (enc : TypeId × Value → H) :
    ReturnsInHanded {} Tryz.checked os 3 .any (Rows.fnWafersSpec.pre6 enc Tryz.prog Tryz.f3 Rows.fnWafersRow.domain false) (Rows.fnWafersSpec.post enc Tryz.prog Tryz.f3 false true false false) := by
  refine returnsInHanded_of_change (C := Tryz.checked) own started (by kernel_rfl) Tryz.func3
    (ChangeSpec.witness6 (enc := enc) (C := Tryz.checked) false ⟨#[], #[.slice none 0 0], []⟩ 8 (by kernel_rfl) (by kernel_rfl) (by kernel_rfl) (by kernel_rfl)) ?_
  intro W base args ds gs before hval0 hW hcnd _
  have hval : ∀ (j : Nat) t v, Tryz.f3.params[j]? = some t → args[j]? = some v → Value.okWide Tryz.prog W .any base t v := hval0
  have hW' := hW
  obtain ⟨p, q, hA0, hV, rfl, hfz, hnd⟩ := hW
  have hA : DataW.TrodAll enc Tryz.prog W 0 (fun _ => true) true Tryz.f3.params.toList args.toList ds p := hA0
  rw [Tryz.params3] at hA hval
  obtain ⟨v0, vs0, d0, ds0, p0, q0, hargs, rfl, rfl, h0, r0⟩ := trodAll_cons hA
  obtain ⟨rfl, rfl, rfl⟩ := trodAll_nil r0
  obtain rfl : args = #[v0] := by cases args; simp_all
  obtain ⟨rfl, rfl⟩ := trodVars_none hV
  have k0 := h0
  have lt0 : ∀ x ∈ p0, x.block < W.heap.size := by obtain ⟨m, hm⟩ := k0; exact DataW.trod_lt m _ _ _ hm
  obtain ⟨a0, len0, cap0, rfl⟩ := okWide_slice Tryz.underlying22 (hval 0 22 v0 rfl rfl)
  obtain ⟨x0, w0⟩ : ∃ xs, BytesR (.old W) W (.slice a0 len0 cap0) xs := by obtain ⟨fuel, hf⟩ := h0; exact open_BytesR Tryz.underlying22 Tryz.underlying5 (by kernel_rfl) hf
  clear hA0 hval0
  refine (walk W _ x0 w0).mono fun e W' hret => ?_
  obtain ⟨r, rfl, rfl, bel⟩ := hret
  exact ⟨_, rfl, _, _, _, [], _, [], hW', trodAll_mk1 (shut_bool Tryz.underlying4 _), (trodAll_cons_mk (Below.trod laidOut (by kernel_rfl) (of_decide_eq_true (by kernel_rfl)) k0 bel lt0) trodAll_mk0), rfl, bel.frame _, fun h => by cases h⟩

theorem over : Rows.fnWafersRow.holds Tryz.pinned (OpenSpec.ofChange Rows.fnWafersSpec) :=
  OpenClaim.holds_of_wide 3 Tryz.f3 rfl rfl rfl rfl rfl rfl rfl ⟨rfl, rfl, rfl, rfl, rfl⟩ rfl rfl rfl rfl rfl (by kernel_rfl) Tryz.func3 (by kernel_rfl)
    (of_decide_eq_true (by kernel_rfl)) (by unfold Func.isWrapper; first | (rw [if_pos (by decide +kernel)]; kernel_rfl) | (rw [if_neg (by decide +kernel)]; exact ⟨rfl, rfl⟩))
    (fun os started H enc _ => lifted os started H enc)

theorem proved : Rows.FnWafersSaid := over

end fnWafers
end Go.Proofs.YthgmojggpjnckaaGreat
