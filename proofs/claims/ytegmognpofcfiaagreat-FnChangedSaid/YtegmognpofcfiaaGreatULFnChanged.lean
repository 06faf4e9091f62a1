/- Proved: for every code, laws.FnChanged returns true and changes nothing that was there; no condition. -/
import Derived.Test.YtegmognpofcfiaaGreatRows
import Derived.Deep.RegionLaw
import Derived.Deep.RegionHeld3
import Derived.Test.YtegmognpofcfiaaGreatUPkL
import Derived.Test.YtegmognpofcfiaaGreatUDrawExts
import Derived.Test.YtegmognpofcfiaaGreatUDoorsOp
import Derived.Test.YtegmognpofcfiaaGreatUHasInt
import Derived.Test.YtegmognpofcfiaaGreatULikeInts
import Derived.Test.YtegmognpofcfiaaGreatUBig
namespace Go.Proofs.YtegmognpofcfiaaGreat
open Go.ChangeShapes Go.WideShapes Go.ChangeAt Go.RowKit
set_option linter.unusedVariables false
namespace fnChanged

theorem has_upto {p : Int → Bool} {n k : Nat} (h : k < n) : has (upto p n) (k : Int) = p k := by
  apply Bool.eq_iff_iff.2
  have e : has (upto p n) (k : Int) = true ↔ (k : Int) ∈ upto p n := by unfold has; simp
  rw [e, upto_mem]
  constructor
  · exact fun h => h.2.2
  · exact fun h2 => ⟨by omega, by omega, h2⟩
theorem facts {mk : MK} {t cuts : List (List Int)} {row key c : List Int} {bad : Int} (h : changedOf mk t cuts row key = (c, bad)) (h0 : bad = 0) : ∃ d, openedOf mk t cuts key = (d, 0) ∧ ∀ k : Nat, k < row.length → has c k = (row.getD k 0 == 1 && !has d k) := by
  subst h0
  have hr : rowCode mk t cuts row [key] = 0 := by
    by_cases hr : rowCode mk t cuts row [key] = 0
    · exact hr
    · rw [changedOf_bad hr] at h; exact absurd (congrArg Prod.snd h) hr
  have ok := rowCode_zero hr
  refine ⟨_, openedOf_ok (rowCode_code hr) (rowCode_isKey hr), fun k hk => ?_⟩
  rw [changedOf_ok hr] at h
  injection h with h _
  have hd : k < doorsOf t := by rw [← ok.row_len]; exact hk
  rw [← h]
  unfold changedB openedB
  rw [has_upto hd, has_upto hd]
  rfl

set_option maxRecDepth 20000 in
set_option maxHeartbeats 1500000 in
theorem walk (w : World) (v : Value) (x : List Int) (h : BytesR (.old w) w v x) : Calls Tryz.prog 4 #[v] w (Ret w fun r _ => r = .bool true) := by
  have hcall := big_c w v _ x h
  have H := Lib.hid (fun (w' : World) (e : Ext w w') => stable_bytes.ext h e)
  clear h
  cases hb : decide (4096 < x.length) with
  | true =>
    rw [hb] at hcall
    clear hb
    go_enter Tryz.func4, Tryz.ntmps4
    go_wp2_with fail
    refine Calls.mono hcall ?_
    rintro e w1 hr
    obtain ⟨rfl, hd, e1⟩ := retq_ext hr
    clear hr hcall
    go_wp2_with fail
    go_ret
    exact ⟨_, rfl, rfl, e1⟩
  | false =>
    rw [hb] at hcall
    clear hb
    go_enter Tryz.func4, Tryz.ntmps4
    go_wp2_with fail
    refine Calls.mono hcall ?_
    rintro e w1 hr
    obtain ⟨rfl, hd, e1⟩ := retq_ext hr
    clear hr hcall hd
    have hcall := DrawChangedDoors_c w1 v _ x (H.out w1 e1)
    go_wp2_with fail
    refine Calls.mono hcall ?_
    rintro e w2 hr
    obtain ⟨_, rfl, ⟨mk, vt, t, vc, cuts, vp, row, vk, key, rfl, ht, hc, hp, hk⟩, e2⟩ := ret_ext hr
    clear hr hcall
    have HE := Lib.hid (e1.trans e2)
    obtain ⟨a1, n1, k1, rfl, -⟩ := SliceR.shape ht
    obtain ⟨a2, n2, k2, rfl, -⟩ := SliceR.shape hc
    obtain ⟨a3, n3, k3, rfl, -⟩ := SliceR.shape hp
    obtain ⟨a4, n4, k4, rfl, -⟩ := SliceR.shape hk
    clear e1 e2
    obtain ⟨⟨c, bad⟩, hch⟩ : ∃ q, changedOf mk t cuts row key = q := ⟨_, rfl⟩
    have HF : Hid (bad = 0 → ∃ d, openedOf mk t cuts key = (d, 0) ∧ ∀ k : Nat, k < row.length → has c k = (row.getD k 0 == 1 && !has d k)) := facts hch
    unfold sysV
    go_wp2_with fail
    generalize hw3 : World.alloc w2 _ = w3
    obtain ⟨e3, S3⟩ := sys_box hw3
    clear hw3
    have HS := Lib.hid S3
    have HT := Lib.hid (fun (w' : World) (e : Ext w3 w') => stable_rows.ext ht (e3.trans e))
    have HC := Lib.hid (fun (w' : World) (e : Ext w3 w') => stable_rows.ext hc (e3.trans e))
    have HP := Lib.hid (fun (w' : World) (e : Ext w3 w') => stable_ints.ext hp (e3.trans e))
    have HK := Lib.hid (fun (w' : World) (e : Ext w3 w') => stable_ints.ext hk (e3.trans e))
    replace HE := Lib.hid (HE.out.trans e3)
    have r3 := Ext.refl w3
    clear ht hc hp hk S3 e3
    have hcall := ChangedDoors_c w3 mk _ _ t (HT.out _ r3) _ _ cuts (HC.out _ r3) _ _ row (HP.out _ r3) _ _ key (HK.out _ r3)
    rw [hch] at hcall
    unfold sysV at hcall
    refine Calls.mono hcall ?_
    rintro e w4 hr
    obtain ⟨_, rfl, ⟨u1, rfl, i1⟩, e4⟩ := ret_ext hr
    clear hr hcall
    simp only at i1
    have hcall := ChangedDoorsSpec_c w4 mk _ _ t (HT.out _ e4) _ _ cuts (HC.out _ e4) _ _ row (HP.out _ e4) _ _ key (HK.out _ e4)
    rw [hch] at hcall
    unfold sysV at hcall
    clear hch
    obtain ⟨c0, c1, c2, c3, c4, c5⟩ := HS.out.ext e4
    obtain ⟨a5, n5, k5, rfl, -⟩ := SliceR.shape i1
    go_wp2_with fail
    refine Calls.mono hcall ?_
    rintro e w5 hr
    obtain ⟨_, rfl, ⟨u2, rfl, i2⟩, b5⟩ := ret_ext hr
    clear hr hcall c0 c1 c2 c3 c4 c5
    simp only at i2
    obtain ⟨a6, n6, k6, rfl, -⟩ := SliceR.shape i2
    have e5 := e4.trans b5
    have hcall := likeInts_c w5 _ _ _ _ c c (stable_ints.ext i1 b5) i2
    rw [show decide (c = c) = true by simp] at hcall
    have HI1 := Lib.hid (fun (w' : World) (e : Ext w5 w') => stable_ints.ext i1 (b5.trans e))
    clear i1 i2 b5 e4
    go_wp2_with fail
    refine Calls.mono hcall ?_
    rintro e w6 hr
    obtain ⟨rfl, -, b6⟩ := retq_ext hr
    clear hr hcall
    have e6 := e5.trans b6
    by_cases hbad : bad = 0
    · subst hbad
      obtain ⟨d, hd, hdf⟩ := HF.out rfl
      have HDf := Lib.hid hdf
      have hcall := DoorsOpened_c w6 mk _ _ t (HT.out _ e6) _ _ cuts (HC.out _ e6) _ _ key (HK.out _ e6)
      rw [hd] at hcall
      unfold sysV at hcall
      obtain ⟨c0, c1, c2, c3, c4, c5⟩ := HS.out.ext e6
      clear hd hdf HF
      go_wp2_with fail
      refine Calls.mono hcall ?_
      rintro e w7 hr
      obtain ⟨_, rfl, ⟨u3, rfl, i3⟩, b7⟩ := ret_ext hr
      clear hr hcall c0 c1 c2 c3 c4 c5
      simp only at i3
      obtain ⟨a7, n7, k7, rfl, -⟩ := SliceR.shape i3
      have HI7 := Lib.hid (HI1.out w7 (b6.trans b7))
      have HJ7 := Lib.hid i3
      have HE7 := Lib.hid (HE.out.trans (e6.trans b7))
      obtain ⟨a', n', c', he, hn, hm, -, -, -, hel⟩ := IntsR.shape (HP.out w7 (e6.trans b7))
      injection he with q1 q2 q3
      subst q1; subst q2; subst q3
      have Hn := Lib.hid hn
      have HEl := Lib.hid hel
      clear i3 b7 b6 e5 e6 hn hel
      go_wp2_with fail
      go_loopw [13] (fun s13 wr => ∃ k : Nat, k ≤ n3 ∧ s13 = .int .i64 k ∧ Drew w7 wr) (fun s13 _ => n3 - (intOf s13).toNat)
      case atStart => exact ⟨0, Nat.zero_le _, rfl, Drew.refl _⟩
      case round =>
        obtain ⟨k, hk, rfl, hd⟩ := hrel
        by_cases hlt : k < n3
        · obtain ⟨b, off, rfl, hcell, -⟩ := HEl.out k hlt
          replace hcell := (hd.cell ⟨b, off + k, none⟩).trans hcell
          have hf := HDf.out k (by rw [← Hn.out]; exact hlt)
          have hki : I64 (k : Int) := by unfold I64; omega
          have HC1 := Lib.hid (fun m => hasInt_c (wr.drewN m) _ _ c k (stable_ints.drewN (stable_ints.drew HI7.out hd) m) hki)
          have HC2 := Lib.hid (fun m => hasInt_c (wr.drewN m) _ _ d k (stable_ints.drewN (stable_ints.drew HJ7.out hd) m) hki)
          generalize row.getD k 0 = y at *
          generalize has c k = p at *
          generalize has d k = q at *
          by_cases hy : y = 1
          · subst hy
            have hp : p = !q := by rw [hf]; simp
            subst hp
            clear hf
            cases q with
            | true =>
              simp only [Bool.not_true] at HC1
              go_wp2_with fail
              go_quiet ((go_at_call 26; first | with_reducible exact RetQ.quiet (HC1.out _) | with_reducible exact RetQ.quiet (HC2.out _) | fail))
              go_wp2_with fail
              exact ⟨⟨k + 1, by omega, by go_num, hd.drewN _⟩, by simp [intOf]; omega⟩
            | false =>
              simp only [Bool.not_false] at HC1
              go_wp2_with fail
              go_quiet ((go_at_call 26; first | with_reducible exact RetQ.quiet (HC1.out _) | with_reducible exact RetQ.quiet (HC2.out _) | fail))
              go_wp2_with fail
              exact ⟨⟨k + 1, by omega, by go_num, hd.drewN _⟩, by simp [intOf]; omega⟩
          · have hyb : (y == 1) = false := by rw [beq_eq_false_iff_ne]; exact hy
            have hp : p = false := by rw [hf, hyb]; rfl
            subst hp
            clear hf
            go_wp2_with fail
            go_quiet ((go_at_call 26; first | with_reducible exact RetQ.quiet (HC1.out _) | with_reducible exact RetQ.quiet (HC2.out _) | fail))
            go_wp2_with fail
            exact ⟨⟨k + 1, by omega, by go_num, hd.drewN _⟩, by simp [intOf]; omega⟩
        · have HD := Lib.hid hd
          clear hd
          go_wp2_with fail
          go_ret
          exact ⟨_, rfl, rfl, HE7.out.trans (Ext.ofDrew HD.out)⟩
    · have hne : (bad != 0) = true := by rw [bne_iff_ne]; exact hbad
      have HE6 := Lib.hid (HE.out.trans e6)
      clear b6
      go_wp2_with fail
      go_ret
      exact ⟨_, rfl, rfl, HE6.out⟩


/-! ### the row -/
theorem own : ownKnob Tryz.prog.godebug = none := by kernel_rfl
theorem laidOut : laidOutB Tryz.prog = true := by kernel_rfl
set_option maxRecDepth 100000 in
theorem lifted (os : Os) (started : os.Started) (H : Type) (enc : TypeId × Value → H) :
    ReturnsInHanded {} Tryz.checked os 4 .any (Rows.fnChangedSpec.pre6 enc Tryz.prog Tryz.f4 Rows.fnChangedRow.domain false) (Rows.fnChangedSpec.post enc Tryz.prog Tryz.f4 false true false false) := by
  refine returnsInHanded_of_change (C := Tryz.checked) own started (by kernel_rfl) Tryz.func4
    (ChangeSpec.witness6 (enc := enc) (C := Tryz.checked) false ⟨#[], #[.slice none 0 0], []⟩ 8 (by kernel_rfl) (by kernel_rfl) (by kernel_rfl) (by kernel_rfl)) ?_
  intro W base args ds gs before hval0 hW hcnd _
  have hval : ∀ (j : Nat) t v, Tryz.f4.params[j]? = some t → args[j]? = some v → Value.okWide Tryz.prog W .any base t v := hval0
  have hW' := hW
  obtain ⟨p, q, hA0, hV, rfl, hfz, hnd⟩ := hW
  have hA : DataW.TrodAll enc Tryz.prog W 0 (fun _ => true) true Tryz.f4.params.toList args.toList ds p := hA0
  rw [Tryz.params4] at hA hval
  obtain ⟨v0, vs0, d0, ds0, p0, q0, hargs, rfl, rfl, h0, r0⟩ := trodAll_cons hA
  obtain ⟨rfl, rfl, rfl⟩ := trodAll_nil r0
  obtain rfl : args = #[v0] := by cases args; simp_all
  obtain ⟨rfl, rfl⟩ := trodVars_none hV
  have k0 := h0
  have lt0 : ∀ x ∈ p0, x.block < W.heap.size := by obtain ⟨m, hm⟩ := k0; exact DataW.trod_lt m _ _ _ hm
  obtain ⟨a0, len0, cap0, rfl⟩ := okWide_slice Tryz.underlying22 (hval 0 22 v0 rfl rfl)
  obtain ⟨x0, w0⟩ : ∃ xs, BytesR (.old W) W (.slice a0 len0 cap0) xs := by obtain ⟨fuel, hf⟩ := h0; exact open_BytesR Tryz.underlying22 Tryz.underlying5 (by kernel_rfl) hf
  clear hA0 hval0
  refine (walk W _ x0 w0).mono fun e W' hret => ?_
  obtain ⟨r, rfl, rfl, bel⟩ := hret
  exact ⟨_, rfl, _, _, _, [], _, [], hW', trodAll_mk1 (shut_bool Tryz.underlying4 _), (trodAll_cons_mk (Below.trod laidOut (by kernel_rfl) (of_decide_eq_true (by kernel_rfl)) k0 bel lt0) trodAll_mk0), rfl, bel.frame _, fun h => by cases h⟩

theorem over : Rows.fnChangedRow.holds Tryz.pinned (OpenSpec.ofChange Rows.fnChangedSpec) :=
  OpenClaim.holds_of_wide 4 Tryz.f4 rfl rfl rfl rfl rfl rfl rfl ⟨rfl, rfl, rfl, rfl, rfl⟩ rfl rfl rfl rfl rfl (by kernel_rfl) Tryz.func4 (by kernel_rfl)
    (of_decide_eq_true (by kernel_rfl)) (by unfold Func.isWrapper; first | (rw [if_pos (by decide +kernel)]; kernel_rfl) | (rw [if_neg (by decide +kernel)]; exact ⟨rfl, rfl⟩))
    (fun os started H enc _ => lifted os started H enc)

theorem proved : Rows.FnChangedSaid := over

end fnChanged
end Go.Proofs.YtegmognpofcfiaaGreat
