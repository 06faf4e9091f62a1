/- Proved: for every code, laws.FnIssued returns true and changes nothing that was there; no condition. -/
import Derived.Test.YtegmognpofcfiaaGreatRows
import Derived.Deep.RegionLaw
import Derived.Deep.RegionHeld3
import Derived.Test.YtegmognpofcfiaaGreatUPkL
import Derived.Test.YtegmognpofcfiaaGreatUDrawExts
import Derived.Test.YtegmognpofcfiaaGreatUIssuedLaw
import Derived.Test.YtegmognpofcfiaaGreatUPkEx
import Derived.Test.YtegmognpofcfiaaGreatUPkSt
import Derived.Test.YtegmognpofcfiaaGreatUPkLk
namespace Go.Proofs.YtegmognpofcfiaaGreat
open Go.ChangeShapes Go.WideShapes Go.ChangeAt Go.RowKit
set_option linter.unusedVariables false
namespace fnIssued

set_option maxRecDepth 20000 in
set_option maxHeartbeats 1500000 in
theorem walk (w : World) (v : Value) (x : List Int) (h : BytesR (.old w) w v x) : Calls Tryz.prog 6 #[v] w (Ret w fun r _ => r = .bool true) := by
  have hcall := big_c w v _ x h
  have H := Lib.hid (fun (w' : World) (e : Ext w w') => stable_bytes.ext h e)
  clear h
  cases hb : decide (4096 < x.length) with
  | true =>
    rw [hb] at hcall
    clear hb
    go_enter Tryz.func6, Tryz.ntmps6
    go_wp2_with fail
    refine Calls.mono hcall ?_
    rintro e w1 hr
    obtain ⟨rfl, hd, e1⟩ := retq_ext hr
    clear hr hcall
    go_wp2_with fail
    go_ret
    exact ⟨_, rfl, rfl, e1⟩
  | false =>
    rw [hb] at hcall
    clear hb
    go_enter Tryz.func6, Tryz.ntmps6
    go_wp2_with fail
    refine Calls.mono hcall ?_
    rintro e w1 hr
    obtain ⟨rfl, hd, e1⟩ := retq_ext hr
    clear hr hcall hd
    have hcall := DrawExtendSystem_c w1 v _ x (H.out w1 e1)
    go_wp2_with fail
    refine Calls.mono hcall ?_
    rintro e w2 hr
    obtain ⟨_, rfl, ⟨mk, vt, t, vc, cuts, vp, row, vk, key, rfl, ht, hc, hp, hk⟩, e2⟩ := ret_ext hr
    clear hr hcall
    have HE := Lib.hid (e1.trans e2)
    obtain ⟨a1, n1, k1, rfl, -⟩ := SliceR.shape ht
    obtain ⟨a2, n2, k2, rfl, hn2, -⟩ := SliceR.shape hc
    obtain ⟨a3, n3, k3, rfl, -⟩ := SliceR.shape hp
    obtain ⟨a4, n4, k4, rfl, -⟩ := SliceR.shape hk
    have Hn2 := Lib.hid hn2
    clear e1 e2 hn2
    have HF := Lib.hid (issued_facts (mk := mk) (t := t) (cuts := cuts) (row := row) (key := key))
    obtain ⟨⟨⟨mk', t'⟩, ⟨cs, bad⟩⟩, hex⟩ : ∃ q, extendSys mk t cuts row key = q := ⟨_, rfl⟩
    obtain ⟨⟨okb, one⟩, hcan⟩ : ∃ q, canIssue mk t cuts row key = q := ⟨_, rfl⟩
    rw [hex, hcan] at HF
    unfold sysV
    go_wp2_with fail
    generalize hw3 : World.alloc w2 _ = w3
    obtain ⟨e3, S3⟩ := sys_box hw3
    clear hw3
    have HS := Lib.hid S3
    have HT := Lib.hid (fun (w' : World) (e : Ext w3 w') => stable_rows.ext ht (e3.trans e))
    have HC := Lib.hid (fun (w' : World) (e : Ext w3 w') => stable_rows.ext hc (e3.trans e))
    have HP := Lib.hid (fun (w' : World) (e : Ext w3 w') => stable_ints.ext hp (e3.trans e))
    have HK := Lib.hid (fun (w' : World) (e : Ext w3 w') => stable_ints.ext hk (e3.trans e))
    replace HE := Lib.hid (HE.out.trans e3)
    have r3 := Ext.refl w3
    clear ht hc hp hk S3 e3
    have hcall := ExtendSystem_c w3 mk _ _ t (HT.out _ r3) _ _ cuts (HC.out _ r3) _ _ row (HP.out _ r3) _ _ key (HK.out _ r3)
    rw [hex] at hcall
    unfold sysV at hcall
    refine Calls.mono hcall ?_
    rintro e w4 hr
    obtain ⟨_, rfl, ⟨u0, u1, m1, rfl, -, i0, i1⟩, e4⟩ := ret_ext hr
    clear hr hcall
    simp only at i0 i1
    obtain ⟨a5, n5, k5, rfl, -⟩ := SliceR.shape i0
    obtain ⟨a6, n6, k6, rfl, hn6, hm6, hc6, -⟩ := SliceR.shape i1
    have Hn6 := Lib.hid hn6
    have Hc6 := Lib.hid hc6
    clear hn6 hm6 hc6
    unfold sysV
    obtain ⟨b3, hb3⟩ : ∃ b3, w2.heap.size = b3 := ⟨_, rfl⟩
    rw [hb3] at HS
    simp only [hb3]
    obtain ⟨c0, c1, c2, c3, c4, c5⟩ := HS.out.ext (e4.trans (Ext.alloc w4 (.cells #[.int .i64 mk'.c, .int .i64 mk'.d, .int .i64 mk'.s, .int .i64 mk'.m, .int .i64 mk'.l, .slice a5 n5 k5] 28)))
    go_wp2_with fail
    generalize hw5 : World.alloc w4 _ = w5 at *
    obtain ⟨b5, S5⟩ := sys_box hw5
    clear hw5
    obtain ⟨b7, hb7⟩ : ∃ b7, w4.heap.size = b7 := ⟨_, rfl⟩
    rw [hb7] at S5
    simp only [hb7]
    have e5 := e4.trans b5
    have HS7 := Lib.hid S5
    have HI0 := Lib.hid (fun (w' : World) (e : Ext w5 w') => stable_rows.ext i0 (b5.trans e))
    have HI1 := Lib.hid (fun (w' : World) (e : Ext w5 w') => stable_rows.ext i1 (b5.trans e))
    have hcall := ExtendSystemSpec_c w5 mk _ _ t (HT.out _ e5) _ _ cuts (HC.out _ e5) _ _ row (HP.out _ e5) _ _ key (HK.out _ e5)
    rw [hex] at hcall
    unfold sysV at hcall
    clear i0 i1 S5 b5 e4 c0 c1 c2 c3 c4 c5 hex
    refine Calls.mono hcall ?_
    rintro e w6 hr
    obtain ⟨_, rfl, ⟨v0, v1, m2, rfl, -, j0, j1⟩, b6⟩ := ret_ext hr
    clear hr hcall
    simp only at j0 j1
    obtain ⟨a7, n7, k7, rfl, -⟩ := SliceR.shape j0
    obtain ⟨a8, n8, k8, rfl, -⟩ := SliceR.shape j1
    unfold sysV
    obtain ⟨c0, c1, c2, c3, c4, c5⟩ := HS.out.ext ((e5.trans b6).trans (Ext.alloc w6 (.cells #[.int .i64 mk'.c, .int .i64 mk'.d, .int .i64 mk'.s, .int .i64 mk'.m, .int .i64 mk'.l, .slice a7 n7 k7] 28)))
    go_wp2_with fail
    generalize hw7 : World.alloc w6 _ = w7 at *
    obtain ⟨b7', S7⟩ := sys_box hw7
    clear hw7
    obtain ⟨b10, hb10⟩ : ∃ b10, w6.heap.size = b10 := ⟨_, rfl⟩
    rw [hb10] at S7
    simp only [hb10]
    have e7 := (e5.trans b6).trans b7'
    have e57 := b6.trans b7'
    have HS10 := Lib.hid S7
    have HJ0 := Lib.hid (fun (w' : World) (e : Ext w7 w') => stable_rows.ext j0 (b7'.trans e))
    have HJ1 := Lib.hid (fun (w' : World) (e : Ext w7 w') => stable_rows.ext j1 (b7'.trans e))
    have hcall := CanIssue_c w7 mk _ _ t (HT.out _ e7) _ _ cuts (HC.out _ e7) _ _ row (HP.out _ e7) _ _ key (HK.out _ e7)
    rw [hcan] at hcall
    unfold sysV at hcall
    unfold BoolCode at hcall
    simp only at hcall
    clear j0 j1 S7 b6 b7' e5 c0 c1 c2 c3 c4 c5
    refine Calls.mono hcall ?_
    rintro e w8 hr
    obtain ⟨_, rfl, rfl, b8⟩ := ret_ext hr
    clear hr hcall
    have e8 := e7.trans b8
    have e58 := e57.trans b8
    have hcall := CanIssueSpec_c w8 mk _ _ t (HT.out _ e8) _ _ cuts (HC.out _ e8) _ _ row (HP.out _ e8) _ _ key (HK.out _ e8)
    rw [hcan] at hcall
    unfold sysV at hcall
    unfold BoolCode at hcall
    try simp only at hcall
    obtain ⟨c0, c1, c2, c3, c4, c5⟩ := HS.out.ext e8
    clear hcan e7 e57
    go_wp2_with fail
    refine Calls.mono hcall ?_
    rintro e w9 hr
    obtain ⟨_, rfl, rfl, b9⟩ := ret_ext hr
    clear hr hcall c0 c1 c2 c3 c4 c5
    have e9 := e8.trans b9
    have e59 := e58.trans b9
    have e79 := b8.trans b9
    have hcall := likeSystems_c w9 mk' _ _ _ _ t' (HI0.out _ e59) (HJ0.out _ e79)
    unfold sysV at hcall
    obtain ⟨c0, c1, c2, c3, c4, c5⟩ := HS7.out.ext e59
    obtain ⟨d0, d1, d2, d3, d4, d5⟩ := HS10.out.ext e79
    clear e8 e58 b8 b9
    go_wp2_with fail
    refine Calls.mono hcall ?_
    rintro e wa hr
    obtain ⟨_, rfl, rfl, ba⟩ := ret_ext hr
    clear hr hcall c0 c1 c2 c3 c4 c5 d0 d1 d2 d3 d4 d5
    have hcall := likeLists_c wa _ _ _ _ cs cs (HI1.out _ (e59.trans ba)) (HJ1.out _ (e79.trans ba))
    rw [show decide (cs = cs) = true by simp] at hcall
    go_wp2_with fail
    refine Calls.mono hcall ?_
    rintro e wb hr
    obtain ⟨rfl, -, bb⟩ := retq_ext hr
    clear hr hcall
    have eb := (e9.trans ba).trans bb
    have e5b := (e59.trans ba).trans bb
    have HEb := Lib.hid (HE.out.trans eb)
    have hok := HF.out.1
    try simp only at hok
    subst hok
    clear e9 e59 e79 ba bb
    by_cases hbad : bad = 0
    · subst hbad
      obtain ⟨hq, hdes⟩ := HF.out.2 rfl
      injection hq with hq1 hq2
      injection hq1 with hq11 hq12
      injection hq2 with hq21 hq22
      subst hq11; subst hq12; subst hq21
      have hcall := IsDesign_c wb mk' _ _ _ (HI0.out _ e5b) _ _ _ (HI1.out _ e5b)
      rw [hdes] at hcall
      unfold sysV at hcall
      obtain ⟨c0, c1, c2, c3, c4, c5⟩ := HS7.out.ext e5b
      rw [show decide ((0 : Int) = 0) = true from rfl]
      clear hdes HF
      go_wp2_with fail
      refine Calls.mono hcall ?_
      rintro e wc hr
      obtain ⟨_, rfl, rfl, bc⟩ := ret_ext hr
      clear hr hcall c0 c1 c2 c3 c4 c5
      have hn6 := Hn6.out
      have hn2 := Hn2.out
      have hc6 := Hc6.out
      rw [List.length_append, List.length_singleton] at hn6
      have h26 : n2 < n6 := by omega
      have h26k : (n2 : Int) ≤ (k6 : Int) := by omega
      have h26i : (n2 : Int) < (n6 : Int) := by omega
      have h26n : n2 ≤ k6 := by omega
      have hY := HI1.out wc (e5b.trans bc)
      have hfr := SliceR.front hY n2 (Nat.le_of_lt h26)
      have e0 : (cuts ++ [key]).take n2 = cuts := by rw [hn2, List.take_left]
      rw [e0] at hfr
      obtain ⟨a', n', k', he', hn', -, -, -, -, hel⟩ := SliceR.shape hY
      injection he' with q1 q2 q3
      subst q1; subst q2; subst q3
      obtain ⟨bb, oo, rfl, -, -, -, uk, yk, hck, -, -, hEk⟩ := hel n2 (by rw [List.length_append, List.length_singleton]; omega)
      have e1 : (cuts ++ [key])[n2]'(by rw [List.length_append, List.length_singleton]; omega) = key := by
        simp [hn2]
      rw [e1] at hEk
      obtain ⟨ak, nk, kk, rfl, -⟩ := SliceR.shape hEk
      have hcall := likeLists_c wc _ _ _ _ cuts cuts hfr (HC.out _ (eb.trans bc))
      rw [show decide (cuts = cuts) = true by simp] at hcall
      have HEk := Lib.hid (fun (w' : World) (e : Ext wc w') => stable_ints.ext hEk e)
      have HCk := Lib.hid (fun (w' : World) (e : Ext wc w') => e.cell hck)
      have HBc := Lib.hid bc
      have HEB := Lib.hid eb
      clear hel hEk hck hn6 hn2 hc6 e0 e1 hfr hY hn' e5b bc eb
      go_wp2_with fail
      refine Calls.mono hcall ?_
      rintro e wd hr
      obtain ⟨rfl, -, bd⟩ := retq_ext hr
      clear hr hcall
      have hck := HCk.out wd bd
      have hcall := likeInts_c wd _ _ _ _ key key (HEk.out wd bd) (HK.out _ ((HEB.out.trans HBc.out).trans bd))
      rw [show decide (key = key) = true by simp] at hcall
      have HBd := Lib.hid bd
      clear bd
      go_wp2_with fail
      refine Calls.mono hcall ?_
      rintro e we hr
      obtain ⟨rfl, -, be⟩ := retq_ext hr
      clear hr hcall
      have HBe := Lib.hid be
      clear be hck
      go_wp2_with fail
      go_ret
      exact ⟨_, rfl, rfl, HEb.out.trans (HBc.out.trans (HBd.out.trans HBe.out))⟩
    · have hne : (bad != 0) = true := by rw [bne_iff_ne]; exact hbad
      have hne2 : (bad == 0) = false := by rw [beq_eq_false_iff_ne]; exact hbad
      rw [show decide (bad = 0) = false from decide_eq_false hbad]
      clear eb e5b HF
      go_wp2_with fail
      go_ret
      exact ⟨_, rfl, rfl, HEb.out⟩


/-! ### the row -/
theorem own : ownKnob Tryz.prog.godebug = none := by kernel_rfl
theorem laidOut : laidOutB Tryz.prog = true := by kernel_rfl
set_option maxRecDepth 100000 in
theorem lifted (os : Os) (started : os.Started) (H : Type) (enc : TypeId × Value → H) :
    ReturnsInHanded {} Tryz.checked os 6 .any (Rows.fnIssuedSpec.pre6 enc Tryz.prog Tryz.f6 Rows.fnIssuedRow.domain false) (Rows.fnIssuedSpec.post enc Tryz.prog Tryz.f6 false true false false) := by
  refine returnsInHanded_of_change (C := Tryz.checked) own started (by kernel_rfl) Tryz.func6
    (ChangeSpec.witness6 (enc := enc) (C := Tryz.checked) false ⟨#[], #[.slice none 0 0], []⟩ 8 (by kernel_rfl) (by kernel_rfl) (by kernel_rfl) (by kernel_rfl)) ?_
  intro W base args ds gs before hval0 hW hcnd _
  have hval : ∀ (j : Nat) t v, Tryz.f6.params[j]? = some t → args[j]? = some v → Value.okWide Tryz.prog W .any base t v := hval0
  have hW' := hW
  obtain ⟨p, q, hA0, hV, rfl, hfz, hnd⟩ := hW
  have hA : DataW.TrodAll enc Tryz.prog W 0 (fun _ => true) true Tryz.f6.params.toList args.toList ds p := hA0
  rw [Tryz.params6] at hA hval
  obtain ⟨v0, vs0, d0, ds0, p0, q0, hargs, rfl, rfl, h0, r0⟩ := trodAll_cons hA
  obtain ⟨rfl, rfl, rfl⟩ := trodAll_nil r0
  obtain rfl : args = #[v0] := by cases args; simp_all
  obtain ⟨rfl, rfl⟩ := trodVars_none hV
  have k0 := h0
  have lt0 : ∀ x ∈ p0, x.block < W.heap.size := by obtain ⟨m, hm⟩ := k0; exact DataW.trod_lt m _ _ _ hm
  obtain ⟨a0, len0, cap0, rfl⟩ := okWide_slice Tryz.underlying22 (hval 0 22 v0 rfl rfl)
  obtain ⟨x0, w0⟩ : ∃ xs, BytesR (.old W) W (.slice a0 len0 cap0) xs := by obtain ⟨fuel, hf⟩ := h0; exact open_BytesR Tryz.underlying22 Tryz.underlying5 (by kernel_rfl) hf
  clear hA0 hval0
  refine (walk W _ x0 w0).mono fun e W' hret => ?_
  obtain ⟨r, rfl, rfl, bel⟩ := hret
  exact ⟨_, rfl, _, _, _, [], _, [], hW', trodAll_mk1 (shut_bool Tryz.underlying4 _), (trodAll_cons_mk (Below.trod laidOut (by kernel_rfl) (of_decide_eq_true (by kernel_rfl)) k0 bel lt0) trodAll_mk0), rfl, bel.frame _, fun h => by cases h⟩

theorem over : Rows.fnIssuedRow.holds Tryz.pinned (OpenSpec.ofChange Rows.fnIssuedSpec) :=
  OpenClaim.holds_of_wide 6 Tryz.f6 rfl rfl rfl rfl rfl rfl rfl ⟨rfl, rfl, rfl, rfl, rfl⟩ rfl rfl rfl rfl rfl (by kernel_rfl) Tryz.func6 (by kernel_rfl)
    (of_decide_eq_true (by kernel_rfl)) (by unfold Func.isWrapper; first | (rw [if_pos (by decide +kernel)]; kernel_rfl) | (rw [if_neg (by decide +kernel)]; exact ⟨rfl, rfl⟩))
    (fun os started H enc _ => lifted os started H enc)

theorem proved : Rows.FnIssuedSaid := over

end fnIssued
end Go.Proofs.YtegmognpofcfiaaGreat
