/- Proved: for every code, laws.FnHitting returns true and changes nothing that was there; no condition. -/
import Derived.Test.YtaogpbhgoeepbaaRows
import Derived.Test.YtaogpbhgoeepbaaUOpen
import Derived.Test.YtaogpbhgoeepbaaUDrawSets
import Derived.Test.YtaogpbhgoeepbaaUHitFacts
import Derived.Test.YtaogpbhgoeepbaaULikeInts
import Derived.Test.YtaogpbhgoeepbaaUBig
import Derived.Test.YtaogpbhgoeepbaaUGreedyImpl
import Derived.Test.YtaogpbhgoeepbaaUHitting
import Derived.Test.YtaogpbhgoeepbaaULeast
namespace Go.Proofs.Ytaogpbhgoeepbaa
open Go.ChangeShapes Go.WideShapes Go.ChangeAt Go.RowKit
set_option linter.unusedVariables false
namespace fnHitting

theorem codes (n : Int) (xss : List (List Int)) : (leastHit n xss).2 = (if areSets n xss = true then 0 else 1) := by
  unfold leastHit; split <;> rfl

set_option maxRecDepth 20000 in
set_option maxHeartbeats 2000000 in
theorem walk (w : World) (v : Value) (x : List Int) (h : BytesR (.old w) w v x) : Calls Try.prog 6 #[v] w (Ret w fun r _ => r = .bool true) := by
  have hcall := big_c w v _ x h
  have H := Lib.hid (fun (w' : World) (e : Ext w w') => stable_bytes.ext h e)
  clear h
  cases hb : decide (4096 < x.length) with
  | true =>
    rw [hb] at hcall
    clear hb
    go_enter Try.func6, Try.ntmps6
    go_wp2_with fail
    refine Calls.mono hcall ?_
    rintro e w1 hr
    obtain ⟨rfl, hd, e1⟩ := retq_ext hr
    clear hr hcall
    go_wp2_with fail
    go_ret
    exact ⟨_, rfl, rfl, e1⟩
  | false =>
    rw [hb] at hcall
    clear hb
    go_enter Try.func6, Try.ntmps6
    go_wp2_with fail
    refine Calls.mono hcall ?_
    rintro e w1 hr
    obtain ⟨rfl, hd, e1⟩ := retq_ext hr
    clear hr hcall hd
    have hcall := DrawLeastHitting_c w1 v _ x (H.out w1 e1)
    go_wp2_with fail
    refine Calls.mono hcall ?_
    rintro e w2 hr
    obtain ⟨_, rfl, ⟨wq, n, u, xss, rfl, hn, hrows⟩, b2⟩ := ret_ext hr
    clear hr hcall
    have e2 := e1.trans b2
    have HR := Lib.hid (fun (w' : World) (e : Ext w2 w') => stable_rows.ext hrows e)
    clear hrows b2 e1
    obtain ⟨L, c, hL⟩ : ∃ L c, leastHit n xss = (L, c) := ⟨_, _, rfl⟩
    obtain ⟨G, cg, hG⟩ : ∃ L c, greedyHit n xss = (L, c) := ⟨_, _, rfl⟩
    obtain ⟨D, cd, hD⟩ : ∃ L c, disjointBound n xss = (L, c) := ⟨_, _, rfl⟩
    have hcall := LeastHitting_c w2 _ _ xss n hn (HR.out w2 (Ext.refl _))
    rw [hL] at hcall
    go_wp2_with fail
    refine Calls.mono hcall ?_
    rintro e w3 hr
    obtain ⟨_, rfl, ⟨a1, rfl, r1⟩, b3⟩ := ret_ext hr
    clear hr hcall
    simp only at r1
    have hcall := LeastHittingSpec_c w3 _ _ xss n hn (HR.out w3 b3)
    rw [hL] at hcall
    go_wp2_with fail
    refine Calls.mono hcall ?_
    rintro e w4 hr
    obtain ⟨_, rfl, ⟨a2, rfl, r2⟩, b4⟩ := ret_ext hr
    clear hr hcall
    simp only at r2
    have e4 := b3.trans b4
    replace r1 := stable_ints.ext r1 b4
    have hcall := GreedyHitting_c w4 _ _ xss n hn (HR.out w4 e4)
    rw [hG] at hcall
    go_wp2_with fail
    refine Calls.mono hcall ?_
    rintro e w5 hr
    obtain ⟨_, rfl, ⟨a3, rfl, r3⟩, b5⟩ := ret_ext hr
    clear hr hcall
    simp only at r3
    have e5 := e4.trans b5
    replace r1 := stable_ints.ext r1 b5
    replace r2 := stable_ints.ext r2 b5
    have hcall := GreedyHittingSpec_c w5 _ _ xss n hn (HR.out w5 e5)
    rw [hG] at hcall
    go_wp2_with fail
    refine Calls.mono hcall ?_
    rintro e w6 hr
    obtain ⟨_, rfl, ⟨a4, rfl, r4⟩, b6⟩ := ret_ext hr
    clear hr hcall
    simp only at r4
    have e6 := e5.trans b6
    replace r1 := stable_ints.ext r1 b6
    replace r2 := stable_ints.ext r2 b6
    replace r3 := stable_ints.ext r3 b6
    have hcall := DisjointBound_c w6 _ _ xss n hn (HR.out w6 e6)
    rw [hD] at hcall
    go_wp2_with fail
    refine Calls.mono hcall ?_
    rintro e w7 hr
    obtain ⟨_, rfl, rfl, b7⟩ := ret_ext hr
    clear hr hcall
    have e7 := e6.trans b7
    unfold IntCode
    have hcall := DisjointBoundSpec_c w7 _ _ xss n hn (HR.out w7 e7)
    rw [hD] at hcall
    go_wp2_with fail
    refine Calls.mono hcall ?_
    rintro e w8 hr
    obtain ⟨_, rfl, rfl, b8⟩ := ret_ext hr
    clear hr hcall
    have e8 := e7.trans b8
    replace r1 := stable_ints.ext (stable_ints.ext r1 b7) b8
    replace r2 := stable_ints.ext (stable_ints.ext r2 b7) b8
    replace r3 := stable_ints.ext (stable_ints.ext r3 b7) b8
    replace r4 := stable_ints.ext (stable_ints.ext r4 b7) b8
    clear b3 b4 b5 b6 b7 b8 e4 e5 e6 e7
    have hcall := likeInts_c w8 _ _ _ _ L L r1 r2
    rw [show decide (L = L) = true by simp] at hcall
    unfold IntCode
    go_wp2_with fail
    refine Calls.mono hcall ?_
    rintro e w9 hr
    obtain ⟨rfl, -, b9⟩ := retq_ext hr
    clear hr hcall
    have hcall := likeInts_c w9 _ _ _ _ G G (stable_ints.ext r3 b9) (stable_ints.ext r4 b9)
    rw [show decide (G = G) = true by simp] at hcall
    go_wp2_with fail
    refine Calls.mono hcall ?_
    rintro e w10 hr
    obtain ⟨rfl, -, b10⟩ := retq_ext hr
    clear hr hcall
    have e10 := (e8.trans b9).trans b10
    have hcall := AreSets_c w10 _ _ xss n hn (HR.out w10 e10)
    replace r1 := stable_ints.ext (stable_ints.ext r1 b9) b10
    replace r3 := stable_ints.ext (stable_ints.ext r3 b9) b10
    clear r2 r4 b9 b10 e8
    cases hA : areSets n xss with
    | false =>
      have hc : c = 1 := by have := codes n xss; rw [hL, hA] at this; exact this
      subst hc
      rw [hA] at hcall
      clear hA hL hG hD
      go_wp2_with fail
      refine Calls.mono hcall ?_
      rintro e w11 hr
      obtain ⟨_, rfl, rfl, b11⟩ := ret_ext hr
      clear hr hcall
      go_wp2_with fail
      go_ret
      exact ⟨_, rfl, rfl, (e2.trans e10).trans b11⟩
    | true =>
      have hc : c = 0 := by have := codes n xss; rw [hL, hA] at this; exact this
      subst hc
      have hf := hit_facts hA
      rw [hL, hG, hD] at hf
      simp only at hf
      obtain ⟨f1, f2, f3, f4, f5⟩ := hf
      rw [hA] at hcall
      clear hA hL hG hD
      have F4 := Lib.hid f4
      have F5 := Lib.hid f5
      clear f4 f5
      go_wp2_with fail
      refine Calls.mono hcall ?_
      rintro e w11 hr
      obtain ⟨_, rfl, rfl, b11⟩ := ret_ext hr
      clear hr hcall
      have e11 := e10.trans b11
      replace r1 := stable_ints.ext r1 b11
      replace r3 := stable_ints.ext r3 b11
      obtain ⟨s1, n1, c1, rfl, hn1, -⟩ := IntsR.shape r1
      obtain ⟨s3, n3, c3, rfl, hn3, -⟩ := IntsR.shape r3
      have Hn1 := Lib.hid hn1
      have Hn3 := Lib.hid hn3
      clear hn1 hn3
      have hcall := IsHitting_c w11 _ _ _ _ xss L n hn (HR.out w11 e11) r1
      rw [f1] at hcall
      go_wp2_with fail
      refine Calls.mono hcall ?_
      rintro e w12 hr
      obtain ⟨_, rfl, rfl, b12⟩ := ret_ext hr
      clear hr hcall
      unfold BoolCode
      have e12 := e11.trans b12
      have hcall := IsHitting_c w12 _ _ _ _ xss G n hn (HR.out w12 e12) (stable_ints.ext r3 b12)
      rw [f2] at hcall
      go_wp2_with fail
      refine Calls.mono hcall ?_
      rintro e w13 hr
      obtain ⟨_, rfl, rfl, b13⟩ := ret_ext hr
      clear hr hcall
      unfold BoolCode
      have e13 := e12.trans b13
      have hcall := IsMinimal_c w13 _ _ _ _ xss L n hn (HR.out w13 e13) (stable_ints.ext (stable_ints.ext r1 b12) b13)
      rw [f3] at hcall
      go_wp2_with fail
      refine Calls.mono hcall ?_
      rintro e w14 hr
      obtain ⟨_, rfl, rfl, b14⟩ := ret_ext hr
      clear hr hcall
      unfold BoolCode
      have e14 := (e2.trans e13).trans b14
      have g1 : D ≤ (n1 : Int) := by rw [Hn1.out]; exact F4.out
      have g2 : (n1 : Int) ≤ (n3 : Int) := by rw [Hn1.out, Hn3.out]; exact Int.ofNat_le.2 F5.out
      clear r1 r3 f1 f2 f3 HR b11 b12 b13 b14 e10 e11 e12 e13
      go_wp2_with fail
      go_ret
      exact ⟨_, rfl, rfl, e14⟩


/-! ### the row -/
theorem own : ownKnob Try.prog.godebug = none := by kernel_rfl
theorem laidOut : laidOutB Try.prog = true := by kernel_rfl
set_option maxRecDepth 100000 in
theorem lifted (os : Os) (started : os.Started) (H : Type) (enc : TypeId × Value → H) :
    ReturnsInHanded {} Try.checked os 6 .any (Rows.fnHittingSpec.pre6 enc Try.prog Try.f6 Rows.fnHittingRow.domain false) (Rows.fnHittingSpec.post enc Try.prog Try.f6 false true false false) := by
  refine returnsInHanded_of_change (C := Try.checked) own started (by kernel_rfl) Try.func6
    (ChangeSpec.witness6 (enc := enc) (C := Try.checked) false ⟨#[], #[.slice none 0 0], []⟩ 8 (by kernel_rfl) (by kernel_rfl) (by kernel_rfl) (by kernel_rfl)) ?_
  intro W base args ds gs before hval0 hW hcnd _
  have hval : ∀ (j : Nat) t v, Try.f6.params[j]? = some t → args[j]? = some v → Value.okWide Try.prog W .any base t v := hval0
  have hW' := hW
  obtain ⟨p, q, hA0, hV, rfl, hfz, hnd⟩ := hW
  have hA : DataW.TrodAll enc Try.prog W 0 (fun _ => true) true Try.f6.params.toList args.toList ds p := hA0
  rw [Try.params6] at hA hval
  obtain ⟨v0, vs0, d0, ds0, p0, q0, hargs, rfl, rfl, h0, r0⟩ := trodAll_cons hA
  obtain ⟨rfl, rfl, rfl⟩ := trodAll_nil r0
  obtain rfl : args = #[v0] := by cases args; simp_all
  obtain ⟨rfl, rfl⟩ := trodVars_none hV
  have k0 := h0
  have lt0 : ∀ x ∈ p0, x.block < W.heap.size := by obtain ⟨m, hm⟩ := k0; exact DataW.trod_lt m _ _ _ hm
  obtain ⟨a0, len0, cap0, rfl⟩ := okWide_slice Try.underlying45 (hval 0 45 v0 rfl rfl)
  obtain ⟨x0, w0⟩ : ∃ xs, BytesR (.old W) W (.slice a0 len0 cap0) xs := by obtain ⟨fuel, hf⟩ := h0; exact open_BytesR Try.underlying45 Try.underlying5 (by kernel_rfl) hf
  clear hA0 hval0
  refine (walk W _ x0 w0).mono fun e W' hret => ?_
  obtain ⟨r, rfl, rfl, bel⟩ := hret
  exact ⟨_, rfl, _, _, _, [], _, [], hW', trodAll_mk1 (shut_bool Try.underlying4 _), (trodAll_cons_mk (Below.trod laidOut (by kernel_rfl) (of_decide_eq_true (by kernel_rfl)) k0 bel lt0) trodAll_mk0), rfl, bel.frame _, fun h => by cases h⟩

theorem over : Rows.fnHittingRow.holds Try.pinned (OpenSpec.ofChange Rows.fnHittingSpec) :=
  OpenClaim.holds_of_wide 6 Try.f6 rfl rfl rfl rfl rfl rfl rfl ⟨rfl, rfl, rfl, rfl, rfl⟩ rfl rfl rfl rfl rfl (by kernel_rfl) Try.func6 (by kernel_rfl)
    (of_decide_eq_true (by kernel_rfl)) (by unfold Func.isWrapper; first | (rw [if_pos (by decide +kernel)]; kernel_rfl) | (rw [if_neg (by decide +kernel)]; exact ⟨rfl, rfl⟩))
    (fun os started H enc _ => lifted os started H enc)

theorem proved : Rows.FnHittingSaid := over

end fnHitting
end Go.Proofs.Ytaogpbhgoeepbaa
