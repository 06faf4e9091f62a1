/- Proved: for every code, laws.FnCovers returns true and changes nothing that was there; no condition. -/
import Derived.Test.YtbkijealdjghgaaRows
import Derived.Deep.RegionLaw
import Derived.Deep.RegionHeld3
import Derived.Test.YtbkijealdjghgaaUPkL
import Derived.Test.YtbkijealdjghgaaUDrawCov
import Derived.Test.YtbkijealdjghgaaUMastersImpl
import Derived.Test.YtbkijealdjghgaaULeastKeysImpl
import Derived.Test.YtbkijealdjghgaaUCoverLaws
import Derived.Test.YtbkijealdjghgaaULikeInts
import Derived.Test.YtbkijealdjghgaaUHasInt
import Derived.Test.YtbkijealdjghgaaUBig
import Derived.Test.YtbkijealdjghgaaUOpenFor
import Derived.Test.YtbkijealdjghgaaUOpenForImpl
namespace Go.Proofs.Ytbkijealdjghgaa
open Go.ChangeShapes Go.WideShapes Go.ChangeAt Go.RowKit
set_option linter.unusedVariables false
namespace fnCovers

theorem without_i64 {l : List Int} {k : Nat} (h : ∀ x ∈ l, I64 x) : ∀ x ∈ l.take k ++ l.drop (k + 1), I64 x := fun x hx => by
  rcases List.mem_append.1 hx with hx | hx
  · exact h x (List.mem_of_mem_take hx)
  · exact h x (List.mem_of_mem_drop hx)

set_option maxRecDepth 20000 in
set_option maxHeartbeats 4000000 in
theorem walk (w : World) (v : Value) (x : List Int) (h : BytesR (.old w) w v x) : Calls Try.prog 4 #[v] w (Ret w fun r _ => r = .bool true) := by
  have hcall := big_c w v _ x h
  have H := Lib.hid (fun (w' : World) (e : Ext w w') => stable_bytes.ext h e)
  clear h
  cases hb : decide (4096 < x.length) with
  | true =>
    rw [hb] at hcall
    clear hb
    go_enter Try.func4, Try.ntmps4
    go_wp2_with fail
    refine Calls.mono hcall ?_
    rintro e w1 hr
    obtain ⟨rfl, hd, e1⟩ := retq_ext hr
    clear hr hcall
    go_wp2_with fail
    go_ret
    exact ⟨_, rfl, rfl, e1⟩
  | false =>
    rw [hb] at hcall
    clear hb
    go_enter Try.func4, Try.ntmps4
    go_wp2_with fail
    refine Calls.mono hcall ?_
    rintro e w1 hr
    obtain ⟨rfl, hd, e1⟩ := retq_ext hr
    clear hr hcall hd
    have hcall := DrawLeastKeysFor_c w1 v _ x (H.out w1 e1)
    go_wp2_with fail
    refine Calls.mono hcall ?_
    rintro e w2 hr
    obtain ⟨_, rfl, ⟨u, t, dv, doors, z1, z2, rfl, hrows, hints, -, -⟩, b2⟩ := ret_ext hr
    clear hr hcall
    have e2 := e1.trans b2
    have HT := Lib.hid (fun (w' : World) (e : Ext w2 w') => stable_rows.ext hrows e)
    have HD := Lib.hid (fun (w' : World) (e : Ext w2 w') => stable_ints.ext hints e)
    clear hrows hints b2 e1
    have CV := covers (t := t) (doors := doors)
    obtain ⟨K, cs, hS⟩ : ∃ L c', leastKeys t doors = (L, c') := ⟨_, _, rfl⟩
    rw [hS] at CV
    simp only at CV
    have HCV := Lib.hid CV
    clear CV
    have hcall := LeastKeysFor_c w2 _ _ z1 z2 t doors (HT.out _ (Ext.refl _)) (HD.out _ (Ext.refl _))
    rw [hS] at hcall
    go_wp2_with fail
    refine Calls.mono hcall ?_
    rintro e w3 hr
    obtain ⟨_, rfl, ⟨b1, rfl, r1⟩, b3⟩ := ret_ext hr
    clear hr hcall
    simp only at r1
    have hcall := LeastKeysForSpec_c w3 _ _ z1 z2 t doors (HT.out _ b3) (HD.out _ b3)
    rw [hS] at hcall
    clear hS
    go_wp2_with fail
    refine Calls.mono hcall ?_
    rintro e w4 hr
    obtain ⟨_, rfl, ⟨b5, rfl, r3⟩, b4⟩ := ret_ext hr
    clear hr hcall
    simp only at r3
    have e4 := b3.trans b4
    replace r1 := stable_ints.ext r1 b4
    clear b3 b4
    have hcall := DrawMasterKeys_c w4 v _ x (H.out w4 (e2.trans e4))
    go_wp2_with fail
    refine Calls.mono hcall ?_
    rintro e w5 hr
    obtain ⟨xu, rfl, ⟨xt, z3, hxt, -⟩, ba⟩ := ret_ext hr
    clear hr hcall H
    replace r1 := stable_ints.ext r1 ba
    replace r3 := stable_ints.ext r3 ba
    have e5 := e4.trans ba
    clear ba e4
    obtain ⟨O, co, hO⟩ : ∃ L c'', masterKeys xt = (L, c'') := ⟨_, _, rfl⟩
    have hcall := MasterKeys_c w5 _ z3 xt hxt
    rw [hO] at hcall
    go_wp2_with fail
    refine Calls.mono hcall ?_
    rintro e w6 hr
    obtain ⟨_, rfl, ⟨o1, rfl, q1⟩, bb⟩ := ret_ext hr
    clear hr hcall
    simp only at q1
    have hcall := MasterKeysSpec_c w6 _ z3 xt (stable_rows.ext hxt bb)
    rw [hO] at hcall
    clear hO hxt
    go_wp2_with fail
    refine Calls.mono hcall ?_
    rintro e w7 hr
    obtain ⟨_, rfl, ⟨o3, rfl, q3⟩, bc⟩ := ret_ext hr
    clear hr hcall
    simp only at q3
    replace q1 := stable_ints.ext q1 bc
    replace r1 := stable_ints.ext r1 (bb.trans bc)
    replace r3 := stable_ints.ext r3 (bb.trans bc)
    have e7 := e5.trans (bb.trans bc)
    clear bb bc e5
    have hcall := likeInts_c w7 _ _ _ _ K K r1 r3
    rw [show decide (K = K) = true by simp] at hcall
    go_wp2_with fail
    refine Calls.mono hcall ?_
    rintro e w8 hr
    obtain ⟨rfl, -, bd⟩ := retq_ext hr
    clear hr hcall
    have hcall := likeInts_c w8 _ _ _ _ O O (stable_ints.ext q1 bd) (stable_ints.ext q3 bd)
    rw [show decide (O = O) = true by simp] at hcall
    clear q1 q3
    go_wp2_with fail
    refine Calls.mono hcall ?_
    rintro e w9 hr
    obtain ⟨rfl, -, be⟩ := retq_ext hr
    clear hr hcall
    replace r1 := stable_ints.ext r1 (bd.trans be)
    replace r3 := stable_ints.ext r3 (bd.trans be)
    have e9 := e7.trans (bd.trans be)
    have E := Lib.hid (e2.trans e9)
    clear bd be e7 e2
    by_cases hcs : cs = 0
    · subst hcs
      obtain ⟨cv0, cv1, cv2, cv3⟩ := HCV.out rfl
      have CV0 := Lib.hid cv0
      have CV2 := Lib.hid cv2
      have CV3 := Lib.hid cv3
      clear cv0 cv2 cv3 HCV
      obtain ⟨G, cg, hG⟩ : ∃ L c'', openFor t K = (L, c'') := ⟨_, _, rfl⟩
      rw [hG] at cv1 CV2
      simp only at cv1 CV2
      subst cv1
      have hcall := OpenFor_c w9 _ _ z1 _ t K (HT.out _ e9) r1
      rw [hG] at hcall
      clear hG
      go_wp2_with fail
      refine Calls.mono hcall ?_
      rintro e wa hr
      obtain ⟨_, rfl, ⟨g1, rfl, qg⟩, bg⟩ := ret_ext hr
      clear hr hcall
      simp only at qg
      have ea := e9.trans bg
      have EA : Hid (Ext w wa) := E.out.trans bg
      replace r3 := stable_ints.ext r3 bg
      obtain ⟨dd, dn, dc, rfl, hdn, hdm, -⟩ := IntsR.shape (HD.out _ ea)
      obtain ⟨sk, kn, kc, rfl, hkn, hkm, -⟩ := IntsR.shape r3
      have HDa := Lib.hid (fun (w' : World) (e : Ext wa w') => HD.out w' (ea.trans e))
      have HTa := Lib.hid (fun (w' : World) (e : Ext wa w') => HT.out w' (ea.trans e))
      have HG := Lib.hid (fun (w' : World) (e : Ext wa w') => stable_ints.ext qg e)
      have HR3 := Lib.hid (fun (w' : World) (e : Ext wa w') => stable_ints.ext r3 e)
      have HDN := Lib.hid hdn
      have HKN := Lib.hid hkn
      clear hdn hkn r1 r3 qg bg ea e9 E HD HT
      go_wp2_with fail
      go_loopw [16] (fun s wr => ∃ k : Nat, k ≤ dn ∧ s = .int .i64 k ∧ Ext wa wr) (fun s _ => dn - (intOf s).toNat)
      case atStart => exact ⟨0, Nat.zero_le _, rfl, Ext.refl _⟩
      case round =>
        obtain ⟨k, hk, rfl, hbk⟩ := hrel
        by_cases hlt : k < dn
        · obtain ⟨a', n', cap', he, -, -, -, -, -, hel⟩ := IntsR.shape (HDa.out wr hbk)
          injection he with he1 he2 he3
          subst he1; subst he2; subst he3
          obtain ⟨b, off, rfl, hcq, hiq, -⟩ := hel k hlt
          have hmem : doors.getD k 0 ∈ doors := by
            have hl : k < doors.length := by rw [← HDN.out]; exact hlt
            rw [List.getD_eq_getElem?_getD, List.getElem?_eq_getElem hl, Option.getD_some]
            exact List.getElem_mem hl
          have hcall := hasInt_c wr _ _ G (doors.getD k 0) (HG.out _ hbk) hiq
          rw [CV2.out _ hmem] at hcall
          clear hel hmem
          generalize doors.getD k 0 = q at *
          go_wp2_with fail
          refine Calls.mono hcall ?_
          rintro e wy hr
          obtain ⟨rfl, -, by'⟩ := retq_ext hr
          clear hr hcall
          have hbi2 := hbk.trans by'
          go_wp2_with fail
          exact ⟨⟨k + 1, by omega, by go_num, hbi2⟩, by simp [intOf]; omega⟩
        · clear hk
          have EB : Hid (Ext w wr) := EA.out.trans hbk
          replace HDa : Hid (∀ w', Ext wr w' → IntsR z2 w' (.slice dd dn dc) doors) := fun w' e => HDa.out w' (hbk.trans e)
          replace HTa : Hid (∀ w', Ext wr w' → RowsR z1 w' u t) := fun w' e => HTa.out w' (hbk.trans e)
          replace HR3 : Hid (∀ w', Ext wr w' → IntsR _ w' (.slice sk kn kc) K) := fun w' e => HR3.out w' (hbk.trans e)
          clear hbk EA HG CV2
          go_wp2_with fail
          obtain ⟨wb, rfl⟩ : ∃ wb, wb = wr := ⟨_, rfl⟩
          clear hlt
          go_loopw [17] (fun s wr => ∃ k : Nat, k ≤ kn ∧ s = .int .i64 k ∧ Ext wb wr) (fun s _ => kn - (intOf s).toNat)
          case atStart => exact ⟨0, Nat.zero_le _, rfl, Ext.refl _⟩
          case round =>
            obtain ⟨k, hk, rfl, hbk⟩ := hrel
            by_cases hlt : k < kn
            · obtain ⟨cc1, d', hd', hno⟩ := CV3.out k (by rw [← HKN.out]; exact hlt)
              have hkc : k < K.length := by rw [← HKN.out]; exact hlt
              have hr3 := HR3.out wr hbk
              obtain ⟨a', n', cap', he, -, -, hcn, hcm, -, hel⟩ := IntsR.shape hr3
              injection he with he1 he2 he3
              subst he1; subst he2; subst he3
              obtain ⟨b, off, rfl, -⟩ := hel k hlt
              clear hel
              unfold maxLen at hcm
              have hk10 : K.length ≤ 10 := CV0.out
              have k1 : IntKind.i64.wrap ((k : Int) + 1) = (k : Int) + 1 := IntWalk.i64_in _ (by omega)
              have k2 : (0 : Int) ≤ (k : Int) + 1 := by omega
              have k3 : ((k : Int) + 1).toNat = k + 1 := by omega
              have k4 : (k : Int) + 1 ≤ (kn : Int) := by omega
              have k5 : k ≤ kc := by omega
              have oi : OwnP (Value.int .i64) 2 wr.heap.size (wr.alloc (.cells #[] 2)).drew (.slice (some ⟨wr.heap.size, 0, none⟩) 0 0) [] := (OwnP.empty (Nat.le_refl _)).drewN 1
              have di : Ext wr (wr.alloc (.cells #[] 2)).drew := (Ext.alloc _ _).trans (Ext.drew _)
              have h3i := stable_ints.ext hr3 di
              go_wp2_with fail
              go_region_law (first | (refine step_appendR (f := Value.int .i64) (e := 2) (xs := []) (ys := K.take k) rfl _ _ 29 rfl 0 8 Try.underlying29 Try.infoI64 rfl (fun _ => rfl) rfl oi (E := IntR) (fun h => h.1) rfl (SliceR.front h3i k (by omega)) (by simp; omega) (by omega) (by show wr.heap.size ≤ (wr.alloc _).heap.size; simp) ?_; intro r2 w2' o2 g2; have b2 := Ext.to' di ((Below.refl wr.heap.size _).grown g2 (by show wr.heap.size ≤ (wr.alloc _).heap.size; simp) (fun j hj => (oi.block j hj).1)); have b2s := b2.size) | (refine step_appendR (f := Value.int .i64) (e := 2) (xs := [] ++ K.take k) (ys := K.drop (k + 1)) rfl _ _ 29 rfl 0 8 Try.underlying29 Try.infoI64 rfl (fun _ => rfl) rfl o2 (E := IntR) (fun h => h.1) rfl (SliceR.rest (stable_ints.ext hr3 b2) (k + 1) (by omega) rfl) (by simp; omega) (by omega) b2s ?_; intro r3 w3' o3 g3))
              all_goals
                generalize (if kc = k + 1 then some (⟨b, off, none⟩ : Addr) else some ⟨b, off + (k + 1), none⟩) = ao
                have hb3 : Ext wr w3' := Ext.to' b2 ((Below.refl wr.heap.size _).grown g3 b2s (fun j hj => (o2.block j hj).1))
                have hk3 := OwnP.ints o3 (fun y hy => by rw [List.nil_append] at hy; exact without_i64 (IntsR.mem hr3) y hy) (Nat.le_refl _)
                rw [List.nil_append, ← List.eraseIdx_eq_take_drop_succ] at hk3
                have hcall := OpenFor_c w3' _ _ z1 _ t (K.eraseIdx k) (HTa.out _ (hbk.trans hb3)) hk3
                clear hk3 o3 o2 g3 g2 b2 b2s oi di h3i hr3 k1 k2 k3 k4 k5
                obtain ⟨S, cg, hS⟩ : ∃ L c'', openFor t (K.eraseIdx k) = (L, c'') := ⟨_, _, rfl⟩
                rw [hS] at hcall cc1 hno
                simp only at cc1 hno
                subst cc1
                clear hS
                go_wp2_with fail
                refine Calls.mono hcall ?_
                rintro e wc hr
                obtain ⟨_, rfl, ⟨s1, rfl, qs⟩, bs⟩ := ret_ext hr
                clear hr hcall
                simp only at qs
                have hbc : Ext wb wc := hbk.trans (hb3.trans bs)
                have HDc : Hid (∀ w', Ext wc w' → IntsR z2 w' (.slice dd dn dc) doors) := fun w' e => HDa.out w' (hbc.trans e)
                have HS := Lib.hid (fun (w' : World) (e : Ext wc w') => stable_ints.ext qs e)
                clear qs hb3 hbk bs
                have HM : Hid (∃ d ∈ doors, has S d = false) := ⟨d', hd', hno⟩
                clear hd' hno
                go_wp2_with fail
                go_loopw [21, 22] (fun s21 s22 wr => ∃ i : Nat, i ≤ dn ∧ s22 = .int .i64 i ∧ s21 = .bool ((doors.take i).any fun d => !has S d) ∧ Ext wc wr) (fun _ s22 _ => dn - (intOf s22).toNat)
                case atStart => exact ⟨0, Nat.zero_le _, rfl, rfl, Ext.refl _⟩
                case round =>
                  obtain ⟨i, hi, rfl, rfl, hbi⟩ := hrel
                  by_cases hin : i < dn
                  · obtain ⟨a', n', cap', he, -, -, -, -, -, hel⟩ := IntsR.shape (HDc.out wr hbi)
                    injection he with he1 he2 he3
                    subst he1; subst he2; subst he3
                    obtain ⟨b', off', rfl, hcq, hiq, -⟩ := hel i hin
                    have hil : i < doors.length := by rw [← HDN.out]; exact hin
                    have HT1 : Hid ((doors.take (i + 1)).any (fun d => !has S d) = ((doors.take i).any (fun d => !has S d) || !has S (doors.getD i 0))) := by
                      show _ = _
                      rw [List.take_add_one, List.getElem?_eq_getElem hil, Option.toList_some, List.any_append, List.any_cons, List.any_nil, Bool.or_false, List.getD_eq_getElem?_getD, List.getElem?_eq_getElem hil, Option.getD_some]
                    have hcall := hasInt_c wr _ _ S (doors.getD i 0) (HS.out _ hbi) hiq
                    clear hel
                    generalize doors.getD i 0 = q at *
                    generalize (doors.take i).any (fun d => !has S d) = m0 at *
                    cases m0 with
                    | true =>
                      go_wp2_with fail
                      exact ⟨⟨i + 1, by omega, by go_num, by rw [HT1.out]; rfl, hbi⟩, by simp [intOf]; omega⟩
                    | false =>
                      generalize has S q = hq at *
                      go_wp2_with fail
                      refine Calls.mono hcall ?_
                      rintro e wy hr
                      obtain ⟨rfl, -, by'⟩ := retq_ext hr
                      clear hr hcall
                      have hbi2 := hbi.trans by'
                      go_wp2_with fail
                      exact ⟨⟨i + 1, by omega, by go_num, by rw [HT1.out]; rfl, hbi2⟩, by simp [intOf]; omega⟩
                  · have hid : i = dn := by omega
                    subst hid
                    have hall : (doors.take i).any (fun d => !has S d) = true := by
                      rw [HDN.out, List.take_length]
                      obtain ⟨d, h1, h2⟩ := HM.out
                      exact List.any_eq_true.2 ⟨d, h1, by rw [h2]; rfl⟩
                    rw [hall]
                    have hbe := hbc.trans hbi
                    go_wp2_with fail
                    exact ⟨⟨k + 1, by omega, by go_num, hbe⟩, by simp [intOf]; omega⟩
            · go_wp2_with fail
              go_ret
              exact ⟨_, rfl, rfl, EB.out.trans hbk⟩
    · have hcn : (cs != 0) = true := by simpa using hcs
      go_wp2_with fail
      go_ret
      exact ⟨_, rfl, rfl, E.out⟩


/-! ### the row -/
theorem own : ownKnob Try.prog.godebug = none := by kernel_rfl
theorem laidOut : laidOutB Try.prog = true := by kernel_rfl
set_option maxRecDepth 100000 in
theorem lifted (os : Os) (started : os.Started) (H : Type) (enc : TypeId × Value → H) :
    ReturnsInHanded {} Try.checked os 4 .any (Rows.fnCoversSpec.pre6 enc Try.prog Try.f4 Rows.fnCoversRow.domain false) (Rows.fnCoversSpec.post enc Try.prog Try.f4 false true false false) := by
  refine returnsInHanded_of_change (C := Try.checked) own started (by kernel_rfl) Try.func4
    (ChangeSpec.witness6 (enc := enc) (C := Try.checked) false ⟨#[], #[.slice none 0 0], []⟩ 8 (by kernel_rfl) (by kernel_rfl) (by kernel_rfl) (by kernel_rfl)) ?_
  intro W base args ds gs before hval0 hW hcnd _
  have hval : ∀ (j : Nat) t v, Try.f4.params[j]? = some t → args[j]? = some v → Value.okWide Try.prog W .any base t v := hval0
  have hW' := hW
  obtain ⟨p, q, hA0, hV, rfl, hfz, hnd⟩ := hW
  have hA : DataW.TrodAll enc Try.prog W 0 (fun _ => true) true Try.f4.params.toList args.toList ds p := hA0
  rw [Try.params4] at hA hval
  obtain ⟨v0, vs0, d0, ds0, p0, q0, hargs, rfl, rfl, h0, r0⟩ := trodAll_cons hA
  obtain ⟨rfl, rfl, rfl⟩ := trodAll_nil r0
  obtain rfl : args = #[v0] := by cases args; simp_all
  obtain ⟨rfl, rfl⟩ := trodVars_none hV
  have k0 := h0
  have lt0 : ∀ x ∈ p0, x.block < W.heap.size := by obtain ⟨m, hm⟩ := k0; exact DataW.trod_lt m _ _ _ hm
  obtain ⟨a0, len0, cap0, rfl⟩ := okWide_slice Try.underlying22 (hval 0 22 v0 rfl rfl)
  obtain ⟨x0, w0⟩ : ∃ xs, BytesR (.old W) W (.slice a0 len0 cap0) xs := by obtain ⟨fuel, hf⟩ := h0; exact open_BytesR Try.underlying22 Try.underlying5 (by kernel_rfl) hf
  clear hA0 hval0
  refine (walk W _ x0 w0).mono fun e W' hret => ?_
  obtain ⟨r, rfl, rfl, bel⟩ := hret
  exact ⟨_, rfl, _, _, _, [], _, [], hW', trodAll_mk1 (shut_bool Try.underlying4 _), (trodAll_cons_mk (Below.trod laidOut (by kernel_rfl) (of_decide_eq_true (by kernel_rfl)) k0 bel lt0) trodAll_mk0), rfl, bel.frame _, fun h => by cases h⟩

theorem over : Rows.fnCoversRow.holds Try.pinned (OpenSpec.ofChange Rows.fnCoversSpec) :=
  OpenClaim.holds_of_wide 4 Try.f4 rfl rfl rfl rfl rfl rfl rfl ⟨rfl, rfl, rfl, rfl, rfl⟩ rfl rfl rfl rfl rfl (by kernel_rfl) Try.func4 (by kernel_rfl)
    (of_decide_eq_true (by kernel_rfl)) (by unfold Func.isWrapper; first | (rw [if_pos (by decide +kernel)]; kernel_rfl) | (rw [if_neg (by decide +kernel)]; exact ⟨rfl, rfl⟩))
    (fun os started H enc _ => lifted os started H enc)

theorem proved : Rows.FnCoversSaid := over

end fnCovers
end Go.Proofs.Ytbkijealdjghgaa
