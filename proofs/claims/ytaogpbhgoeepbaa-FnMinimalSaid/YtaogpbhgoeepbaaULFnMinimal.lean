/- Proved: for every code, laws.FnMinimal returns true and changes nothing that was there; no condition. -/
import Derived.Test.YtaogpbhgoeepbaaRows
import Derived.Test.YtaogpbhgoeepbaaUOpen
import Derived.Test.YtaogpbhgoeepbaaUPkMin
namespace Go.Proofs.Ytaogpbhgoeepbaa
open Go.ChangeShapes Go.WideShapes Go.ChangeAt Go.RowKit
set_option linter.unusedVariables false
namespace fnMinimal

theorem op_len {x : Int × List (List Int)} {f t : Int} {op : List Int} (h : (doorsToChange x f t op).2 = 0) : op.length ≤ 12 := by
  by_cases h0 : (countRoutes x f t op).2 = 0
  · obtain ⟨k1, k2, -⟩ := routesCode_ok (count_ok h0).1
    have := rising_length k2
    have := (roomsOk_sides k1).2.1
    omega
  · rw [doors_no h0] at h; exact absurd h h0
theorem kept_yes {q : Int → Bool} {l : List Int} {k : Nat} (hk : k < l.length) (h : q l[k] = true) : (l.take (k+1)).filter q = (l.take k).filter q ++ [l[k]] := by
  rw [List.take_succ_eq_append_getElem hk, List.filter_append]; simp [h]
theorem kept_no {q : Int → Bool} {l : List Int} {k : Nat} (hk : k < l.length) (h : q l[k] = false) : (l.take (k+1)).filter q = (l.take k).filter q := by
  rw [List.take_succ_eq_append_getElem hk, List.filter_append]; simp [h]

set_option maxRecDepth 20000 in
set_option maxHeartbeats 4000000 in
theorem walk (w : World) (v : Value) (x : List Int) (h : BytesR (.old w) w v x) : Calls Try.prog 7 #[v] w (Ret w fun r _ => r = .bool true) := by
  have hcall := big_c w v _ x h
  have H := Lib.hid (fun (w' : World) (e : Ext w w') => stable_bytes.ext h e)
  clear h
  cases hb : decide (4096 < x.length) with
  | true =>
    rw [hb] at hcall
    clear hb
    go_enter Try.func7, Try.ntmps7
    go_wp2_with fail
    refine Calls.mono hcall ?_
    rintro e w1 hr
    obtain ⟨rfl, hd, e1⟩ := retq_ext hr
    clear hr hcall
    go_wp2_with fail
    go_ret
    exact ⟨_, rfl, rfl, e1⟩
  | false =>
    rw [hb] at hcall
    clear hb
    go_enter Try.func7, Try.ntmps7
    go_wp2_with fail
    refine Calls.mono hcall ?_
    rintro e w1 hr
    obtain ⟨rfl, hd, e1⟩ := retq_ext hr
    clear hr hcall hd
    have hcall := DrawMinimalHittings_c w1 v _ x (H.out w1 e1)
    go_wp2_with fail
    refine Calls.mono hcall ?_
    rintro e w2 hr
    obtain ⟨_, rfl, ⟨n, u, xss, most, z1, rfl, hn, hmost, hrows⟩, b2⟩ := ret_ext hr
    clear hr hcall
    have e2 := e1.trans b2
    have HR := Lib.hid (fun (w' : World) (e : Ext w2 w') => stable_rows.ext hrows e)
    clear hrows b2 e1
    have hT := minimals_told n xss most
    obtain ⟨ML, mc, hM⟩ : ∃ L c', minimalHits n xss most = (L, c') := ⟨_, _, rfl⟩
    have hcall := MinimalHittings_c w2 _ _ xss n most hn hmost (HR.out w2 (Ext.refl _))
    rw [hM] at hcall hT
    simp only at hT
    obtain ⟨t1, t2⟩ := hT
    have T1 := Lib.hid t1
    have T2 := Lib.hid t2
    clear t1 t2
    go_wp2_with fail
    refine Calls.mono hcall ?_
    rintro e w3 hr
    obtain ⟨_, rfl, ⟨a1, rfl, r1⟩, b3⟩ := ret_ext hr
    clear hr hcall
    simp only at r1
    have hcall := MinimalHittingsSpec_c w3 _ _ xss n most hn hmost (HR.out w3 b3)
    rw [hM] at hcall
    clear hM
    go_wp2_with fail
    refine Calls.mono hcall ?_
    rintro e w4 hr
    obtain ⟨_, rfl, ⟨a2, rfl, r2⟩, b4⟩ := ret_ext hr
    clear hr hcall
    simp only at r2
    have e4 := b3.trans b4
    replace r1 := stable_rows.ext r1 b4
    have hcall := DrawIsMinimal_c w4 v _ x (H.out w4 (e2.trans e4))
    clear b3 b4
    go_wp2_with fail
    refine Calls.mono hcall ?_
    rintro e w5 hr
    obtain ⟨_, rfl, ⟨n', u', yss, v', l, z2, z3, rfl, hn', hrows, hints⟩, b5⟩ := ret_ext hr
    clear hr hcall
    have e5 := e4.trans b5
    replace r1 := stable_rows.ext r1 b5
    replace r2 := stable_rows.ext r2 b5
    have HY := Lib.hid (fun (w' : World) (e : Ext w5 w') => stable_rows.ext hrows e)
    have HL := Lib.hid (fun (w' : World) (e : Ext w5 w') => stable_ints.ext hints e)
    clear hrows hints b5 e4
    have hmh := minimal_hits (n := n') (xss := yss) (l := l)
    obtain ⟨ok, c1, hO⟩ : ∃ L c', isMinimalR n' yss l = (L, c') := ⟨_, _, rfl⟩
    obtain ⟨hh, c2, hHt⟩ : ∃ L c', isHitting n' yss l = (L, c') := ⟨_, _, rfl⟩
    have hcall := IsMinimal_c w5 _ _ _ _ yss l n' hn' (HY.out w5 (Ext.refl _)) (HL.out w5 (Ext.refl _))
    rw [hO, hHt] at hmh
    rw [hO] at hcall
    simp only at hmh
    go_wp2_with fail
    refine Calls.mono hcall ?_
    rintro e w6 hr
    obtain ⟨_, rfl, rfl, b6⟩ := ret_ext hr
    clear hr hcall
    unfold BoolCode
    have hcall := IsMinimalSpec_c w6 _ _ _ _ yss l n' hn' (HY.out w6 b6) (HL.out w6 b6)
    rw [hO] at hcall
    go_wp2_with fail
    refine Calls.mono hcall ?_
    rintro e w7 hr
    obtain ⟨_, rfl, rfl, b7⟩ := ret_ext hr
    clear hr hcall
    unfold BoolCode
    have g7 := b6.trans b7
    have hcall := IsHitting_c w7 _ _ _ _ yss l n' hn' (HY.out w7 g7) (HL.out w7 g7)
    rw [hHt] at hcall
    go_wp2_with fail
    refine Calls.mono hcall ?_
    rintro e w8 hr
    obtain ⟨_, rfl, rfl, b8⟩ := ret_ext hr
    clear hr hcall
    unfold BoolCode
    have g8 := g7.trans b8
    have hcall := IsHittingSpec_c w8 _ _ _ _ yss l n' hn' (HY.out w8 g8) (HL.out w8 g8)
    rw [hHt] at hcall
    go_wp2_with fail
    refine Calls.mono hcall ?_
    rintro e w9 hr
    obtain ⟨_, rfl, rfl, b9⟩ := ret_ext hr
    clear hr hcall hO hHt
    unfold BoolCode
    have g9 := g8.trans b9
    have e9 := e5.trans g9
    replace r1 := stable_rows.ext r1 g9
    replace r2 := stable_rows.ext r2 g9
    clear b6 b7 b8 b9 g7 g8 g9 e5 HY HL
    have hcall := DrawDoorsToChange_c w9 v _ x (H.out w9 (e2.trans e9))
    go_wp2_with fail
    refine Calls.mono hcall ?_
    rintro e wa hr
    obtain ⟨_, rfl, ⟨c, u9, ds, f, t, v2, op, z4, z5, rfl, hc, hf, ht, hrows, hints, -, -⟩, ba⟩ := ret_ext hr
    clear hr hcall H
    obtain ⟨a9, n9, cap9, rfl, hn9, -⟩ := SliceR.shape hrows
    obtain ⟨aop, nop, cop, rfl, hnop, hmop, -, -, -, helop⟩ := IntsR.shape hints
    have HNop := Lib.hid hnop
    clear hn9 hnop helop
    have e3 : Ext wa (wa.alloc (.cells #[.int .i64 c, .slice a9 n9 cap9] 29)) := Ext.alloc _ _
    obtain ⟨x0, x1, -, -⟩ := Box2.new wa (.int .i64 c) (.slice a9 n9 cap9) 29
    have E3 := (e9.trans ba).trans e3
    replace r1 := stable_rows.ext (stable_rows.ext r1 ba) e3
    replace r2 := stable_rows.ext (stable_rows.ext r2 ba) e3
    replace hrows := stable_rows.ext hrows e3
    replace hints := stable_ints.ext hints e3
    have HI := Lib.hid (fun (w' : World) (e : Ext (wa.alloc (.cells #[.int .i64 c, .slice a9 n9 cap9] 29)) w') => stable_ints.ext hints e)
    have HX : Hid (∀ w', Ext (wa.alloc (.cells #[.int .i64 c, .slice a9 n9 cap9] 29)) w' → w'.cell? ⟨wa.heap.size, 0, none⟩ = some (.int .i64 c) ∧ w'.cell? ⟨wa.heap.size, 1, none⟩ = some (.slice a9 n9 cap9)) := fun w' e => ⟨e.cell x0, e.cell x1⟩
    have HQ : Hid (∀ w', Ext (wa.alloc (.cells #[.int .i64 c, .slice a9 n9 cap9] 29)) w' → RoomsR z4 w' (.agg #[.int .i64 c, .slice a9 n9 cap9]) (c, ds)) := fun w' e => ⟨_, rfl, hc, stable_rows.ext hrows e⟩
    clear hrows hints e3 ba e9
    have hS := doors_stop (x := (c, ds)) (f := f) (t := t) (op := op)
    obtain ⟨D, dc, hD⟩ : ∃ L c', doorsToChange (c, ds) f t op = (L, c') := ⟨_, _, rfl⟩
    have hOpl := op_len (x := (c, ds)) (f := f) (t := t) (op := op)
    rw [hD] at hS hOpl
    simp only at hS hOpl
    have HOpl := Lib.hid hOpl
    clear hOpl
    have hcall := Doors_c _ _ _ z4 z5 (c, ds) f t hf ht op (HQ.out _ (Ext.refl _)) (HI.out _ (Ext.refl _))
    rw [hD] at hcall
    have HSt := Lib.hid hS
    clear hS
    go_wp2_with fail
    generalize wa.alloc (.cells #[.int .i64 c, .slice a9 n9 cap9] 29) = wb at *
    refine Calls.mono hcall ?_
    rintro e wc hr
    obtain ⟨_, rfl, ⟨d1, rfl, s1⟩, bc⟩ := ret_ext hr
    clear hr hcall x0 x1
    simp only at s1
    obtain ⟨x0, x1⟩ := HX.out wc bc
    have hcall := DoorsSpec_c wc _ _ z4 z5 (c, ds) f t hf op (HQ.out _ bc) (HI.out _ bc)
    rw [hD] at hcall
    clear hD
    go_wp2_with fail
    refine Calls.mono hcall ?_
    rintro e wd hr
    obtain ⟨_, rfl, ⟨d2, rfl, s2⟩, bd⟩ := ret_ext hr
    clear hr hcall x0 x1
    simp only at s2
    have gd := bc.trans bd
    replace r1 := stable_rows.ext r1 gd
    replace r2 := stable_rows.ext r2 gd
    replace s1 := stable_ints.ext s1 bd
    have hcall := likeLists_c wd _ _ _ _ ML ML r1 r2
    rw [show decide (ML = ML) = true by simp] at hcall
    have hcall2 := fun (w' : World) (e : Ext wd w') => likeInts_c w' _ _ _ _ D D (stable_ints.ext s1 e) (stable_ints.ext s2 e)
    rw [show decide (D = D) = true by simp] at hcall2
    have HC2 := Lib.hid hcall2
    obtain ⟨s1a, n1, k1, rfl, hn1, hm1, -⟩ := SliceR.shape r1
    have HN1 := Lib.hid hn1
    have HML := Lib.hid (fun (w' : World) (e : Ext wd w') => stable_rows.ext r1 e)
    have HDI := Lib.hid (fun (w' : World) (e : Ext wd w') => stable_ints.ext s1 e)
    have EW := Lib.hid (E3.trans gd)
    have G := Lib.hid gd
    clear hcall2 hn1 r1 r2 s1 s2 bc bd
    have hokh : (ok && !hh) = false := by cases ok <;> cases hh <;> simp_all
    clear hmh
    cases ok with
    | true =>
      obtain rfl : hh = true := by simpa using hokh
      go_wp2_with fail
      refine Calls.mono hcall ?_
      rintro e we hr
      obtain ⟨rfl, -, be⟩ := retq_ext hr
      clear hr hcall
      have hcall := HC2.out we be
      go_wp2_with fail
      refine Calls.mono hcall ?_
      rintro e wf hr
      obtain ⟨rfl, -, bf⟩ := retq_ext hr
      clear hr hcall HC2
      have eF := be.trans bf
      have EE := Lib.hid (e2.trans EW.out)
      have hXW := EW.out
      by_cases hdc : dc = 0
      · subst hdc
        obtain ⟨qq1, qq2⟩ := HSt.out rfl
        have HOp := Lib.hid (HOpl.out rfl)
        have QQ1 := Lib.hid qq1
        have QQ2 := Lib.hid qq2
        clear qq1 qq2 HSt
        have o0 : OwnP (Value.int .i64) 2 wf.heap.size (wf.alloc (.cells #[] 2)) (.slice (some ⟨wf.heap.size, 0, none⟩) 0 0) [] := OwnP.empty (Nat.le_refl _)
        have b0 : Ext wf (wf.alloc (.cells #[] 2)) := Ext.alloc _ _
        go_wp2_with fail
        generalize wf.alloc (.cells #[] 2) = wg at *
        go_loopw [29, 30] (fun s29 s30 wr => ∃ i : Nat, i ≤ nop ∧ s30 = .int .i64 i ∧ OwnP (Value.int .i64) 2 wf.heap.size wr s29 ((op.take i).filter fun y => !has D y) ∧ Ext wf wr) (fun _ s30 _ => nop - (intOf s30).toNat)
        case atStart => exact ⟨0, Nat.zero_le _, rfl, by simpa using o0, b0⟩
        case round =>
          obtain ⟨i, hi, rfl, ho, hd⟩ := hrel
          clear o0 b0
          have eR := eF.trans hd
          have gR := G.out.trans eR
          have hszr := hd.size
          by_cases hin : i < nop
          · have hil : i < op.length := by rw [← HNop.out]; exact hin
            obtain ⟨_, _, _, he, hn6, -, -, -, -, hel⟩ := IntsR.shape (HI.out wr gR)
            injection he with he1 he2 he3
            subst he1; subst he2; subst he3
            obtain ⟨b3, o3, rfl, hc3, hx3, -⟩ := hel i hin
            have hget : op.getD i 0 = op[i] := by simp [hil]
            rw [hget] at hc3 hx3
            have KY := Lib.hid (kept_yes (q := fun y => !has D y) hil)
            have KN := Lib.hid (kept_no (q := fun y => !has D y) hil)
            have hlen : ((op.take i).filter fun y => !has D y).length ≤ i := by
              have := List.length_filter_le (fun y => !has D y) (op.take i)
              rw [List.length_take] at this; omega
            have hiop : i ≤ 100 := by have := HOp.out; omega
            clear hel hget hn6
            have hcall := hasInt_c wr _ _ D op[i] (HDI.out wr eR) hx3
            generalize op[i] = y at *
            cases hq : has D y with
            | true =>
              have HH := Lib.hid (KN.out (by rw [hq]; rfl))
              rw [hq] at hcall
              clear KY KN hq
              go_wp2_with fail
              refine Calls.mono hcall ?_
              rintro e wn hr
              obtain ⟨rfl, -, bn⟩ := retq_ext hr
              clear hr hcall
              have ho' := ho.ext bn
              go_wp2_with fail
              exact ⟨⟨i + 1, by omega, by go_num, by rw [HH.out]; exact ho', hd.trans bn⟩, by simp [intOf]; omega⟩
            | false =>
              have HH := Lib.hid (KY.out (by rw [hq]; rfl))
              rw [hq] at hcall
              clear KY KN hq
              go_wp2_with fail
              refine Calls.mono hcall ?_
              rintro e wn hr
              obtain ⟨rfl, -, bn⟩ := retq_ext hr
              clear hr hcall
              have ho' := ho.ext bn
              have hc3' := bn.cell hc3
              have hszn := bn.size
              generalize (List.filter (fun y => !has D y) (List.take i op)) = up at *
              go_wp2_with (at_builtin; (refine wpList_append1 (f := Value.int .i64) (e := 2) (B := wf.heap.size) (xs := up) rfl _ _ 25 rfl 0 8 Try.underlying25 Try.infoI64 rfl (fun _ => rfl) rfl ho' y rfl (by omega) (by omega) (by omega) ?_); intro v6 w6 hown6 hg6 hb6)
              go_wp2_with fail
              exact ⟨⟨i + 1, by omega, by go_num, by rw [HH.out]; exact hown6, Ext.to' (hd.trans bn) hb6⟩, by simp [intOf]; omega⟩
          · have hio : i = nop := by omega
            have hfull : (op.take i).filter (fun y => !has D y) = op.filter fun y => !has D y := by rw [List.take_of_length_le (by rw [hio]; exact Nat.le_of_eq HNop.out.symm)]
            rw [hfull] at ho
            clear hfull
            have hmem : ∀ y ∈ op.filter (fun y => !has D y), I64 y := fun y hy => (HI.out wr gR).mem y (List.mem_filter.1 hy).1
            have hrI := OwnP.ints ho hmem (Nat.le_refl _)
            obtain ⟨a7, n7, c7, rfl, -⟩ := OwnP.shape ho
            clear hmem ho
            obtain ⟨x0, x1⟩ := HX.out wr gR
            obtain ⟨R, cr, hRw⟩ : ∃ L c'', reachWith (c, ds) f (op.filter fun y => !has D y) = (L, c'') := ⟨_, _, rfl⟩
            have hcall := ReachWith_c wr _ _ _ _ (c, ds) f hf _ (HQ.out wr gR) hrI
            have k1 := QQ1.out
            have k2 := QQ2.out
            rw [hRw] at hcall k1 k2
            simp only at k1 k2
            subst k1
            have K2 := Lib.hid k2
            clear k2 hRw hrI
            go_wp2_with fail
            refine Calls.mono hcall ?_
            rintro e wn hr
            obtain ⟨_, rfl, ⟨g1, rfl, q1⟩, bn⟩ := ret_ext hr
            clear hr hcall x0 x1
            simp only at q1
            have hcall := hasInt_c wn _ _ R t q1 ht
            rw [K2.out] at hcall
            go_wp2_with fail
            refine Calls.mono hcall ?_
            rintro e wp hr
            obtain ⟨rfl, -, bp⟩ := retq_ext hr
            clear hr hcall q1
            have eW : Ext wd wp := (eR.trans bn).trans bp
            clear eF be bf bn bp hd eR gR HI HQ HX HDI
            go_wp2_with fail
            go_loopw [33, 34, 35] (fun s33 _ _ wr => ∃ i : Nat, i ≤ n1 ∧ s33 = .int .i64 i ∧ Ext wp wr) (fun s33 _ _ _ => n1 - (intOf s33).toNat)
            case atStart => exact ⟨0, Nat.zero_le _, rfl, Ext.refl _⟩
            case round =>
              obtain ⟨i, hi, rfl, hd⟩ := hrel
              have eI := eW.trans hd
              by_cases hin : i < n1
              · have hil : i < ML.length := by rw [← HN1.out]; exact hin
                obtain ⟨_, _, _, he, -, -, hel⟩ := SliceR.elem stable_ints (HML.out wr eI)
                injection he with he1 he2 he3
                subst he1; subst he2; subst he3
                obtain ⟨b3, o3, rfl, -, u3, hc3, hu3⟩ := hel i hil
                have hmin := T1.out ML[i] (List.getElem_mem hil)
                obtain ⟨a4, n4, c4, rfl, hn4, hm4, -⟩ := IntsR.shape hu3
                have hcall := IsMinimal_c wr _ _ _ _ xss ML[i] n hn (HR.out wr (hXW.trans eI)) hu3
                rw [hmin] at hcall
                rcases Nat.eq_zero_or_pos i with h0 | hpos
                · subst h0
                  rw [Nat.add_zero] at hc3
                  clear hel hu3 hn4
                  go_wp2_with fail
                  refine Calls.mono hcall ?_
                  rintro e wn hr
                  obtain ⟨_, rfl, rfl, bn⟩ := ret_ext hr
                  clear hr hcall
                  unfold BoolCode
                  have hc3' := bn.cell hc3
                  go_wp2_with fail
                  go_quiet (fail)
                  go_wp2_with fail
                  exact ⟨⟨1, by omega, by go_num, hd.trans (bn.trans (Ext.drewN _ _))⟩, by simp [intOf]; omega⟩
                · obtain ⟨b5, o5, he5, -, u5, hc5, hu5⟩ := hel (i - 1) (by omega)
                  injection he5 with he5
                  injection he5 with e1 e2 _
                  subst e1; subst e2
                  obtain ⟨a6, n6, c6, rfl, hn6, hm6, -⟩ := IntsR.shape hu5
                  have hle : n6 ≤ n4 := by rw [hn4, hn6]; exact List.pairwise_iff_getElem.1 T2.out (i - 1) i (by omega) hil (by omega)
                  clear hel hu3 hn4 hu5 hn6
                  go_wp2_with fail
                  refine Calls.mono hcall ?_
                  rintro e wn hr
                  obtain ⟨_, rfl, rfl, bn⟩ := ret_ext hr
                  clear hr hcall
                  unfold BoolCode
                  have hc3' := bn.cell hc3
                  have hc5' := bn.cell hc5
                  have kw : IntKind.i64.wrap ((i : Int) - 1) = ((i - 1 : Nat) : Int) := (IntWalk.i64_in _ (by omega)).trans (by omega)
                  have klt : i - 1 < n1 := by omega
                  go_wp2_with fail
                  go_quiet (fail)
                  go_wp2_with fail
                  exact ⟨⟨i + 1, by omega, by go_num, hd.trans (bn.trans (Ext.drewN _ _))⟩, by simp [intOf]; omega⟩
              · go_wp2_with fail
                go_ret
                exact ⟨_, rfl, rfl, EE.out.trans eI⟩
      · have hcb : (dc == 0) = false := by simpa using hdc
        have eW : Ext wd wf := eF
        go_wp2_with fail
        go_loopw [33, 34, 35] (fun s33 _ _ wr => ∃ i : Nat, i ≤ n1 ∧ s33 = .int .i64 i ∧ Ext wf wr) (fun s33 _ _ _ => n1 - (intOf s33).toNat)
        case atStart => exact ⟨0, Nat.zero_le _, rfl, Ext.refl _⟩
        case round =>
          obtain ⟨i, hi, rfl, hd⟩ := hrel
          have eI := eW.trans hd
          by_cases hin : i < n1
          · have hil : i < ML.length := by rw [← HN1.out]; exact hin
            obtain ⟨_, _, _, he, -, -, hel⟩ := SliceR.elem stable_ints (HML.out wr eI)
            injection he with he1 he2 he3
            subst he1; subst he2; subst he3
            obtain ⟨b3, o3, rfl, -, u3, hc3, hu3⟩ := hel i hil
            have hmin := T1.out ML[i] (List.getElem_mem hil)
            obtain ⟨a4, n4, c4, rfl, hn4, hm4, -⟩ := IntsR.shape hu3
            have hcall := IsMinimal_c wr _ _ _ _ xss ML[i] n hn (HR.out wr (hXW.trans eI)) hu3
            rw [hmin] at hcall
            rcases Nat.eq_zero_or_pos i with h0 | hpos
            · subst h0
              rw [Nat.add_zero] at hc3
              clear hel hu3 hn4
              go_wp2_with fail
              refine Calls.mono hcall ?_
              rintro e wn hr
              obtain ⟨_, rfl, rfl, bn⟩ := ret_ext hr
              clear hr hcall
              unfold BoolCode
              have hc3' := bn.cell hc3
              go_wp2_with fail
              go_quiet (fail)
              go_wp2_with fail
              exact ⟨⟨1, by omega, by go_num, hd.trans (bn.trans (Ext.drewN _ _))⟩, by simp [intOf]; omega⟩
            · obtain ⟨b5, o5, he5, -, u5, hc5, hu5⟩ := hel (i - 1) (by omega)
              injection he5 with he5
              injection he5 with e1 e2 _
              subst e1; subst e2
              obtain ⟨a6, n6, c6, rfl, hn6, hm6, -⟩ := IntsR.shape hu5
              have hle : n6 ≤ n4 := by rw [hn4, hn6]; exact List.pairwise_iff_getElem.1 T2.out (i - 1) i (by omega) hil (by omega)
              clear hel hu3 hn4 hu5 hn6
              go_wp2_with fail
              refine Calls.mono hcall ?_
              rintro e wn hr
              obtain ⟨_, rfl, rfl, bn⟩ := ret_ext hr
              clear hr hcall
              unfold BoolCode
              have hc3' := bn.cell hc3
              have hc5' := bn.cell hc5
              have kw : IntKind.i64.wrap ((i : Int) - 1) = ((i - 1 : Nat) : Int) := (IntWalk.i64_in _ (by omega)).trans (by omega)
              have klt : i - 1 < n1 := by omega
              go_wp2_with fail
              go_quiet (fail)
              go_wp2_with fail
              exact ⟨⟨i + 1, by omega, by go_num, hd.trans (bn.trans (Ext.drewN _ _))⟩, by simp [intOf]; omega⟩
          · go_wp2_with fail
            go_ret
            exact ⟨_, rfl, rfl, EE.out.trans eI⟩
    | false =>
      go_wp2_with fail
      refine Calls.mono hcall ?_
      rintro e we hr
      obtain ⟨rfl, -, be⟩ := retq_ext hr
      clear hr hcall
      have hcall := HC2.out we be
      go_wp2_with fail
      refine Calls.mono hcall ?_
      rintro e wf hr
      obtain ⟨rfl, -, bf⟩ := retq_ext hr
      clear hr hcall HC2
      have eF := be.trans bf
      have EE := Lib.hid (e2.trans EW.out)
      have hXW := EW.out
      by_cases hdc : dc = 0
      · subst hdc
        obtain ⟨qq1, qq2⟩ := HSt.out rfl
        have HOp := Lib.hid (HOpl.out rfl)
        have QQ1 := Lib.hid qq1
        have QQ2 := Lib.hid qq2
        clear qq1 qq2 HSt
        have o0 : OwnP (Value.int .i64) 2 wf.heap.size (wf.alloc (.cells #[] 2)) (.slice (some ⟨wf.heap.size, 0, none⟩) 0 0) [] := OwnP.empty (Nat.le_refl _)
        have b0 : Ext wf (wf.alloc (.cells #[] 2)) := Ext.alloc _ _
        go_wp2_with fail
        generalize wf.alloc (.cells #[] 2) = wg at *
        go_loopw [29, 30] (fun s29 s30 wr => ∃ i : Nat, i ≤ nop ∧ s30 = .int .i64 i ∧ OwnP (Value.int .i64) 2 wf.heap.size wr s29 ((op.take i).filter fun y => !has D y) ∧ Ext wf wr) (fun _ s30 _ => nop - (intOf s30).toNat)
        case atStart => exact ⟨0, Nat.zero_le _, rfl, by simpa using o0, b0⟩
        case round =>
          obtain ⟨i, hi, rfl, ho, hd⟩ := hrel
          clear o0 b0
          have eR := eF.trans hd
          have gR := G.out.trans eR
          have hszr := hd.size
          by_cases hin : i < nop
          · have hil : i < op.length := by rw [← HNop.out]; exact hin
            obtain ⟨_, _, _, he, hn6, -, -, -, -, hel⟩ := IntsR.shape (HI.out wr gR)
            injection he with he1 he2 he3
            subst he1; subst he2; subst he3
            obtain ⟨b3, o3, rfl, hc3, hx3, -⟩ := hel i hin
            have hget : op.getD i 0 = op[i] := by simp [hil]
            rw [hget] at hc3 hx3
            have KY := Lib.hid (kept_yes (q := fun y => !has D y) hil)
            have KN := Lib.hid (kept_no (q := fun y => !has D y) hil)
            have hlen : ((op.take i).filter fun y => !has D y).length ≤ i := by
              have := List.length_filter_le (fun y => !has D y) (op.take i)
              rw [List.length_take] at this; omega
            have hiop : i ≤ 100 := by have := HOp.out; omega
            clear hel hget hn6
            have hcall := hasInt_c wr _ _ D op[i] (HDI.out wr eR) hx3
            generalize op[i] = y at *
            cases hq : has D y with
            | true =>
              have HH := Lib.hid (KN.out (by rw [hq]; rfl))
              rw [hq] at hcall
              clear KY KN hq
              go_wp2_with fail
              refine Calls.mono hcall ?_
              rintro e wn hr
              obtain ⟨rfl, -, bn⟩ := retq_ext hr
              clear hr hcall
              have ho' := ho.ext bn
              go_wp2_with fail
              exact ⟨⟨i + 1, by omega, by go_num, by rw [HH.out]; exact ho', hd.trans bn⟩, by simp [intOf]; omega⟩
            | false =>
              have HH := Lib.hid (KY.out (by rw [hq]; rfl))
              rw [hq] at hcall
              clear KY KN hq
              go_wp2_with fail
              refine Calls.mono hcall ?_
              rintro e wn hr
              obtain ⟨rfl, -, bn⟩ := retq_ext hr
              clear hr hcall
              have ho' := ho.ext bn
              have hc3' := bn.cell hc3
              have hszn := bn.size
              generalize (List.filter (fun y => !has D y) (List.take i op)) = up at *
              go_wp2_with (at_builtin; (refine wpList_append1 (f := Value.int .i64) (e := 2) (B := wf.heap.size) (xs := up) rfl _ _ 25 rfl 0 8 Try.underlying25 Try.infoI64 rfl (fun _ => rfl) rfl ho' y rfl (by omega) (by omega) (by omega) ?_); intro v6 w6 hown6 hg6 hb6)
              go_wp2_with fail
              exact ⟨⟨i + 1, by omega, by go_num, by rw [HH.out]; exact hown6, Ext.to' (hd.trans bn) hb6⟩, by simp [intOf]; omega⟩
          · have hio : i = nop := by omega
            have hfull : (op.take i).filter (fun y => !has D y) = op.filter fun y => !has D y := by rw [List.take_of_length_le (by rw [hio]; exact Nat.le_of_eq HNop.out.symm)]
            rw [hfull] at ho
            clear hfull
            have hmem : ∀ y ∈ op.filter (fun y => !has D y), I64 y := fun y hy => (HI.out wr gR).mem y (List.mem_filter.1 hy).1
            have hrI := OwnP.ints ho hmem (Nat.le_refl _)
            obtain ⟨a7, n7, c7, rfl, -⟩ := OwnP.shape ho
            clear hmem ho
            obtain ⟨x0, x1⟩ := HX.out wr gR
            obtain ⟨R, cr, hRw⟩ : ∃ L c'', reachWith (c, ds) f (op.filter fun y => !has D y) = (L, c'') := ⟨_, _, rfl⟩
            have hcall := ReachWith_c wr _ _ _ _ (c, ds) f hf _ (HQ.out wr gR) hrI
            have k1 := QQ1.out
            have k2 := QQ2.out
            rw [hRw] at hcall k1 k2
            simp only at k1 k2
            subst k1
            have K2 := Lib.hid k2
            clear k2 hRw hrI
            go_wp2_with fail
            refine Calls.mono hcall ?_
            rintro e wn hr
            obtain ⟨_, rfl, ⟨g1, rfl, q1⟩, bn⟩ := ret_ext hr
            clear hr hcall x0 x1
            simp only at q1
            have hcall := hasInt_c wn _ _ R t q1 ht
            rw [K2.out] at hcall
            go_wp2_with fail
            refine Calls.mono hcall ?_
            rintro e wp hr
            obtain ⟨rfl, -, bp⟩ := retq_ext hr
            clear hr hcall q1
            have eW : Ext wd wp := (eR.trans bn).trans bp
            clear eF be bf bn bp hd eR gR HI HQ HX HDI
            go_wp2_with fail
            go_loopw [33, 34, 35] (fun s33 _ _ wr => ∃ i : Nat, i ≤ n1 ∧ s33 = .int .i64 i ∧ Ext wp wr) (fun s33 _ _ _ => n1 - (intOf s33).toNat)
            case atStart => exact ⟨0, Nat.zero_le _, rfl, Ext.refl _⟩
            case round =>
              obtain ⟨i, hi, rfl, hd⟩ := hrel
              have eI := eW.trans hd
              by_cases hin : i < n1
              · have hil : i < ML.length := by rw [← HN1.out]; exact hin
                obtain ⟨_, _, _, he, -, -, hel⟩ := SliceR.elem stable_ints (HML.out wr eI)
                injection he with he1 he2 he3
                subst he1; subst he2; subst he3
                obtain ⟨b3, o3, rfl, -, u3, hc3, hu3⟩ := hel i hil
                have hmin := T1.out ML[i] (List.getElem_mem hil)
                obtain ⟨a4, n4, c4, rfl, hn4, hm4, -⟩ := IntsR.shape hu3
                have hcall := IsMinimal_c wr _ _ _ _ xss ML[i] n hn (HR.out wr (hXW.trans eI)) hu3
                rw [hmin] at hcall
                rcases Nat.eq_zero_or_pos i with h0 | hpos
                · subst h0
                  rw [Nat.add_zero] at hc3
                  clear hel hu3 hn4
                  go_wp2_with fail
                  refine Calls.mono hcall ?_
                  rintro e wn hr
                  obtain ⟨_, rfl, rfl, bn⟩ := ret_ext hr
                  clear hr hcall
                  unfold BoolCode
                  have hc3' := bn.cell hc3
                  go_wp2_with fail
                  go_quiet (fail)
                  go_wp2_with fail
                  exact ⟨⟨1, by omega, by go_num, hd.trans (bn.trans (Ext.drewN _ _))⟩, by simp [intOf]; omega⟩
                · obtain ⟨b5, o5, he5, -, u5, hc5, hu5⟩ := hel (i - 1) (by omega)
                  injection he5 with he5
                  injection he5 with e1 e2 _
                  subst e1; subst e2
                  obtain ⟨a6, n6, c6, rfl, hn6, hm6, -⟩ := IntsR.shape hu5
                  have hle : n6 ≤ n4 := by rw [hn4, hn6]; exact List.pairwise_iff_getElem.1 T2.out (i - 1) i (by omega) hil (by omega)
                  clear hel hu3 hn4 hu5 hn6
                  go_wp2_with fail
                  refine Calls.mono hcall ?_
                  rintro e wn hr
                  obtain ⟨_, rfl, rfl, bn⟩ := ret_ext hr
                  clear hr hcall
                  unfold BoolCode
                  have hc3' := bn.cell hc3
                  have hc5' := bn.cell hc5
                  have kw : IntKind.i64.wrap ((i : Int) - 1) = ((i - 1 : Nat) : Int) := (IntWalk.i64_in _ (by omega)).trans (by omega)
                  have klt : i - 1 < n1 := by omega
                  go_wp2_with fail
                  go_quiet (fail)
                  go_wp2_with fail
                  exact ⟨⟨i + 1, by omega, by go_num, hd.trans (bn.trans (Ext.drewN _ _))⟩, by simp [intOf]; omega⟩
              · go_wp2_with fail
                go_ret
                exact ⟨_, rfl, rfl, EE.out.trans eI⟩
      · have hcb : (dc == 0) = false := by simpa using hdc
        have eW : Ext wd wf := eF
        go_wp2_with fail
        go_loopw [33, 34, 35] (fun s33 _ _ wr => ∃ i : Nat, i ≤ n1 ∧ s33 = .int .i64 i ∧ Ext wf wr) (fun s33 _ _ _ => n1 - (intOf s33).toNat)
        case atStart => exact ⟨0, Nat.zero_le _, rfl, Ext.refl _⟩
        case round =>
          obtain ⟨i, hi, rfl, hd⟩ := hrel
          have eI := eW.trans hd
          by_cases hin : i < n1
          · have hil : i < ML.length := by rw [← HN1.out]; exact hin
            obtain ⟨_, _, _, he, -, -, hel⟩ := SliceR.elem stable_ints (HML.out wr eI)
            injection he with he1 he2 he3
            subst he1; subst he2; subst he3
            obtain ⟨b3, o3, rfl, -, u3, hc3, hu3⟩ := hel i hil
            have hmin := T1.out ML[i] (List.getElem_mem hil)
            obtain ⟨a4, n4, c4, rfl, hn4, hm4, -⟩ := IntsR.shape hu3
            have hcall := IsMinimal_c wr _ _ _ _ xss ML[i] n hn (HR.out wr (hXW.trans eI)) hu3
            rw [hmin] at hcall
            rcases Nat.eq_zero_or_pos i with h0 | hpos
            · subst h0
              rw [Nat.add_zero] at hc3
              clear hel hu3 hn4
              go_wp2_with fail
              refine Calls.mono hcall ?_
              rintro e wn hr
              obtain ⟨_, rfl, rfl, bn⟩ := ret_ext hr
              clear hr hcall
              unfold BoolCode
              have hc3' := bn.cell hc3
              go_wp2_with fail
              go_quiet (fail)
              go_wp2_with fail
              exact ⟨⟨1, by omega, by go_num, hd.trans (bn.trans (Ext.drewN _ _))⟩, by simp [intOf]; omega⟩
            · obtain ⟨b5, o5, he5, -, u5, hc5, hu5⟩ := hel (i - 1) (by omega)
              injection he5 with he5
              injection he5 with e1 e2 _
              subst e1; subst e2
              obtain ⟨a6, n6, c6, rfl, hn6, hm6, -⟩ := IntsR.shape hu5
              have hle : n6 ≤ n4 := by rw [hn4, hn6]; exact List.pairwise_iff_getElem.1 T2.out (i - 1) i (by omega) hil (by omega)
              clear hel hu3 hn4 hu5 hn6
              go_wp2_with fail
              refine Calls.mono hcall ?_
              rintro e wn hr
              obtain ⟨_, rfl, rfl, bn⟩ := ret_ext hr
              clear hr hcall
              unfold BoolCode
              have hc3' := bn.cell hc3
              have hc5' := bn.cell hc5
              have kw : IntKind.i64.wrap ((i : Int) - 1) = ((i - 1 : Nat) : Int) := (IntWalk.i64_in _ (by omega)).trans (by omega)
              have klt : i - 1 < n1 := by omega
              go_wp2_with fail
              go_quiet (fail)
              go_wp2_with fail
              exact ⟨⟨i + 1, by omega, by go_num, hd.trans (bn.trans (Ext.drewN _ _))⟩, by simp [intOf]; omega⟩
          · go_wp2_with fail
            go_ret
            exact ⟨_, rfl, rfl, EE.out.trans eI⟩


/-! ### the row -/
theorem own : ownKnob Try.prog.godebug = none := by kernel_rfl
theorem laidOut : laidOutB Try.prog = true := by kernel_rfl
set_option maxRecDepth 100000 in
theorem lifted (os : Os) (started : os.Started) (H : Type) (enc : TypeId × Value → H) :
    ReturnsInHanded {} Try.checked os 7 .any (Rows.fnMinimalSpec.pre6 enc Try.prog Try.f7 Rows.fnMinimalRow.domain false) (Rows.fnMinimalSpec.post enc Try.prog Try.f7 false true false false) := by
  refine returnsInHanded_of_change (C := Try.checked) own started (by kernel_rfl) Try.func7
    (ChangeSpec.witness6 (enc := enc) (C := Try.checked) false ⟨#[], #[.slice none 0 0], []⟩ 8 (by kernel_rfl) (by kernel_rfl) (by kernel_rfl) (by kernel_rfl)) ?_
  intro W base args ds gs before hval0 hW hcnd _
  have hval : ∀ (j : Nat) t v, Try.f7.params[j]? = some t → args[j]? = some v → Value.okWide Try.prog W .any base t v := hval0
  have hW' := hW
  obtain ⟨p, q, hA0, hV, rfl, hfz, hnd⟩ := hW
  have hA : DataW.TrodAll enc Try.prog W 0 (fun _ => true) true Try.f7.params.toList args.toList ds p := hA0
  rw [Try.params7] at hA hval
  obtain ⟨v0, vs0, d0, ds0, p0, q0, hargs, rfl, rfl, h0, r0⟩ := trodAll_cons hA
  obtain ⟨rfl, rfl, rfl⟩ := trodAll_nil r0
  obtain rfl : args = #[v0] := by cases args; simp_all
  obtain ⟨rfl, rfl⟩ := trodVars_none hV
  have k0 := h0
  have lt0 : ∀ x ∈ p0, x.block < W.heap.size := by obtain ⟨m, hm⟩ := k0; exact DataW.trod_lt m _ _ _ hm
  obtain ⟨a0, len0, cap0, rfl⟩ := okWide_slice Try.underlying45 (hval 0 45 v0 rfl rfl)
  obtain ⟨x0, w0⟩ : ∃ xs, BytesR (.old W) W (.slice a0 len0 cap0) xs := by obtain ⟨fuel, hf⟩ := h0; exact open_BytesR Try.underlying45 Try.underlying5 (by kernel_rfl) hf
  clear hA0 hval0
  refine (walk W _ x0 w0).mono fun e W' hret => ?_
  obtain ⟨r, rfl, rfl, bel⟩ := hret
  exact ⟨_, rfl, _, _, _, [], _, [], hW', trodAll_mk1 (shut_bool Try.underlying4 _), (trodAll_cons_mk (Below.trod laidOut (by kernel_rfl) (of_decide_eq_true (by kernel_rfl)) k0 bel lt0) trodAll_mk0), rfl, bel.frame _, fun h => by cases h⟩

theorem over : Rows.fnMinimalRow.holds Try.pinned (OpenSpec.ofChange Rows.fnMinimalSpec) :=
  OpenClaim.holds_of_wide 7 Try.f7 rfl rfl rfl rfl rfl rfl rfl ⟨rfl, rfl, rfl, rfl, rfl⟩ rfl rfl rfl rfl rfl (by kernel_rfl) Try.func7 (by kernel_rfl)
    (of_decide_eq_true (by kernel_rfl)) (by unfold Func.isWrapper; first | (rw [if_pos (by decide +kernel)]; kernel_rfl) | (rw [if_neg (by decide +kernel)]; exact ⟨rfl, rfl⟩))
    (fun os started H enc _ => lifted os started H enc)

theorem proved : Rows.FnMinimalSaid := over

end fnMinimal
end Go.Proofs.Ytaogpbhgoeepbaa
