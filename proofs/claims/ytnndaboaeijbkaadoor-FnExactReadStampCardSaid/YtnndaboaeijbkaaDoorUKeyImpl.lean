/- Proved: the first rule that cuts do not keep, as the program tells it. -/
import Derived.Test.YtnndaboaeijbkaaDoorChecked
import Derived.Test.YtnndaboaeijbkaaDoorUKeySpec
import Derived.Test.YtnndaboaeijbkaaDoorUAreCuts
namespace Go.Proofs.YtnndaboaeijbkaaDoor
open Go.ChangeShapes Go.WideShapes Go.ChangeAt Go.RowKit
set_option linter.unusedVariables false

/-- a list that is not empty -/
theorem sameRun_c (w : World) (v : Value) (z : Zone) (xs : List Int) (h : IntsR z w v xs) (hp : 1 ≤ xs.length) :
    Calls Tryd.prog 64 #[v] w (RetQ w (.int .i64 (runAt xs (xs.length - 1)))) := by
  have HI : Hid (∀ r, 1 ≤ r → r ≤ xs.length → (∀ j, j < r → xs.getD (xs.length - 1 - j) 0 = xs.getD (xs.length - 1) 0) → (r = xs.length ∨ xs.getD (xs.length - 1 - r) 0 ≠ xs.getD (xs.length - 1) 0) → runAt xs (xs.length - 1) = r) := fun r h1 h2 h3 h4 => runAt_is xs _ r h1 (by omega) h3 (by rcases h4 with k | k; exact .inl (by omega); exact .inr k)
  generalize runAt xs (xs.length - 1) = res at *
  obtain ⟨a, n, cap, rfl, hn, hmax, -, -, -, hel⟩ := IntsR.shape h
  rw [← hn] at hp
  clear h
  obtain ⟨b, off, rfl, hc0, -, -⟩ := hel (n-1) (by omega)
  have Hn := Lib.hid hn
  have Hel := Lib.hid hel
  clear hn hel
  have hwn : IntKind.i64.wrap ((n : Int) - 1) = ((n - 1 : Nat) : Int) := by rw [IntWalk.i64_in _ (by omega)]; omega
  go_enter Tryd.func64, Tryd.ntmps64
  go_wp2_with fail
  go_loopw [3] (fun s3 wr => ∃ r : Nat, 1 ≤ r ∧ r ≤ n ∧ s3 = .int .i64 r ∧ (∀ j, j < r → xs.getD (n - 1 - j) 0 = xs.getD (n - 1) 0) ∧ Drew w wr) (fun s3 _ => n - (intOf s3).toNat)
  case atStart => exact ⟨1, Nat.le_refl _, hp, rfl, fun j hj => by obtain rfl : j = 0 := by omega
                                                                   rfl, Drew.refl _⟩
  case round =>
    obtain ⟨r, hr1, hr2, rfl, hall, hd⟩ := hrel
    have Hall := Lib.hid hall
    clear hall
    by_cases hlt : r < n
    · obtain ⟨_, _, he, hc, -, -⟩ := Hel.out (n - 1 - r) (by omega)
      injection he with he; injection he with he1 he2 _
      subst he1; subst he2
      replace hc := (hd.cell _).trans hc
      have hc0' := (hd.cell _).trans hc0
      have hwr : IntKind.i64.wrap (((n - 1 : Nat) : Int) - (r : Int)) = ((n - 1 - r : Nat) : Int) := by rw [IntWalk.i64_in _ (by omega)]; omega
      have Hgo : Hid (xs.getD (n - 1 - r) 0 = xs.getD (n - 1) 0 → ∀ j, j < r + 1 → xs.getD (n - 1 - j) 0 = xs.getD (n - 1) 0) := fun h j hj => by
        by_cases e : j = r
        · rw [e]; exact h
        · exact Hall.out j (by omega)
      have Hno : Hid (xs.getD (n - 1 - r) 0 ≠ xs.getD (n - 1) 0 → res = r) := fun h => by
        have := Hn.out; subst this
        exact HI.out r hr1 (by omega) Hall.out (.inr h)
      have hg : decide (r < n) = true := decide_eq_true hlt
      generalize xs.getD (n - 1 - r) 0 = x at *
      generalize xs.getD (n - 1) 0 = y at *
      by_cases hxy : x = y
      · have HG := Lib.hid (Hgo.out hxy)
        have hb : (x == y) = true := by simpa using hxy
        clear Hgo Hno hxy
        go_wp2_with fail
        go_quiet (fail)
        go_wp2_with fail
        go_roundw
        case rel => exact ⟨r + 1, by omega, by omega, by go_num, HG.out, hd.drewN _⟩
        case measure => simp [intOf]; omega
      · have HN := Lib.hid (Hno.out hxy)
        have hb : (x == y) = false := by simpa using hxy
        clear Hgo Hno hxy
        go_wp2_with fail
        go_quiet (fail)
        go_wp2_with fail
        go_ret
        exact ⟨ret_int (congrArg (fun q : Nat => (q : Int)) HN.out.symm), hd.drewN _⟩
    · have HN : Hid (res = r) := by
        show _ = _
        have := Hn.out; subst this
        exact HI.out r hr1 (by omega) Hall.out (.inl (by omega))
      have hg : decide (r < n) = false := decide_eq_false hlt
      go_wp2_with fail
      go_quiet (fail)
      go_wp2_with fail
      go_ret
      exact ⟨ret_int (congrArg (fun q : Nat => (q : Int)) HN.out.symm), hd.drewN _⟩

set_option maxRecDepth 20000 in
set_option maxHeartbeats 1000000 in
theorem keyFault_c (w : World) (mk : MK) (hd8 : 2 ≤ mk.d ∧ mk.d ≤ 8) (hm0 : 0 ≤ mk.m) (v : Value) (z : Zone) (xs : List Int) (h : IntsR z w v xs) :
    Calls Tryd.prog 72 #[mk.v, v] w (Ret w fun r _ => r = .int .i64 (keyFault mk xs)) := by
  have HC := Lib.hid (fun (w' : World) (he : Ext w w') => areCuts_c w' mk hd8 v z xs (stable_ints.ext h he))
  have HK := Lib.hid (fun (w' : World) (he : Ext w w') => different_c w' v z xs (stable_ints.ext h he))
  have hfront := fun (w' : World) (he : Ext w w') => stable_ints.ext h he
  have H1 : Hid ((xs.length : Int) ≠ mk.c → keyFault mk xs = 1) := keyFault_len
  have H2 : Hid ((xs.length : Int) = mk.c → cutsOk mk xs = false → keyFault mk xs = 2) := keyFault_cuts
  have H3 : Hid ((xs.length : Int) = mk.c → cutsOk mk xs = true → farTo mk.s xs xs.length = true → keyFault mk xs = 3) := keyFault_far
  have H4 : Hid ((xs.length : Int) = mk.c → cutsOk mk xs = true → farTo mk.s xs xs.length = false → mk.m < (mostTo xs xs.length : Int) → keyFault mk xs = 4) := keyFault_run
  have H5 : Hid ((xs.length : Int) = mk.c → cutsOk mk xs = true → farTo mk.s xs xs.length = false → ¬ mk.m < (mostTo xs xs.length : Int) → keyFault mk xs = if (kinds xs : Int) < mk.l then 5 else 0) := keyFault_kinds
  have H6 : Hid (cutsOk mk xs = true → ∀ i, i < xs.length → 0 ≤ xs.getD i 0 ∧ xs.getD i 0 ≤ mk.d - 1) := cuts_in
  generalize keyFault mk xs = kf at *
  generalize hq : cutsOk mk xs = q at *
  clear hq
  obtain ⟨c, d, s, m, l⟩ := mk
  unfold MK.v at *
  simp only at hd8 hm0 HC H1 H2 H3 H4 H5 H6 ⊢
  obtain ⟨a, n, cap, rfl, hn, hmax, hcap, -, -, hel⟩ := IntsR.shape h
  have HS := Lib.hid (fun (w' : World) (he : Ext w w') (k : Nat) (hk : k ≤ n) => SliceR.front (hfront w' he) k hk)
  clear h hfront
  have Hn := Lib.hid hn
  have Hel := Lib.hid hel
  clear hn hel
  go_enter Tryd.func72, Tryd.ntmps72
  by_cases hlc : (n : Int) = c
  · have hb : ((n : Int) != c) = false := by simpa using hlc
    have Hlc : Hid ((xs.length : Int) = c) := by show _ = _; rw [← Hn.out]; exact hlc
    clear hlc
    go_wp2_with fail
    generalize hw0 : World.alloc _ _ = w0
    have e0 : Ext w w0 := by rw [← hw0]; exact Ext.alloc _ _
    have c2 : w0.cell? ⟨w.heap.size, 2, none⟩ = some (.int .i64 s) := by rw [← hw0]; clear hw0; go_simp
    have c3 : w0.cell? ⟨w.heap.size, 3, none⟩ = some (.int .i64 m) := by rw [← hw0]; clear hw0; go_simp
    have c4 : w0.cell? ⟨w.heap.size, 4, none⟩ = some (.int .i64 l) := by rw [← hw0]; clear hw0; go_simp
    clear hw0
    refine Calls.mono (HC.out w0 e0) ?_
    rintro e w1 hr
    obtain ⟨r, rfl, rfl, e1⟩ := ret_ext hr
    clear hr
    replace c2 := e1.cell c2
    replace c3 := e1.cell c3
    replace c4 := e1.cell c4
    cases q with
    | false =>
      have HH := Lib.hid (H2.out Hlc.out rfl)
      go_wp2_with fail
      go_ret
      exact ⟨.int .i64 2, rfl, congrArg (Value.int .i64) HH.out.symm, e0.trans e1⟩
    | true =>
      have et := e0.trans e1
      have H6' := Lib.hid (H6.out rfl)
      clear H6
      go_wp2_with fail
      go_loopw [5] (fun s5 wr => ∃ i : Nat, 1 ≤ i ∧ s5 = .int .i64 i ∧ (i ≤ n ∨ i = 1) ∧ farTo s xs i = false ∧ Drew w1 wr) (fun s5 _ => n + 1 - (intOf s5).toNat)
      case atStart => exact ⟨1, Nat.le_refl _, rfl, .inr rfl, by rw [farTo_succ, farAt_zero]; rfl, Drew.refl _⟩
      case round =>
        obtain ⟨i, hi1, rfl, hi, hfar, hd⟩ := hrel
        have Hfar := Lib.hid hfar
        clear hfar
        have c2' := (hd.cell _).trans c2
        have c3' := (hd.cell _).trans c3
        have c4' := (hd.cell _).trans c4
        by_cases hlt : i < n
        · obtain ⟨b, off, rfl, hc, hx, hprev⟩ := Hel.out i hlt
          replace hc := (et.cell hc)
          replace hc := (hd.cell _).trans hc
          have hxin := H6'.out i (by have := Hn.out; omega)
          obtain ⟨hc', hx'⟩ := hprev (by omega)
          replace hc' := (hd.cell _).trans (et.cell hc')
          have hyin := H6'.out (i-1) (by have := Hn.out; omega)
          have HFS : Hid (farTo s xs (i+1) = farAt s xs i) := by show _ = _; rw [farTo_succ, Hfar.out]; rfl
          have HFA := Lib.hid (farAt_pos (s := s) (l := xs) (show 0 < i by omega))
          have hwi : IntKind.i64.wrap ((i : Int) - 1) = ((i - 1 : Nat) : Int) := by rw [IntWalk.i64_in _ (by omega)]; omega
          have HT : Hid (farAt s xs i = true → farTo s xs xs.length = true) := fun hf => farTo_yes (by have := Hn.out; omega) hf
          clear hprev hx hx'
          generalize xs.getD i 0 = x at *
          generalize xs.getD (i-1) 0 = y at *
          have hwxy : IntKind.i64.wrap (x - y) = x - y := IntWalk.i64_in _ (by omega)
          by_cases hfa : s < ((x - y).natAbs : Int)
          · have HH := Lib.hid (H3.out Hlc.out (by trivial) (HT.out (by rw [HFA.out]; exact decide_eq_true hfa)))
            go_wp2_with fail
            go_quiet ((go_at_call 63; exact RetQ.quiet (absolute_c _ _ (by omega) (by omega))))
            go_wp2_with fail
            go_ret
            exact ⟨.int .i64 3, rfl, congrArg (Value.int .i64) HH.out.symm, et.trans (Ext.ofDrew (hd.drewN _))⟩
          · have HF : Hid (farTo s xs (i+1) = false) := by show _ = _; rw [HFS.out, HFA.out]; exact decide_eq_false hfa
            clear HFS HFA HT
            go_wp2_with fail
            go_quiet ((go_at_call 63; exact RetQ.quiet (absolute_c _ _ (by omega) (by omega))))
            go_wp2_with fail
            go_roundw
            case rel => exact ⟨i+1, by omega, by go_num, .inl (by omega), HF.out, hd.drewN _⟩
            case measure => simp [intOf]; omega
        · have HF : Hid (farTo s xs xs.length = false) := by
            show _ = _
            rw [← Hn.out]
            rcases Nat.lt_or_ge n 1 with h0 | h0
            · obtain rfl : n = 0 := by omega
              rfl
            · obtain rfl : i = n := by omega
              exact Hfar.out
          clear Hfar
          go_wp2_with fail
          obtain ⟨wo, rfl⟩ : ∃ wo, wo = wr := ⟨_, rfl⟩
          have eo := et.trans (Ext.ofDrew hd)
          clear hlt hi hi1 hd c2 c3 c4
          have H4' := Lib.hid (H4.out Hlc.out (by trivial) HF.out)
          have H5' := Lib.hid (H5.out Hlc.out (by trivial) HF.out)
          clear H4 H5
          go_loopw [6, 38] (fun _ s6 wr => ∃ i : Nat, i ≤ n ∧ s6 = .int .i64 i ∧ (∀ j, j < i → (runAt xs j : Int) ≤ m) ∧ Drew wo wr) (fun _ s6 _ => n - (intOf s6).toNat)
          case atStart => exact ⟨0, Nat.zero_le _, rfl, by simp, Drew.refl _⟩
          case round =>
            obtain ⟨i, hi, rfl, hall, hd⟩ := hrel
            have Hall := Lib.hid hall
            clear hall
            have c3 := (hd.cell _).trans c3'
            have c4 := (hd.cell _).trans c4'
            by_cases hlt : i < n
            · obtain ⟨b, off, rfl, -, -, -⟩ := Hel.out i hlt
              have HR : Hid (∀ k, Calls Tryd.prog 64 #[.slice (some ⟨b, off, none⟩) (i+1) cap] (wr.drewN k) (RetQ (wr.drewN k) (.int .i64 (runAt xs i)))) := fun k => by
                have hf := HS.out _ (eo.trans (Ext.ofDrew (hd.drewN k))) (i+1) (by omega)
                have hl : (xs.take (i+1)).length = i + 1 := by rw [List.length_take]; have := Hn.out; omega
                have := sameRun_c _ _ _ _ hf (by omega)
                rw [hl, Nat.add_sub_cancel, runAt_take xs i (by omega)] at this
                exact this
              have Hyes : Hid (m < (runAt xs i : Int) → kf = 4) := fun h => H4'.out (by
                have := (mostTo_gt xs (m.toNat) xs.length).2 ⟨i, by have := Hn.out; omega, by omega⟩
                omega)
              have Hgo : Hid (¬ m < (runAt xs i : Int) → ∀ j, j < i + 1 → (runAt xs j : Int) ≤ m) := fun h j hj => by
                by_cases e : j = i
                · rw [e]; omega
                · exact Hall.out j (by omega)
              have hrr := runAt_pos xs i
              have hic : i + 1 ≤ cap := by omega
              generalize runAt xs i = r at *
              by_cases hm : m < (r : Int)
              · have HY := Lib.hid (Hyes.out hm)
                go_wp2_with fail
                go_quiet ((go_at_call 64; exact RetQ.quiet (HR.out _)))
                go_wp2_with fail
                go_ret
                exact ⟨.int .i64 4, rfl, congrArg (Value.int .i64) HY.out.symm, eo.trans (Ext.ofDrew (hd.drewN _))⟩
              · have HG := Lib.hid (Hgo.out hm)
                go_wp2_with fail
                go_quiet ((go_at_call 64; exact RetQ.quiet (HR.out _)))
                go_wp2_with fail
                go_roundw
                case rel => exact ⟨i+1, by omega, by go_num, HG.out, hd.drewN _⟩
                case measure => simp [intOf]; omega
            · have hin : i = n := by omega
              have HM : Hid (¬ m < (mostTo xs xs.length : Int)) := fun h => by
                obtain ⟨j, hj, h2⟩ := (mostTo_gt xs m.toNat xs.length).1 (by omega)
                have := Hall.out j (by have := Hn.out; omega)
                omega
              have HH := Lib.hid (H5'.out (by have := HM.out; omega))
              clear HM H4' H5' Hall
              generalize kinds xs = kk at *
              by_cases hkk : (kk : Int) < l
              · have HH2 : Hid (kf = 5) := by show _ = _; rw [HH.out, if_pos hkk]
                go_wp2_with fail
                go_quiet ((go_at_call 62; exact RetQ.quiet (HK.out _ (eo.trans (Ext.ofDrew (hd.drewN _))))))
                go_wp2_with fail
                go_ret
                exact ⟨.int .i64 5, rfl, congrArg (Value.int .i64) HH2.out.symm, eo.trans (Ext.ofDrew (hd.drewN _))⟩
              · have HH2 : Hid (kf = 0) := by show _ = _; rw [HH.out, if_neg hkk]
                go_wp2_with fail
                go_quiet ((go_at_call 62; exact RetQ.quiet (HK.out _ (eo.trans (Ext.ofDrew (hd.drewN _))))))
                go_wp2_with fail
                go_ret
                exact ⟨.int .i64 0, rfl, congrArg (Value.int .i64) HH2.out.symm, eo.trans (Ext.ofDrew (hd.drewN _))⟩
  · have hb : ((n : Int) != c) = true := by simpa using hlc
    have HH := Lib.hid (H1.out (by rw [← Hn.out]; exact hlc))
    clear hlc
    go_wp2_with fail
    go_ret
    exact ⟨.int .i64 1, rfl, congrArg (Value.int .i64) HH.out.symm, Ext.alloc _ _⟩

set_option maxRecDepth 20000 in
theorem isKey_c (w : World) (mk : MK) (hd8 : 2 ≤ mk.d ∧ mk.d ≤ 8) (hm0 : 0 ≤ mk.m) (v : Value) (z : Zone) (xs : List Int) (h : IntsR z w v xs) :
    Calls Tryd.prog 60 #[mk.v, v] w (Ret w fun r _ => r = .bool (isKeyB mk xs)) := by
  have hcall := fun (w' : World) (he : Ext w w') => keyFault_c w' mk hd8 hm0 v z xs (stable_ints.ext h he)
  unfold isKeyB
  generalize keyFault mk xs = kf at *
  have HC := Lib.hid hcall
  obtain ⟨a, n, cap, rfl, -⟩ := SliceR.shape h
  obtain ⟨c, d, s, m, l⟩ := mk
  unfold MK.v at *
  simp only at HC ⊢
  clear h hcall
  go_enter Tryd.func60, Tryd.ntmps60
  go_wp2_with fail
  generalize hw0 : World.alloc _ _ = w0
  have e0 : Ext w w0 := by rw [← hw0]; exact Ext.alloc _ _
  clear hw0
  refine Calls.mono (HC.out w0 e0) ?_
  rintro e w1 hr
  obtain ⟨r, rfl, rfl, e1⟩ := ret_ext hr
  go_wp2_with fail
  go_ret
  exact ⟨.bool (kf == 0), rfl, congrArg Value.bool (by by_cases e : kf = 0 <;> simp [e]), e0.trans e1⟩
end Go.Proofs.YtnndaboaeijbkaaDoor
