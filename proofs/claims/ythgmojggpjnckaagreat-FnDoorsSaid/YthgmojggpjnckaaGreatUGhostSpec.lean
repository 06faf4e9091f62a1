/- Proved: the openers of a lock, the reference. -/
import Derived.Test.YthgmojggpjnckaaGreatChecked
import Derived.Deep.RegionHeld3
import Derived.Test.YthgmojggpjnckaaGreatUGhostLaw
import Derived.Test.YthgmojggpjnckaaGreatUPkC
import Derived.Test.YthgmojggpjnckaaGreatUKeyFirst
namespace Go.Proofs.YthgmojggpjnckaaGreat
open Go.ChangeShapes Go.WideShapes Go.ChangeAt Go.RowKit
set_option linter.unusedVariables false

theorem Small.snocI {pre : List Int} (h : Small pre) {d : Int} (h0 : 0 ≤ d) (hd : d ≤ 7) : Small (pre ++ [d]) := by
  have := h.snoc (d := d.toNat) (by omega)
  rwa [show ((d.toNat : Nat) : Int) = d by omega] at this
/-- a lock's sets are few and small -/
def SetsOk (l : List (List Int)) : Prop := ∀ i, (l.getD i []).length ≤ 8 ∧ ∀ k, k < (l.getD i []).length → 0 ≤ (l.getD i []).getD k 0 ∧ (l.getD i []).getD k 0 ≤ 7

set_option maxRecDepth 20000 in
set_option maxHeartbeats 4000000 in
theorem l04Openers_c (mk : MK) (ok : MkOk mk) (l : List (List Int)) (hll : l.length = mk.c.toNat) (hset : SetsOk l) : ∀ (r : Nat) (pre : List Int), pre.length + r = mk.c.toNat → ∀ (w : World) (lo : Nat) (v : Value), IntsR ⟨lo, w.heap.size, false⟩ w v pre → lo ≤ w.heap.size → Small pre → ∀ (vl : Value) (zl : Zone), RowsR zl w vl l → ∀ most : Int, (8 ^ r : Nat) < most → most ≤ 1000000 →
    Calls Tryz.prog 130 #[mk.v, .agg #[vl], v, .int .i64 most] w (Ret w fun r' w' => RowsR ⟨lo, w'.heap.size, false⟩ w' r' (opsR mk l r pre)) := by
  intro r
  induction r with
  | zero =>
    intro pre hl w lo v h hlo hs vl zl hL most hm1 hm2
    have HB := Lib.hid (fun (w' : World) (e : Ext w w') => l02Begins_c w' mk ok.m1 ok.s1 v _ pre (stable_ints.ext h e) hs)
    have HK := Lib.hid (fun (w' : World) (e : Ext w w') => l02Kinds_c w' v _ pre (stable_ints.ext h e))
    have HKR := Lib.hid (opsR_zero mk l pre)
    have HI := Lib.hid (fun (w' : World) (e : Ext w w') => stable_ints.ext h e)
    have hc6 := ok.c6
    have hkl := @kinds_le6 pre
    have hmp : ¬ (most ≤ 0) := by simp at hm1; omega
    generalize opsR mk l 0 pre = res at *
    generalize begins mk pre = q at *
    generalize kinds pre = kk at *
    obtain ⟨c, d, s, m, l0⟩ := mk
    unfold MK.v at *
    simp only at hl HKR hc6 HB ⊢
    obtain ⟨a, n, cap, rfl, hn, hmax, -⟩ := SliceR.shape h
    obtain ⟨la, ln, lcap, rfl, -⟩ := SliceR.shape hL
    have hnc : (n : Int) = c := by omega
    have hb : ((n : Int) == c) = true := by rw [hnc]; simp
    have Hlo := Lib.hid hlo
    clear h hs hn hl ok hnc hL hset hll hm1 hm2 hlo
    go_enter Tryz.func130, Tryz.ntmps130
    go_wp2_with fail
    generalize hw0 : World.alloc (World.alloc _ _) _ = w0
    obtain ⟨e0, S0, cl⟩ : Ext w w0 ∧ MkAt w0 w.heap.size ⟨c, d, s, m, l0⟩ ∧ w0.cell? ⟨w.heap.size + 1, 0, none⟩ = some (.slice la ln lcap) := by
      subst hw0
      refine ⟨(Ext.alloc _ _).trans (Ext.alloc _ _), ⟨?_, ?_, ?_, ?_, ?_⟩, ?_⟩
      all_goals (clear HB HK HKR HI; go_simp; done)
    clear hw0
    have HS := Lib.hid S0
    obtain ⟨c0, c1, c2, c3, c4⟩ := S0
    go_wp2_with fail
    refine Calls.mono (HB.out w0 e0) ?_
    rintro e w1 hr
    obtain ⟨r, rfl, rfl, e1⟩ := ret_ext hr
    clear hr c0 c1 c2 c3 c4
    obtain ⟨c0, c1, c2, c3, c4⟩ := HS.out.ext e1
    have et := e0.trans e1
    cases q with
    | false =>
      have HH : Hid (res = []) := by show _ = _; rw [HKR.out, if_neg (by decide)]
      clear HKR
      go_wp2_with fail
      go_ret
      exact ⟨_, rfl, by rw [HH.out]; exact SliceR.nil _ _ _, et⟩
    | true =>
      have HKQ := Lib.hid (fun (w' : World) (e : Ext w1 w') => HK.out w' (et.trans e))
      by_cases hlk : l0 ≤ (kk : Int)
      · have HH : Hid (res = [pre]) := by show _ = _; rw [HKR.out, if_pos rfl, if_pos hlk]
        have hlt : ¬ ((kk : Int) < l0) := by omega
        clear HKR HK HB
        go_wp2_with fail
        go_quiet ((go_at_call 149; exact RetQ.quiet (HKQ.out _ (Ext.drewN _ _))))
        go_wp2_with fail
        generalize hwq : World.drewN w1 _ = wq
        have eq : Ext w wq := et.trans (by rw [← hwq]; exact Ext.drewN _ _)
        have hwz : w1.heap.size = wq.heap.size := by rw [← hwq]; rfl
        rw [hwz]
        clear hwq hwz
        go_ret
        refine ⟨_, rfl, ?_, eq.trans (Ext.alloc _ _)⟩
        rw [HH.out]
        have h2 := SliceR.one (e := 41) (u := (a, n, cap)) stable_ints (HI.out wq eq) eq.size (Nat.le_refl _) (Nat.le_trans Hlo.out eq.size)
        simpa [slV] using h2
      · have HH : Hid (res = []) := by show _ = _; rw [HKR.out, if_pos rfl, if_neg hlk]
        have hlt : (kk : Int) < l0 := by omega
        clear HKR HK HB
        go_wp2_with fail
        go_quiet ((go_at_call 149; exact RetQ.quiet (HKQ.out _ (Ext.drewN _ _))))
        go_wp2_with fail
        go_ret
        exact ⟨_, rfl, by rw [HH.out]; exact SliceR.nil _ _ _, et.trans (Ext.drewN _ _)⟩
  | succ r ih =>
    intro pre hl w lo v h hlo hs vl zl hL most hm1 hm2
    have HB := Lib.hid (fun (w' : World) (e : Ext w w') => l02Begins_c w' mk ok.m1 ok.s1 v _ pre (stable_ints.ext h e) hs)
    have HOw := Lib.hid (fun (w' : World) (e : Ext w w') => l01Own_c w' v _ pre (stable_ints.ext h e) (by have := ok.c6; omega))
    have HKR := Lib.hid (opsR_succ mk l r pre)
    have hsl := (hset pre.length).1
    have hsv := (hset pre.length).2
    have hP : (opsR mk l (r + 1) pre).length ≤ 8 ^ (r + 1) := opsR_len mk (fun i => (hset i).1) (r + 1) pre
    have HTo0 := Lib.hid (opsTo_zero mk l r pre (l.getD pre.length []))
    have HToS := Lib.hid (fun (k : Nat) (hk : k < (l.getD pre.length []).length) => opsTo_succ mk l r pre (l.getD pre.length []) hk)
    have HToA := Lib.hid (opsTo_all mk l r pre (l.getD pre.length []))
    have HToL := Lib.hid (fun (k : Nat) => opsTo_len mk (fun i => (hset i).1) r pre (l.getD pre.length []) k)
    have hlt0 : pre.length < l.length := by omega
    obtain ⟨la, ln, lcap, rfl, hln, -⟩ := SliceR.shape hL
    obtain ⟨bs, os, rfl, sa, sn, sc, hsn, hsmax, -, hcs, -, hel⟩ := rows_at hL (k := pre.length) (by omega)
    have HIH := Lib.hid (fun (d : Int) (h0 : 0 ≤ d) (h7 : d ≤ 7) (w' : World) (eW : Ext w w') (lo' : Nat) (u : Value) (g : IntsR ⟨lo', w'.heap.size, false⟩ w' u (pre ++ [d])) (hlo' : lo' ≤ w'.heap.size) (mo : Int) (q1 : (8 ^ r : Nat) < mo) (q2 : mo ≤ 1000000) => ih (pre ++ [d]) (by rw [List.length_append, List.length_singleton]; omega) w' lo' u g hlo' (hs.snocI h0 h7) _ zl (stable_rows.ext hL eW) mo q1 q2)
    have HMp := Lib.hid (IntsR.mem h)
    have hc6 := ok.c6
    have Hrl : Hid (pre.length ≤ 6) := by show _ ≤ _; omega
    have Hlo := Lib.hid hlo
    have hpw : 8 ^ (r + 1) = 8 * 8 ^ r := by rw [Nat.pow_succ, Nat.mul_comm]
    rw [hpw] at hm1
    have hpp : 0 < 8 ^ r := Nat.pow_pos (by decide)
    generalize 8 ^ r = P8 at *
    have hmp : ¬ (most ≤ 0) := by omega
    generalize opsR mk l (r + 1) pre = res at *
    generalize begins mk pre = q at *
    generalize hset2 : l.getD pre.length [] = set at *
    generalize opsTo mk l r pre set = oT at *
    generalize opsR mk l r = oR at *
    obtain ⟨c, dd, s, m, l0⟩ := mk
    unfold MK.v at *
    simp only at hl HKR hc6 HB HIH ⊢
    obtain ⟨a, n, cap, rfl, hn, hmax, -⟩ := SliceR.shape h
    have hb : ((n : Int) == c) = false := by rw [beq_eq_false_iff_ne]; omega
    rw [← hn] at hcs
    have hnln : n < ln := by omega
    have HCs := Lib.hid hcs
    have HEl := Lib.hid hel
    have Hsn := Lib.hid hsn
    have HSv := Lib.hid hsv
    have hsn8 : sn ≤ 8 := by omega
    clear h hs hn hl ok ih hL hset hll hlo hP hpw hcs hel hsn hsv hsl hlt0 hln hset2
    go_enter Tryz.func130, Tryz.ntmps130
    go_wp2_with fail
    generalize hw0 : World.alloc (World.alloc _ _) _ = w0
    obtain ⟨e0, S0, cl0⟩ : Ext w w0 ∧ MkAt w0 w.heap.size ⟨c, dd, s, m, l0⟩ ∧ w0.cell? ⟨w.heap.size + 1, 0, none⟩ = some (.slice (some ⟨bs, os, none⟩) ln lcap) := by
      subst hw0
      refine ⟨(Ext.alloc _ _).trans (Ext.alloc _ _), ⟨?_, ?_, ?_, ?_, ?_⟩, ?_⟩
      all_goals (clear HB HOw HKR HTo0 HToS HToA HToL HIH HMp HCs HEl HSv; go_simp; done)
    clear hw0
    have HS := Lib.hid S0
    have HL := Lib.hid cl0
    obtain ⟨c0, c1, c2, c3, c4⟩ := S0
    clear cl0
    go_wp2_with fail
    refine Calls.mono (HB.out w0 e0) ?_
    rintro e w1 hr
    obtain ⟨r', rfl, rfl, e1⟩ := ret_ext hr
    clear hr c0 c1 c2 c3 c4
    replace HS := Lib.hid (HS.out.ext e1)
    replace HL := Lib.hid (e1.cell HL.out)
    obtain ⟨c0, c1, c2, c3, c4⟩ := HS.out
    have et := e0.trans e1
    cases q with
    | false =>
      have HH : Hid (res = []) := by show _ = _; rw [HKR.out, if_neg (by decide)]
      clear HKR
      go_wp2_with fail
      go_ret
      exact ⟨_, rfl, by rw [HH.out]; exact SliceR.nil _ _ _, et⟩
    | true =>
      have HR0 : Hid (res = oT set.length) := by show _ = _; rw [HKR.out, if_pos rfl, HToA.out]
      clear HKR HB HToA
      have cl := HL.out
      have cs := HCs.out w1 et
      go_upto_region 8 with fail
      generalize hw2 : World.alloc _ _ = w2
      obtain ⟨e2, o2⟩ : Ext w1 w2 ∧ OwnA false (fun k => lo ≤ k) IntsR 41 w1.heap.size w2 (.slice (some ⟨w1.heap.size, 0, none⟩) 0 0) [] := by
        subst hw2
        exact ⟨Ext.alloc _ _, OwnA.empty (Nat.le_refl _)⟩
      clear hw2 c0 c1 c2 c3 c4 cl cs
      have cl := e2.cell HL.out
      have cs := HCs.out w2 (et.trans e2)
      go_wp2_with fail
      go_loopw [9, 11] (fun s9 s11 wr => ∃ k : Nat, k ≤ sn ∧ s11 = .int .i64 k ∧ OwnA false (fun k => lo ≤ k) IntsR 41 w1.heap.size wr s9 (oT k) ∧ Ext w1 wr) (fun _ s11 _ => sn - (intOf s11).toNat)
      case atStart => exact ⟨0, Nat.zero_le _, rfl, by rw [HTo0.out]; exact o2, e2⟩
      case round =>
        clear cl cs o2 e2
        obtain ⟨k, hk, rfl, own, ew⟩ := hrel
        have etw := et.trans ew
        have HCel : Hid (∀ w', Ext w1 w' → w'.cell? ⟨w.heap.size, 0, none⟩ = some (.int .i64 c) ∧ w'.cell? ⟨w.heap.size, 1, none⟩ = some (.int .i64 dd) ∧ w'.cell? ⟨w.heap.size, 2, none⟩ = some (.int .i64 s) ∧ w'.cell? ⟨w.heap.size, 3, none⟩ = some (.int .i64 m) ∧ w'.cell? ⟨w.heap.size, 4, none⟩ = some (.int .i64 l0) ∧ w'.cell? ⟨w.heap.size + 1, 0, none⟩ = some (.slice (some ⟨bs, os, none⟩) ln lcap)) := fun w' e => by
          obtain ⟨q0, q1, q2, q3, q4⟩ := HS.out.ext e
          exact ⟨q0, q1, q2, q3, q4, e.cell HL.out⟩
        by_cases hlt : k < sn
        · obtain ⟨b1, o1, rfl, hx64, hc1⟩ := HEl.out k hlt
          have hks : k < set.length := by rw [← Hsn.out]; exact hlt
          have hsk := HSv.out k hks
          have HToSk := Lib.hid (HToS.out k hks)
          have hTl := HToL.out k
          have hTl1 := HToL.out (k + 1)
          generalize set.getD k 0 = d at *
          have HId := Lib.hid (HIH.out d hsk.1 hsk.2)
          have HM : Hid (∀ x ∈ pre ++ [d], I64 x) := fun x hx => by
            rcases List.mem_append.1 hx with h | h
            · exact HMp.out x h
            · rw [List.mem_singleton.1 h]; exact hx64
          rw [HToSk.out, List.length_append] at hTl1
          have hkP : k * P8 ≤ 7 * P8 := Nat.mul_le_mul_right _ (by omega)
          have hkP1 : (k + 1) * P8 ≤ 8 * P8 := Nat.mul_le_mul_right _ (by omega)
          generalize oR (pre ++ [d]) = ys at *
          generalize hup : oT k = up at *
          obtain ⟨av, nv, cv, rfl, hnv, hnm⟩ := OwnA.shape own
          have hwr : IntKind.i64.wrap (most - (nv : Int)) = most - (nv : Int) := IntWalk.i64_in _ (by omega)
          have hmo : (P8 : Int) < most - (nv : Int) := by omega
          have hmo2 : most - (nv : Int) ≤ 1000000 := by omega
          have HN : Hid (up.length + ys.length ≤ 1099511627776) := by show _ ≤ _; omega
          have HMo := Lib.hid hmo
          have HMo2 := Lib.hid hmo2
          have HO := Lib.hid (fun (w' : World) (e : Ext wr w') => HOw.out w' (etw.trans e))
          have hsz1 : w1.heap.size ≤ wr.heap.size := ew.size
          have hlow : lo ≤ wr.heap.size := Nat.le_trans Hlo.out etw.size
          have HZ : Hid (∀ (w9 : World) (j : Nat), (⟨wr.heap.size, w9.heap.size, false⟩ : Zone).Has j → lo ≤ j ∧ j < w9.heap.size ∧ (Value.slice av nv cv).ownBlock ≠ some j) := fun w9 j hj => by
            have h1 := hj.1
            have h2 := hj.2
            simp only at h1 h2
            refine ⟨by omega, h2, fun e => ?_⟩
            have := (OwnA.block own j e).2
            omega
          have HOwn := Lib.hid own
          have HG : Hid (∀ (w9 w10 : World), Ext wr w9 → w9.grownBy w10 (Value.slice av nv cv).ownBlock → Ext w1 w10) := fun w9 w10 e g => Below.grown (ew.trans e) g (Nat.le_trans hsz1 e.size) (fun j hj => (OwnA.block own j hj).1)
          have HCe2 : Hid (∀ w', Ext w1 w' → w'.cell? ⟨w.heap.size, 0, none⟩ = some (.int .i64 c) ∧ w'.cell? ⟨w.heap.size, 1, none⟩ = some (.int .i64 dd) ∧ w'.cell? ⟨w.heap.size, 2, none⟩ = some (.int .i64 s) ∧ w'.cell? ⟨w.heap.size, 3, none⟩ = some (.int .i64 m) ∧ w'.cell? ⟨w.heap.size, 4, none⟩ = some (.int .i64 l0) ∧ w'.cell? ⟨w.heap.size + 1, 0, none⟩ = some (.slice (some ⟨bs, os, none⟩) ln lcap) ∧ w'.cell? ⟨b1, o1 + k, none⟩ = some (.int .i64 d)) := fun w' e => by
            obtain ⟨q0, q1, q2, q3, q4, q5⟩ := HCel.out w' e
            exact ⟨q0, q1, q2, q3, q4, q5, hc1 w' (et.trans e)⟩
          obtain ⟨c0, c1, c2, c3, c4, cl, cd⟩ := HCe2.out wr ew
          have er := Ext.refl wr
          clear HIH HToS HToL hTl hTl1 hup own hnv hc1 hsk HEl HSv HCel hkP hkP1 hm1 hm2
          go_wp2_with fail
          go_region_held3 (fun w' => w'.cell? ⟨w.heap.size, 0, none⟩ = some (.int .i64 c) ∧ w'.cell? ⟨w.heap.size, 1, none⟩ = some (.int .i64 dd) ∧ w'.cell? ⟨w.heap.size, 2, none⟩ = some (.int .i64 s) ∧ w'.cell? ⟨w.heap.size, 3, none⟩ = some (.int .i64 m) ∧ w'.cell? ⟨w.heap.size, 4, none⟩ = some (.int .i64 l0) ∧ w'.cell? ⟨w.heap.size + 1, 0, none⟩ = some (.slice (some ⟨bs, os, none⟩) ln lcap) ∧ w'.cell? ⟨b1, o1 + k, none⟩ = some (.int .i64 d)) (first | exact HCe2.out _ (by with_reducible assumption) | exact HCe2.out _ (ew.trans (by repeat (first | exact Ext.refl _ | assumption | (refine Ext.trans ?_ (Ext.alloc _ _)) | (refine Ext.trans ?_ (Ext.drew _)) | (refine Ext.trans ?_ (by assumption)))))) (first | (go_at_call 78; (with_reducible refine (HO.out _ (by repeat (first | exact Ext.refl _ | assumption | (refine Ext.trans ?_ (Ext.alloc _ _)) | (refine Ext.trans ?_ (Ext.drew _)) | (refine Ext.trans ?_ (by assumption))))).mono ?_); rintro e w7 hr7; obtain ⟨r7, rfl, o7, e7⟩ := ret_ext hr7; clear hr7; have o7' := OwnP.lower (B' := wr.heap.size) o7 (Ext.size (by repeat (first | exact Ext.refl _ | assumption | (refine Ext.trans ?_ (Ext.alloc _ _)) | (refine Ext.trans ?_ (Ext.drew _)) | (refine Ext.trans ?_ (by assumption))))); obtain ⟨a7, n7, k7, rfl, -⟩ := OwnP.shape o7') | (refine step_append_of (by rfl) _ _ 41 (by rfl) (by rfl) (by rfl) (fun ty => run_appendR (f := Value.int .i64) (B := wr.heap.size) 41 ty 0 8 Tryz.underlying41 Tryz.infoI64 rfl (fun _ => rfl) (OwnP.ext o7' (by repeat (first | exact Ext.refl _ | assumption | (refine Ext.trans ?_ (Ext.alloc _ _)) | (refine Ext.trans ?_ (Ext.drew _)) | (refine Ext.trans ?_ (by assumption))))) (E := IntR) (fun h => h.1) (ys := [(d : Int)]) (by first | exact ints_one _ (d : Int) _ hx64 | exact stable_ints.ext (ints_one _ (d : Int) _ hx64) (by repeat (first | exact Ext.refl _ | assumption | (refine Ext.trans ?_ (Ext.alloc _ _)) | (refine Ext.trans ?_ (Ext.drew _)) | (refine Ext.trans ?_ (by assumption))))) (by have := Hrl.out; rw [List.length_singleton]; omega) (by decide) (Ext.size (by repeat (first | exact Ext.refl _ | assumption | (refine Ext.trans ?_ (Ext.alloc _ _)) | (refine Ext.trans ?_ (Ext.drew _)) | (refine Ext.trans ?_ (by assumption)))))) ?_; intro v8 w8 h8; obtain ⟨o8, -, b8, -⟩ := h8; have e8 : Ext wr w8 := Ext.to' (a := wr) (by repeat (first | exact Ext.refl _ | assumption | (refine Ext.trans ?_ (Ext.alloc _ _)) | (refine Ext.trans ?_ (Ext.drew _)) | (refine Ext.trans ?_ (by assumption)))) b8; clear b8; have i8 : IntsR ⟨wr.heap.size, w8.heap.size, false⟩ w8 v8 (pre ++ [d]) := stable_ints.sub (OwnP.ints o8 HM.out (Nat.le_refl _)) ⟨fun k hk => hk, fun h => by cases h⟩; obtain ⟨a8, n8, k8, rfl, -⟩ := OwnP.shape o8) | (go_at_call 130; refine (HId.out _ (etw.trans e8) wr.heap.size _ i8 (Ext.size e8) _ HMo.out HMo2.out).mono ?_; rintro e w9 hr9; obtain ⟨r9, rfl, o9, e9⟩ := ret_ext hr9; clear hr9; have e99 : Ext wr w9 := e8.trans e9; obtain ⟨a9, n9, k9, rfl, -⟩ := SliceR.shape o9) | (refine step_append_of (by rfl) _ _ 30 (by rfl) (by rfl) (by rfl) (fun ty => run_appendRows (b := false) (A := fun k => lo ≤ k) stable_ints slRepr_slice 30 ty Tryz.underlying30 Tryz.infoInts HOwn.out e99 o9 (fun h => by cases h) (HZ.out _) (fun h => by cases h) HN.out hsz1) ?_; intro v10 w10 h10; obtain ⟨o10, g10, -⟩ := h10; have e10 : Ext w1 w10 := HG.out _ _ e99 g10) | fail)
          all_goals (go_wp2_with fail; go_roundw)
          any_goals (simp [intOf]; omega)
          all_goals exact ⟨k + 1, by omega, by go_num, by rw [HToSk.out]; exact o10, e10⟩
        · have hkn : k = set.length := by have := Hsn.out; omega
          have HH : Hid (res = oT k) := by show _ = _; rw [HR0.out, hkn]
          go_wp2_with fail
          go_ret
          exact ⟨_, rfl, by rw [HH.out]; exact OwnA.reads own (fun _ h => h) (Nat.le_trans Hlo.out et.size), etw⟩
end Go.Proofs.YthgmojggpjnckaaGreat
