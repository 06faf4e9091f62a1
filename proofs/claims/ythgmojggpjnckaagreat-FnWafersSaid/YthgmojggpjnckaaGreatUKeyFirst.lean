/- Proved: the first key and the next key, the reference. -/
import Derived.Test.YthgmojggpjnckaaGreatChecked
import Derived.Deep.RegionHeld3
import Derived.Test.YthgmojggpjnckaaGreatUKeyBegins
import Derived.Test.YthgmojggpjnckaaGreatUPkA
import Derived.Test.YthgmojggpjnckaaGreatUPkE
namespace Go.Proofs.YthgmojggpjnckaaGreat
open Go.ChangeShapes Go.WideShapes Go.ChangeAt Go.RowKit
set_option linter.unusedVariables false

/-- what a search for a key hands back -/
def KeyRes (lo : Nat) (L : List (List Int)) (r : Value) (w' : World) : Prop :=
  (L = [] → ∃ u ks, r = .tuple #[u, .bool false] ∧ IntsR ⟨lo, w'.heap.size, true⟩ w' u ks) ∧ ∀ k L', L = k :: L' → ∃ u, r = .tuple #[u, .bool true] ∧ IntsR ⟨lo, w'.heap.size, true⟩ w' u k
theorem KeyRes.none {lo : Nat} {L : List (List Int)} {u : Value} {ks : List Int} {w : World} (h : L = []) (i : IntsR ⟨lo, w.heap.size, true⟩ w u ks) : KeyRes lo L (.tuple #[u, .bool false]) w := ⟨fun _ => ⟨_, _, rfl, i⟩, fun k L' h2 => by rw [h] at h2; cases h2⟩
theorem KeyRes.some {lo : Nat} {L L' : List (List Int)} {k : List Int} {u : Value} {w : World} (h : L = k :: L') (i : IntsR ⟨lo, w.heap.size, true⟩ w u k) : KeyRes lo L (.tuple #[u, .bool true]) w := ⟨fun h2 => by (rw [h] at h2; cases h2), fun k2 L2 h2 => by
  rw [h] at h2
  injection h2 with h3 h4
  subst h3
  exact ⟨_, rfl, i⟩⟩
theorem Small.snoc {pre : List Int} (h : Small pre) {d : Nat} (hd : d ≤ 7) : Small (pre ++ [(d : Int)]) := by
  intro i hi
  rw [List.length_append, List.length_singleton] at hi
  by_cases e : i < pre.length
  · have := h i e
    rw [List.getD_eq_getElem?_getD, List.getElem?_append_left e, ← List.getD_eq_getElem?_getD]
    exact this
  · have : i = pre.length := by omega
    subst this
    simp
    omega

set_option maxRecDepth 20000 in
set_option maxHeartbeats 2000000 in
theorem l02First_c (mk : MK) (ok : MkOk mk) : ∀ (r : Nat) (pre : List Int), pre.length + r = mk.c.toNat → ∀ (lo : Nat) (w : World) (v : Value) (z : Zone), IntsR z w v pre → lo ≤ w.heap.size → lo ≤ z.lo → z.hi ≤ w.heap.size → z.own = true → Small pre →
    Calls Tryz.prog 114 #[mk.v, v] w (Ret w fun r' w' => KeyRes lo (keysR mk mk.d.toNat r pre) r' w') := by
  intro r
  induction r with
  | zero =>
    intro pre hl lo w v z h hlw hz1 hz2 hz3 hs
    have HB := Lib.hid (fun (w' : World) (e : Ext w w') => l02Begins_c w' mk ok.m1 ok.s1 v z pre (stable_ints.ext h e) hs)
    have HK := Lib.hid (fun (w' : World) (e : Ext w w') => l02Kinds_c w' v z pre (stable_ints.ext h e))
    have HKR := Lib.hid (keysR_zero mk mk.d.toNat pre)
    have HF : Hid (∀ w', Ext w w' → IntsR ⟨lo, w'.heap.size, true⟩ w' v pre) := fun w' e => stable_ints.sub (stable_ints.ext h e) ⟨fun k hk => ⟨Nat.le_trans hz1 hk.1, Nat.lt_of_lt_of_le hk.2 (Nat.le_trans hz2 e.size)⟩, fun _ => hz3⟩
    have hc6 := ok.c6
    generalize keysR mk mk.d.toNat 0 pre = res at *
    generalize begins mk pre = q at *
    generalize kinds pre = kk at *
    obtain ⟨c, d, s, m, l⟩ := mk
    unfold MK.v at *
    simp only at hl HKR hc6 HB ⊢
    obtain ⟨a, n, cap, rfl, hn, hmax, -⟩ := SliceR.shape h
    have hnc : (n : Int) = c := by omega
    have hb : ((n : Int) == c) = true := by rw [hnc]; simp
    clear h hs hn hl ok hnc hz1 hz2 hz3 hlw
    go_enter Tryz.func114, Tryz.ntmps114
    go_wp2_with fail
    generalize hw0 : World.alloc _ _ = w0
    obtain ⟨e0, S0⟩ := mk_box (mk := ⟨c, d, s, m, l⟩) hw0
    clear hw0
    have HS := Lib.hid S0
    obtain ⟨c0, c1, c2, c3, c4⟩ := S0
    go_wp2_with fail
    refine Calls.mono (HB.out w0 e0) ?_
    rintro e w1 hr
    obtain ⟨r, rfl, rfl, e1⟩ := ret_ext hr
    clear hr c0 c1 c2 c3 c4
    obtain ⟨c0, c1, c2, c3, c4⟩ := HS.out.ext e1
    have et := e0.trans e1
    cases q with
    | false =>
      have HH : Hid (res = []) := by show _ = _; rw [HKR.out, if_neg (by decide)]
      clear HKR
      go_wp2_with fail
      go_ret2
      exact ⟨_, rfl, (KeyRes.none HH.out (SliceR.nil _ _ _)), et⟩
    | true =>
      have HKQ := Lib.hid (fun (w' : World) (e : Ext w1 w') => HK.out w' (et.trans e))
      by_cases hlk : l ≤ (kk : Int)
      · have HH : Hid (res = [pre]) := by show _ = _; rw [HKR.out, if_pos rfl, if_pos hlk]
        have hge : (kk : Int) ≥ l := hlk
        clear HKR HK HB
        go_wp2_with fail
        go_quiet ((go_at_call 149; exact RetQ.quiet (HKQ.out _ (Ext.drewN _ _))))
        go_wp2_with fail
        go_ret2
        refine ⟨_, rfl, ?_, et.trans (Ext.drewN _ _)⟩
        exact KeyRes.some HH.out (HF.out _ (et.trans (Ext.drewN _ _)))
      · have HH : Hid (res = []) := by show _ = _; rw [HKR.out, if_pos rfl, if_neg hlk]
        have hge : ¬ ((kk : Int) ≥ l) := hlk
        clear HKR HK HB
        go_wp2_with fail
        go_quiet ((go_at_call 149; exact RetQ.quiet (HKQ.out _ (Ext.drewN _ _))))
        go_wp2_with fail
        go_ret2
        refine ⟨_, rfl, ?_, et.trans (Ext.drewN _ _)⟩
        show KeyRes lo res (.tuple #[.slice a n cap, .bool (decide (l ≤ (kk : Int)))]) _
        rw [decide_eq_false (by omega)]
        exact KeyRes.none HH.out (HF.out _ (et.trans (Ext.drewN _ _)))
  | succ r ih =>
    intro pre hl lo w v z h hlw hz1 hz2 hz3 hs
    have HB := Lib.hid (fun (w' : World) (e : Ext w w') => l02Begins_c w' mk ok.m1 ok.s1 v z pre (stable_ints.ext h e) hs)
    have HOw := Lib.hid (fun (w' : World) (e : Ext w w') => l01Own_c w' v z pre (stable_ints.ext h e) (by have := ok.c6; omega))
    have HKR := Lib.hid (keysR_succ mk mk.d.toNat r pre)
    have HSt := Lib.hid (fun (d : Nat) (h : d < mk.d.toNat) => sweep_step mk r pre h)
    have HSe := Lib.hid (fun (d : Nat) (h : mk.d.toNat ≤ d) => sweep_end mk r pre h)
    have HIH := Lib.hid (fun (d : Nat) (h : d < mk.d.toNat) (w' : World) (u : Value) (y : Zone) (g : IntsR y w' u (pre ++ [(d : Int)])) (q0 : lo ≤ w'.heap.size) (q1 : lo ≤ y.lo) (q2 : y.hi ≤ w'.heap.size) (q3 : y.own = true) => ih (pre ++ [(d : Int)]) (by rw [List.length_append, List.length_singleton]; omega) lo w' u y g q0 q1 q2 q3 (hs.snoc (by have := ok.d8; omega)))
    have HMp := Lib.hid (IntsR.mem h)
    have hc6 := ok.c6
    have hd8 := ok.d8
    have Hrl : Hid (pre.length ≤ 6) := by show _ ≤ _; omega
    generalize keysR mk mk.d.toNat (r + 1) pre = res at *
    generalize begins mk pre = q at *
    generalize sweep mk mk.d.toNat r pre = sw at *
    generalize keysR mk mk.d.toNat r = kR at *
    obtain ⟨c, dd, s, m, l⟩ := mk
    unfold MK.v at *
    simp only at hl HKR hc6 hd8 HB HSt HSe HIH ⊢
    obtain ⟨D, rfl⟩ := Int.eq_ofNat_of_zero_le (by omega : 0 ≤ dd)
    simp only [Int.toNat_natCast] at HSt HSe HIH
    obtain ⟨a, n, cap, rfl, hn, hmax, -⟩ := SliceR.shape h
    have hb : ((n : Int) == c) = false := by rw [beq_eq_false_iff_ne]; omega
    clear h hs hn hl ok ih hz1 hz2 hz3
    have HLW := Lib.hid hlw
    clear hlw
    go_enter Tryz.func114, Tryz.ntmps114
    go_wp2_with fail
    generalize hw0 : World.alloc _ _ = w0
    obtain ⟨e0, S0⟩ := mk_box (mk := ⟨c, D, s, m, l⟩) hw0
    clear hw0
    have HS := Lib.hid S0
    obtain ⟨c0, c1, c2, c3, c4⟩ := S0
    go_wp2_with fail
    refine Calls.mono (HB.out w0 e0) ?_
    rintro e w1 hr
    obtain ⟨r, rfl, rfl, e1⟩ := ret_ext hr
    clear hr c0 c1 c2 c3 c4
    replace HS := Lib.hid (HS.out.ext e1)
    obtain ⟨c0, c1, c2, c3, c4⟩ := HS.out
    have et := e0.trans e1
    cases q with
    | false =>
      have HH : Hid (res = []) := by show _ = _; rw [HKR.out, if_neg (by decide)]
      clear HKR
      go_wp2_with fail
      go_ret2
      exact ⟨_, rfl, (KeyRes.none HH.out (SliceR.nil _ _ _)), et⟩
    | true =>
      have HR0 : Hid (res = sw 0) := by show _ = _; rw [HKR.out, if_pos rfl]
      clear HKR HB
      go_wp2_with fail
      clear c0 c1 c2 c3 c4
      go_loopw [6, 7, 8] (fun s6 _ _ wr => ∃ d : Nat, d ≤ D ∧ s6 = .int .i64 d ∧ res = sw d ∧ Ext w1 wr) (fun s6 _ _ _ => D - (intOf s6).toNat)
      case atStart => exact ⟨0, Nat.zero_le _, rfl, HR0.out, Ext.refl _⟩
      case round =>
        obtain ⟨d, hd, rfl, hres, ew⟩ := hrel
        have Hres := Lib.hid hres
        clear hres
        have etw := et.trans ew
        have HLr : Hid (lo ≤ wr.heap.size) := Nat.le_trans HLW.out etw.size
        have HCel : Hid (∀ w', Ext wr w' → w'.cell? ⟨w.heap.size, 0, none⟩ = some (.int .i64 c) ∧ w'.cell? ⟨w.heap.size, 1, none⟩ = some (.int .i64 D) ∧ w'.cell? ⟨w.heap.size, 2, none⟩ = some (.int .i64 s) ∧ w'.cell? ⟨w.heap.size, 3, none⟩ = some (.int .i64 m) ∧ w'.cell? ⟨w.heap.size, 4, none⟩ = some (.int .i64 l)) := fun w' e => HS.out.ext (ew.trans e)
        obtain ⟨c0, c1, c2, c3, c4⟩ := HS.out.ext ew
        by_cases hlt : d < D
        · have HO := Lib.hid (fun (w' : World) (e : Ext wr w') => HOw.out w' (etw.trans e))
          have HStd := Lib.hid (HSt.out d hlt)
          have HId := Lib.hid (HIH.out d hlt)
          have hdI : I64 (d : Int) := by unfold I64; omega
          have HM : Hid (∀ x ∈ pre ++ [(d : Int)], I64 x) := fun x hx => by
            rcases List.mem_append.1 hx with h | h
            · exact HMp.out x h
            · rw [List.mem_singleton.1 h]; exact hdI
          cases hL : kR (pre ++ [(d : Int)]) with
          | nil =>
            have HI0 : Hid (∀ (w' : World) (u : Value) (y : Zone), IntsR y w' u (pre ++ [(d : Int)]) → wr.heap.size ≤ y.lo → y.hi ≤ w'.heap.size → y.own = true → wr.heap.size ≤ w'.heap.size → Calls Tryz.prog 114 #[.agg #[.int .i64 c, .int .i64 D, .int .i64 s, .int .i64 m, .int .i64 l], u] w' (Ret w' fun r' w'' => ∃ u', r' = .tuple #[u', .bool false])) := fun w' u y g q1 q2 q3 q4 => by
              refine (HId.out w' u y g (Nat.le_trans HLr.out q4) (Nat.le_trans HLr.out q1) q2 q3).mono ?_
              rintro e w'' hr
              obtain ⟨r', rfl, k, ee⟩ := ret_ext hr
              exact ⟨r', rfl, (k.1 hL).imp fun _ q => q.elim fun _ q => q.1, ee⟩
            have HR1 : Hid (res = sw (d + 1)) := by show _ = _; rw [Hres.out, HStd.out, hL]; rfl
            clear HId HIH HStd HSt hL
            go_wp2_with fail
            go_region_held3 (fun w' => w'.cell? ⟨w.heap.size, 0, none⟩ = some (.int .i64 c) ∧ w'.cell? ⟨w.heap.size, 1, none⟩ = some (.int .i64 D) ∧ w'.cell? ⟨w.heap.size, 2, none⟩ = some (.int .i64 s) ∧ w'.cell? ⟨w.heap.size, 3, none⟩ = some (.int .i64 m) ∧ w'.cell? ⟨w.heap.size, 4, none⟩ = some (.int .i64 l)) (exact HCel.out _ (by repeat (first | exact Ext.refl _ | assumption | (refine Ext.trans ?_ (Ext.alloc _ _)) | (refine Ext.trans ?_ (Ext.drew _)) | (refine Ext.trans ?_ (by assumption))))) (first | (go_at_call 78; (with_reducible refine (HO.out _ (by repeat (first | exact Ext.refl _ | assumption | (refine Ext.trans ?_ (Ext.alloc _ _)) | (refine Ext.trans ?_ (Ext.drew _)) | (refine Ext.trans ?_ (by assumption))))).mono ?_); rintro e w7 hr7; obtain ⟨r7, rfl, o7, e7⟩ := ret_ext hr7; clear hr7; have o7' := OwnP.lower (B' := wr.heap.size) o7 (Ext.size (by repeat (first | exact Ext.refl _ | assumption | (refine Ext.trans ?_ (Ext.alloc _ _)) | (refine Ext.trans ?_ (Ext.drew _)) | (refine Ext.trans ?_ (by assumption))))); obtain ⟨a7, n7, k7, rfl, -⟩ := OwnP.shape o7') | (refine step_append_of (by rfl) _ _ 41 (by rfl) (by rfl) (by rfl) (fun ty => run_appendR (f := Value.int .i64) (B := wr.heap.size) 41 ty 0 8 Tryz.underlying41 Tryz.infoI64 rfl (fun _ => rfl) (OwnP.ext o7' (by repeat (first | exact Ext.refl _ | assumption | (refine Ext.trans ?_ (Ext.alloc _ _)) | (refine Ext.trans ?_ (Ext.drew _)) | (refine Ext.trans ?_ (by assumption))))) (E := IntR) (fun h => h.1) (ys := [(d : Int)]) (by first | exact ints_one _ (d : Int) _ hdI | exact stable_ints.ext (ints_one _ (d : Int) _ hdI) (by repeat (first | exact Ext.refl _ | assumption | (refine Ext.trans ?_ (Ext.alloc _ _)) | (refine Ext.trans ?_ (Ext.drew _)) | (refine Ext.trans ?_ (by assumption))))) (by have := Hrl.out; rw [List.length_singleton]; omega) (by decide) (Ext.size (by repeat (first | exact Ext.refl _ | assumption | (refine Ext.trans ?_ (Ext.alloc _ _)) | (refine Ext.trans ?_ (Ext.drew _)) | (refine Ext.trans ?_ (by assumption)))))) ?_; intro v8 w8 h8; obtain ⟨o8, -, b8, -⟩ := h8; have e8 : Ext wr w8 := Ext.to' (a := wr) (by repeat (first | exact Ext.refl _ | assumption | (refine Ext.trans ?_ (Ext.alloc _ _)) | (refine Ext.trans ?_ (Ext.drew _)) | (refine Ext.trans ?_ (by assumption)))) b8; clear b8; have i8 := OwnP.ints o8 HM.out (Nat.le_refl _); obtain ⟨a8, n8, k8, rfl, -⟩ := OwnP.shape o8) | (go_at_call 114; refine (HI0.out _ _ _ (stable_ints.ext i8 (by repeat (first | exact Ext.refl _ | assumption | (refine Ext.trans ?_ (Ext.alloc _ _)) | (refine Ext.trans ?_ (Ext.drew _)) | (refine Ext.trans ?_ (by assumption))))) (Nat.le_refl _) (Ext.size (by repeat (first | exact Ext.refl _ | assumption | (refine Ext.trans ?_ (Ext.alloc _ _)) | (refine Ext.trans ?_ (Ext.drew _)) | (refine Ext.trans ?_ (by assumption))))) rfl (Ext.size (by repeat (first | exact Ext.refl _ | assumption | (refine Ext.trans ?_ (Ext.alloc _ _)) | (refine Ext.trans ?_ (Ext.drew _)) | (refine Ext.trans ?_ (by assumption)))))).mono ?_; rintro e w9 hr9; obtain ⟨r9, rfl, ⟨u9, rfl⟩, e9⟩ := ret_ext hr9; clear hr9; have e99 : Ext wr w9 := (by repeat (first | exact Ext.refl _ | assumption | (refine Ext.trans ?_ (Ext.alloc _ _)) | (refine Ext.trans ?_ (Ext.drew _)) | (refine Ext.trans ?_ (by assumption))))) | fail)
            all_goals (go_wp2_with fail; go_roundw)
            any_goals (simp [intOf]; omega)
            all_goals exact ⟨d + 1, by omega, by go_num, HR1.out, ew.trans e99⟩
          | cons k L' =>
            have HI1 : Hid (∀ (w' : World) (u : Value) (y : Zone), IntsR y w' u (pre ++ [(d : Int)]) → wr.heap.size ≤ y.lo → y.hi ≤ w'.heap.size → y.own = true → wr.heap.size ≤ w'.heap.size → Calls Tryz.prog 114 #[.agg #[.int .i64 c, .int .i64 D, .int .i64 s, .int .i64 m, .int .i64 l], u] w' (Ret w' fun r' w'' => ∃ u', r' = .tuple #[u', .bool true] ∧ IntsR ⟨lo, w''.heap.size, true⟩ w'' u' k)) := fun w' u y g q1 q2 q3 q4 => by
              refine (HId.out w' u y g (Nat.le_trans HLr.out q4) (Nat.le_trans HLr.out q1) q2 q3).mono ?_
              rintro e w'' hr
              obtain ⟨r', rfl, kk, ee⟩ := ret_ext hr
              exact ⟨r', rfl, kk.2 _ _ hL, ee⟩
            have HR1 : Hid (res = k :: (L' ++ sw (d + 1))) := by show _ = _; rw [Hres.out, HStd.out, hL]; rfl
            clear HId HIH HStd HSt hL
            go_wp2_with fail
            go_region_held3 (fun w' => w'.cell? ⟨w.heap.size, 0, none⟩ = some (.int .i64 c) ∧ w'.cell? ⟨w.heap.size, 1, none⟩ = some (.int .i64 D) ∧ w'.cell? ⟨w.heap.size, 2, none⟩ = some (.int .i64 s) ∧ w'.cell? ⟨w.heap.size, 3, none⟩ = some (.int .i64 m) ∧ w'.cell? ⟨w.heap.size, 4, none⟩ = some (.int .i64 l)) (exact HCel.out _ (by repeat (first | exact Ext.refl _ | assumption | (refine Ext.trans ?_ (Ext.alloc _ _)) | (refine Ext.trans ?_ (Ext.drew _)) | (refine Ext.trans ?_ (by assumption))))) (first | (go_at_call 78; (with_reducible refine (HO.out _ (by repeat (first | exact Ext.refl _ | assumption | (refine Ext.trans ?_ (Ext.alloc _ _)) | (refine Ext.trans ?_ (Ext.drew _)) | (refine Ext.trans ?_ (by assumption))))).mono ?_); rintro e w7 hr7; obtain ⟨r7, rfl, o7, e7⟩ := ret_ext hr7; clear hr7; have o7' := OwnP.lower (B' := wr.heap.size) o7 (Ext.size (by repeat (first | exact Ext.refl _ | assumption | (refine Ext.trans ?_ (Ext.alloc _ _)) | (refine Ext.trans ?_ (Ext.drew _)) | (refine Ext.trans ?_ (by assumption))))); obtain ⟨a7, n7, k7, rfl, -⟩ := OwnP.shape o7') | (refine step_append_of (by rfl) _ _ 41 (by rfl) (by rfl) (by rfl) (fun ty => run_appendR (f := Value.int .i64) (B := wr.heap.size) 41 ty 0 8 Tryz.underlying41 Tryz.infoI64 rfl (fun _ => rfl) (OwnP.ext o7' (by repeat (first | exact Ext.refl _ | assumption | (refine Ext.trans ?_ (Ext.alloc _ _)) | (refine Ext.trans ?_ (Ext.drew _)) | (refine Ext.trans ?_ (by assumption))))) (E := IntR) (fun h => h.1) (ys := [(d : Int)]) (by first | exact ints_one _ (d : Int) _ hdI | exact stable_ints.ext (ints_one _ (d : Int) _ hdI) (by repeat (first | exact Ext.refl _ | assumption | (refine Ext.trans ?_ (Ext.alloc _ _)) | (refine Ext.trans ?_ (Ext.drew _)) | (refine Ext.trans ?_ (by assumption))))) (by have := Hrl.out; rw [List.length_singleton]; omega) (by decide) (Ext.size (by repeat (first | exact Ext.refl _ | assumption | (refine Ext.trans ?_ (Ext.alloc _ _)) | (refine Ext.trans ?_ (Ext.drew _)) | (refine Ext.trans ?_ (by assumption)))))) ?_; intro v8 w8 h8; obtain ⟨o8, -, b8, -⟩ := h8; have e8 : Ext wr w8 := Ext.to' (a := wr) (by repeat (first | exact Ext.refl _ | assumption | (refine Ext.trans ?_ (Ext.alloc _ _)) | (refine Ext.trans ?_ (Ext.drew _)) | (refine Ext.trans ?_ (by assumption)))) b8; clear b8; have i8 := OwnP.ints o8 HM.out (Nat.le_refl _); obtain ⟨a8, n8, k8, rfl, -⟩ := OwnP.shape o8) | (go_at_call 114; refine (HI1.out _ _ _ (stable_ints.ext i8 (by repeat (first | exact Ext.refl _ | assumption | (refine Ext.trans ?_ (Ext.alloc _ _)) | (refine Ext.trans ?_ (Ext.drew _)) | (refine Ext.trans ?_ (by assumption))))) (Nat.le_refl _) (Ext.size (by repeat (first | exact Ext.refl _ | assumption | (refine Ext.trans ?_ (Ext.alloc _ _)) | (refine Ext.trans ?_ (Ext.drew _)) | (refine Ext.trans ?_ (by assumption))))) rfl (Ext.size (by repeat (first | exact Ext.refl _ | assumption | (refine Ext.trans ?_ (Ext.alloc _ _)) | (refine Ext.trans ?_ (Ext.drew _)) | (refine Ext.trans ?_ (by assumption)))))).mono ?_; rintro e w9 hr9; obtain ⟨r9, rfl, ⟨u9, rfl, i9⟩, e9⟩ := ret_ext hr9; clear hr9; have e99 : Ext wr w9 := (by repeat (first | exact Ext.refl _ | assumption | (refine Ext.trans ?_ (Ext.alloc _ _)) | (refine Ext.trans ?_ (Ext.drew _)) | (refine Ext.trans ?_ (by assumption))))) | fail)
            all_goals
              go_wp2_with fail
              go_ret2
              exact ⟨_, rfl, KeyRes.some HR1.out i9, etw.trans e99⟩
        · have HR1 : Hid (res = []) := by show _ = _; rw [Hres.out, HSe.out d (by omega)]
          go_wp2_with fail
          go_ret2
          exact ⟨_, rfl, (KeyRes.none HR1.out (SliceR.nil _ _ _)), etw⟩

theorem Small.take {l : List Int} (h : Small l) (i : Nat) : Small (l.take i) := by
  intro j hj
  rw [List.length_take] at hj
  rw [getD_take l 0 (by omega)]
  exact h j (by omega)

set_option maxRecDepth 20000 in
set_option maxHeartbeats 2000000 in
theorem l02Next_c (mk : MK) (ok : MkOk mk) (w : World) (v : Value) (z : Zone) (xs : List Int) (h : IntsR z w v xs) (hl : xs.length = mk.c.toNat) (hs : ∀ i, i < xs.length → 0 ≤ xs.getD i 0 ∧ xs.getD i 0 < mk.d) :
    Calls Tryz.prog 113 #[mk.v, v] w (Ret w fun r' w' => KeyRes w.heap.size (aft mk mk.d.toNat xs 0) r' w') := by
  have hsm : Small xs := fun i hi => by have := hs i hi; have := ok.d8; omega
  have hc6 := ok.c6
  have hd8 := ok.d8
  have HOw := Lib.hid (fun (i : Nat) (hi : i ≤ xs.length) (w' : World) (e : Ext w w') (a : Option Addr) (n cap : Nat) (hv : v = .slice a n cap) => l01Own_c w' (.slice a i cap) z (xs.take i) (SliceR.front (stable_ints.ext (hv ▸ h) e) i (by obtain ⟨a', n', c', he, hn, -⟩ := SliceR.shape h; rw [hv] at he; injection he with _ e2 _; omega)) (by rw [List.length_take]; omega))
  have HA := Lib.hid (fun (i : Nat) (h : i < xs.length) => aft_step (mk := mk) (D := mk.d.toNat) h)
  have HAT : Hid (aft mk mk.d.toNat xs xs.length = []) := aft_top
  have HAH := Lib.hid (fun (i : Nat) (x : List Int) (L : List (List Int)) (hi : i ≤ xs.length) (h : aft mk mk.d.toNat xs i = x :: L) => aft_head hi h)
  have HSt := Lib.hid (fun (r : Nat) (pre : List Int) (d : Nat) (h : d < mk.d.toNat) => sweep_step mk r pre h)
  have HSe := Lib.hid (fun (r : Nat) (pre : List Int) (d : Nat) (h : mk.d.toNat ≤ d) => sweep_end mk r pre h)
  have HIH := Lib.hid (fun (i d : Nat) (hi : i < xs.length) (h : d < mk.d.toNat) (w' : World) (u : Value) (y : Zone) (g : IntsR y w' u (xs.take i ++ [(d : Int)])) (q0 : w.heap.size ≤ w'.heap.size) (q1 : w.heap.size ≤ y.lo) (q2 : y.hi ≤ w'.heap.size) (q3 : y.own = true) => l02First_c mk ok (xs.length - 1 - i) (xs.take i ++ [(d : Int)]) (by rw [List.length_append, List.length_singleton, List.length_take]; omega) w.heap.size w' u y g q0 q1 q2 q3 ((hsm.take i).snoc (by omega)))
  have HMp := Lib.hid (IntsR.mem h)
  have HX : Hid (∀ i, i < xs.length → ∃ k : Nat, xs.getD i 0 = k ∧ k < mk.d.toNat) := fun i hi => ⟨(xs.getD i 0).toNat, by have := hs i hi; omega, by have := hs i hi; omega⟩
  generalize aft mk mk.d.toNat xs = af at *
  generalize sweep mk mk.d.toNat = sw at *
  generalize keysR mk mk.d.toNat = kR at *
  obtain ⟨c, dd, s, m, l⟩ := mk
  unfold MK.v at *
  simp only at hl hc6 hd8 HX HSt HSe HIH ⊢
  obtain ⟨D, rfl⟩ := Int.eq_ofNat_of_zero_le (by omega : 0 ≤ dd)
  simp only [Int.toNat_natCast] at HX HSt HSe HIH
  obtain ⟨a, n, cap, rfl, hn, hmax, -⟩ := SliceR.shape h
  replace HOw := Lib.hid (fun (i : Nat) (hi : i ≤ xs.length) (w' : World) (e : Ext w w') => HOw.out i hi w' e a n cap rfl)
  have hcap : n ≤ cap := by
    obtain ⟨a', n', cap', he, -, -, hh, -⟩ := SliceR.shape h
    injection he with e1 e2 e3
    omega
  have HE := Lib.hid (fun (k : Nat) (hk : k < n) => ints_at h hk)
  rw [← hn] at HA HAT HAH HIH HX HOw
  have hn6 : n ≤ 6 := by omega
  have hn1 : 1 ≤ n := by omega
  have hxl : Hid (xs.length = n) := hn.symm
  clear h hs hsm hn hl ok
  go_enter Tryz.func113, Tryz.ntmps113
  go_wp2_with fail
  generalize hw0 : World.alloc _ _ = w0
  obtain ⟨e0, S0⟩ := mk_box (mk := ⟨c, D, s, m, l⟩) hw0
  clear hw0
  have HS := Lib.hid S0
  clear S0
  have hwn : IntKind.i64.wrap ((n : Int) - 1) = (n : Int) - 1 := IntWalk.i64_in _ (by omega)
  go_wp2_with fail
  go_loopw [6, 7, 8, 9] (fun s6 _ _ _ wr => ∃ i1 : Nat, i1 ≤ n ∧ s6 = .int .i64 ((i1 : Int) - 1) ∧ af i1 = [] ∧ Ext w0 wr) (fun s6 _ _ _ _ => (intOf s6 + 1).toNat)
  case atStart => exact ⟨n, Nat.le_refl _, rfl, HAT.out, Ext.refl _⟩
  case round =>
    obtain ⟨i1, hi1, rfl, haf, ew⟩ := hrel
    have Haf := Lib.hid haf
    clear haf
    have etw := e0.trans ew
    cases i1 with
    | zero =>
      have hz : ((0 : Nat) : Int) - 1 = -1 := rfl
      rw [hz]
      go_wp2_with fail
      go_ret2
      exact ⟨_, rfl, (KeyRes.none Haf.out (SliceR.nil _ _ _)), etw⟩
    | succ i =>
      have hz : ((i + 1 : Nat) : Int) - 1 = (i : Int) := by omega
      rw [hz]
      have hin : i < n := by omega
      obtain ⟨b, off, rfl, -, hcx⟩ := HE.out i hin
      replace hcx := hcx wr etw
      obtain ⟨kd, hkd, hkD⟩ := HX.out i hin
      have HAi := Lib.hid (HA.out i hin)
      have HAHi := Lib.hid (fun (x : List Int) (L : List (List Int)) (h : af i = x :: L) => HAH.out i x L (by omega) h)
      rw [hkd] at hcx
      have hk1 : (xs.getD i 0).toNat + 1 = kd + 1 := by rw [hkd]; omega
      rw [hk1] at HAi
      have HB0 : Hid (af i = sw (n - 1 - i) (xs.take i) (kd + 1)) := by show _ = _; rw [HAi.out, Haf.out]; rfl
      clear hkd hk1 HAi hz
      have hnn : ¬ ((i : Int) < 0) := by omega
      obtain ⟨wo, rfl⟩ : ∃ wo, wo = wr := ⟨_, rfl⟩
      go_wp2_with fail
      go_loopw [7, 8, 9] (fun s7 _ _ wr => ∃ d : Nat, d ≤ D ∧ s7 = .int .i64 d ∧ af i = sw (n - 1 - i) (xs.take i) d ∧ Ext w0 wr) (fun s7 _ _ _ => D - (intOf s7).toNat)
      case atStart => exact ⟨kd + 1, by omega, by go_num, HB0.out, ew⟩
      case round =>
        obtain ⟨d, hd, rfl, hafd, ewd⟩ := hrel
        have Hafd := Lib.hid hafd
        clear hafd
        have etd := e0.trans ewd
        have HLr : Hid (w.heap.size ≤ wr.heap.size) := etd.size
        have HCel : Hid (∀ w', Ext wr w' → w'.cell? ⟨w.heap.size, 0, none⟩ = some (.int .i64 c) ∧ w'.cell? ⟨w.heap.size, 1, none⟩ = some (.int .i64 D) ∧ w'.cell? ⟨w.heap.size, 2, none⟩ = some (.int .i64 s) ∧ w'.cell? ⟨w.heap.size, 3, none⟩ = some (.int .i64 m) ∧ w'.cell? ⟨w.heap.size, 4, none⟩ = some (.int .i64 l)) := fun w' e => HS.out.ext (ewd.trans e)
        obtain ⟨c0, c1, c2, c3, c4⟩ := HS.out.ext ewd
        by_cases hlt : d < D
        · have HO := Lib.hid (fun (w' : World) (e : Ext wr w') => HOw.out i (by omega) w' (etd.trans e))
          have HStd := Lib.hid (HSt.out (n - 1 - i) (xs.take i) d hlt)
          have HId := Lib.hid (HIH.out i d hin hlt)
          have hdI : I64 (d : Int) := by unfold I64; omega
          have HM : Hid (∀ x ∈ xs.take i ++ [(d : Int)], I64 x) := fun x hx => by
            rcases List.mem_append.1 hx with h | h
            · exact HMp.out x (List.mem_of_mem_take h)
            · rw [List.mem_singleton.1 h]; exact hdI
          have Hrl : Hid ((xs.take i).length ≤ 6) := by show _ ≤ _; rw [List.length_take]; have := hxl.out; omega
          have hic : i ≤ cap := by omega
          generalize xs.take i = pre at *
          generalize n - 1 - i = rr at *
          cases hL : kR rr (pre ++ [(d : Int)]) with
          | nil =>
            have HI0 : Hid (∀ (w' : World) (u : Value) (y : Zone), IntsR y w' u (pre ++ [(d : Int)]) → wr.heap.size ≤ y.lo → y.hi ≤ w'.heap.size → y.own = true → wr.heap.size ≤ w'.heap.size → Calls Tryz.prog 114 #[.agg #[.int .i64 c, .int .i64 D, .int .i64 s, .int .i64 m, .int .i64 l], u] w' (Ret w' fun r' w'' => ∃ u', r' = .tuple #[u', .bool false])) := fun w' u y g q1 q2 q3 q4 => by
              refine (HId.out w' u y g (Nat.le_trans HLr.out q4) (Nat.le_trans HLr.out q1) q2 q3).mono ?_
              rintro e w'' hr
              obtain ⟨r', rfl, k, ee⟩ := ret_ext hr
              exact ⟨r', rfl, (k.1 hL).imp fun _ q => q.elim fun _ q => q.1, ee⟩
            have HR1 : Hid (af i = sw rr pre (d + 1)) := by show _ = _; rw [Hafd.out, HStd.out, hL]; rfl
            clear HId HIH HStd HSt hL
            go_wp2_with fail
            go_region_held3 (fun w' => w'.cell? ⟨w.heap.size, 0, none⟩ = some (.int .i64 c) ∧ w'.cell? ⟨w.heap.size, 1, none⟩ = some (.int .i64 D) ∧ w'.cell? ⟨w.heap.size, 2, none⟩ = some (.int .i64 s) ∧ w'.cell? ⟨w.heap.size, 3, none⟩ = some (.int .i64 m) ∧ w'.cell? ⟨w.heap.size, 4, none⟩ = some (.int .i64 l)) (exact HCel.out _ (by repeat (first | exact Ext.refl _ | assumption | (refine Ext.trans ?_ (Ext.alloc _ _)) | (refine Ext.trans ?_ (Ext.drew _)) | (refine Ext.trans ?_ (by assumption))))) (first | (go_at_call 78; (with_reducible refine (HO.out _ (by repeat (first | exact Ext.refl _ | assumption | (refine Ext.trans ?_ (Ext.alloc _ _)) | (refine Ext.trans ?_ (Ext.drew _)) | (refine Ext.trans ?_ (by assumption))))).mono ?_); rintro e w7 hr7; obtain ⟨r7, rfl, o7, e7⟩ := ret_ext hr7; clear hr7; have o7' := OwnP.lower (B' := wr.heap.size) o7 (Ext.size (by repeat (first | exact Ext.refl _ | assumption | (refine Ext.trans ?_ (Ext.alloc _ _)) | (refine Ext.trans ?_ (Ext.drew _)) | (refine Ext.trans ?_ (by assumption))))); obtain ⟨a7, n7, k7, rfl, -⟩ := OwnP.shape o7') | (refine step_append_of (by rfl) _ _ 41 (by rfl) (by rfl) (by rfl) (fun ty => run_appendR (f := Value.int .i64) (B := wr.heap.size) 41 ty 0 8 Tryz.underlying41 Tryz.infoI64 rfl (fun _ => rfl) (OwnP.ext o7' (by repeat (first | exact Ext.refl _ | assumption | (refine Ext.trans ?_ (Ext.alloc _ _)) | (refine Ext.trans ?_ (Ext.drew _)) | (refine Ext.trans ?_ (by assumption))))) (E := IntR) (fun h => h.1) (ys := [(d : Int)]) (by first | exact ints_one _ (d : Int) _ hdI | exact stable_ints.ext (ints_one _ (d : Int) _ hdI) (by repeat (first | exact Ext.refl _ | assumption | (refine Ext.trans ?_ (Ext.alloc _ _)) | (refine Ext.trans ?_ (Ext.drew _)) | (refine Ext.trans ?_ (by assumption))))) (by have := Hrl.out; rw [List.length_singleton]; omega) (by decide) (Ext.size (by repeat (first | exact Ext.refl _ | assumption | (refine Ext.trans ?_ (Ext.alloc _ _)) | (refine Ext.trans ?_ (Ext.drew _)) | (refine Ext.trans ?_ (by assumption)))))) ?_; intro v8 w8 h8; obtain ⟨o8, -, b8, -⟩ := h8; have e8 : Ext wr w8 := Ext.to' (a := wr) (by repeat (first | exact Ext.refl _ | assumption | (refine Ext.trans ?_ (Ext.alloc _ _)) | (refine Ext.trans ?_ (Ext.drew _)) | (refine Ext.trans ?_ (by assumption)))) b8; clear b8; have i8 := OwnP.ints o8 HM.out (Nat.le_refl _); obtain ⟨a8, n8, k8, rfl, -⟩ := OwnP.shape o8) | (go_at_call 114; refine (HI0.out _ _ _ (stable_ints.ext i8 (by repeat (first | exact Ext.refl _ | assumption | (refine Ext.trans ?_ (Ext.alloc _ _)) | (refine Ext.trans ?_ (Ext.drew _)) | (refine Ext.trans ?_ (by assumption))))) (Nat.le_refl _) (Ext.size (by repeat (first | exact Ext.refl _ | assumption | (refine Ext.trans ?_ (Ext.alloc _ _)) | (refine Ext.trans ?_ (Ext.drew _)) | (refine Ext.trans ?_ (by assumption))))) rfl (Ext.size (by repeat (first | exact Ext.refl _ | assumption | (refine Ext.trans ?_ (Ext.alloc _ _)) | (refine Ext.trans ?_ (Ext.drew _)) | (refine Ext.trans ?_ (by assumption)))))).mono ?_; rintro e w9 hr9; obtain ⟨r9, rfl, ⟨u9, rfl⟩, e9⟩ := ret_ext hr9; clear hr9; have e99 : Ext wr w9 := (by repeat (first | exact Ext.refl _ | assumption | (refine Ext.trans ?_ (Ext.alloc _ _)) | (refine Ext.trans ?_ (Ext.drew _)) | (refine Ext.trans ?_ (by assumption))))) | fail)
            all_goals (go_wp2_with fail; go_roundw)
            any_goals (simp [intOf]; omega)
            all_goals exact ⟨d + 1, by omega, by go_num, HR1.out, ewd.trans e99⟩
          | cons k L' =>
            have HI1 : Hid (∀ (w' : World) (u : Value) (y : Zone), IntsR y w' u (pre ++ [(d : Int)]) → wr.heap.size ≤ y.lo → y.hi ≤ w'.heap.size → y.own = true → wr.heap.size ≤ w'.heap.size → Calls Tryz.prog 114 #[.agg #[.int .i64 c, .int .i64 D, .int .i64 s, .int .i64 m, .int .i64 l], u] w' (Ret w' fun r' w'' => ∃ u', r' = .tuple #[u', .bool true] ∧ IntsR ⟨w.heap.size, w''.heap.size, true⟩ w'' u' k)) := fun w' u y g q1 q2 q3 q4 => by
              refine (HId.out w' u y g (Nat.le_trans HLr.out q4) (Nat.le_trans HLr.out q1) q2 q3).mono ?_
              rintro e w'' hr
              obtain ⟨r', rfl, kk, ee⟩ := ret_ext hr
              exact ⟨r', rfl, kk.2 _ _ hL, ee⟩
            obtain ⟨M, hM⟩ := HAHi.out k (L' ++ sw rr pre (d + 1)) (by rw [Hafd.out, HStd.out, hL]; rfl)
            have HR1 := Lib.hid hM
            clear HId HIH HStd HSt hL hM
            go_wp2_with fail
            go_region_held3 (fun w' => w'.cell? ⟨w.heap.size, 0, none⟩ = some (.int .i64 c) ∧ w'.cell? ⟨w.heap.size, 1, none⟩ = some (.int .i64 D) ∧ w'.cell? ⟨w.heap.size, 2, none⟩ = some (.int .i64 s) ∧ w'.cell? ⟨w.heap.size, 3, none⟩ = some (.int .i64 m) ∧ w'.cell? ⟨w.heap.size, 4, none⟩ = some (.int .i64 l)) (exact HCel.out _ (by repeat (first | exact Ext.refl _ | assumption | (refine Ext.trans ?_ (Ext.alloc _ _)) | (refine Ext.trans ?_ (Ext.drew _)) | (refine Ext.trans ?_ (by assumption))))) (first | (go_at_call 78; (with_reducible refine (HO.out _ (by repeat (first | exact Ext.refl _ | assumption | (refine Ext.trans ?_ (Ext.alloc _ _)) | (refine Ext.trans ?_ (Ext.drew _)) | (refine Ext.trans ?_ (by assumption))))).mono ?_); rintro e w7 hr7; obtain ⟨r7, rfl, o7, e7⟩ := ret_ext hr7; clear hr7; have o7' := OwnP.lower (B' := wr.heap.size) o7 (Ext.size (by repeat (first | exact Ext.refl _ | assumption | (refine Ext.trans ?_ (Ext.alloc _ _)) | (refine Ext.trans ?_ (Ext.drew _)) | (refine Ext.trans ?_ (by assumption))))); obtain ⟨a7, n7, k7, rfl, -⟩ := OwnP.shape o7') | (refine step_append_of (by rfl) _ _ 41 (by rfl) (by rfl) (by rfl) (fun ty => run_appendR (f := Value.int .i64) (B := wr.heap.size) 41 ty 0 8 Tryz.underlying41 Tryz.infoI64 rfl (fun _ => rfl) (OwnP.ext o7' (by repeat (first | exact Ext.refl _ | assumption | (refine Ext.trans ?_ (Ext.alloc _ _)) | (refine Ext.trans ?_ (Ext.drew _)) | (refine Ext.trans ?_ (by assumption))))) (E := IntR) (fun h => h.1) (ys := [(d : Int)]) (by first | exact ints_one _ (d : Int) _ hdI | exact stable_ints.ext (ints_one _ (d : Int) _ hdI) (by repeat (first | exact Ext.refl _ | assumption | (refine Ext.trans ?_ (Ext.alloc _ _)) | (refine Ext.trans ?_ (Ext.drew _)) | (refine Ext.trans ?_ (by assumption))))) (by have := Hrl.out; rw [List.length_singleton]; omega) (by decide) (Ext.size (by repeat (first | exact Ext.refl _ | assumption | (refine Ext.trans ?_ (Ext.alloc _ _)) | (refine Ext.trans ?_ (Ext.drew _)) | (refine Ext.trans ?_ (by assumption)))))) ?_; intro v8 w8 h8; obtain ⟨o8, -, b8, -⟩ := h8; have e8 : Ext wr w8 := Ext.to' (a := wr) (by repeat (first | exact Ext.refl _ | assumption | (refine Ext.trans ?_ (Ext.alloc _ _)) | (refine Ext.trans ?_ (Ext.drew _)) | (refine Ext.trans ?_ (by assumption)))) b8; clear b8; have i8 := OwnP.ints o8 HM.out (Nat.le_refl _); obtain ⟨a8, n8, k8, rfl, -⟩ := OwnP.shape o8) | (go_at_call 114; refine (HI1.out _ _ _ (stable_ints.ext i8 (by repeat (first | exact Ext.refl _ | assumption | (refine Ext.trans ?_ (Ext.alloc _ _)) | (refine Ext.trans ?_ (Ext.drew _)) | (refine Ext.trans ?_ (by assumption))))) (Nat.le_refl _) (Ext.size (by repeat (first | exact Ext.refl _ | assumption | (refine Ext.trans ?_ (Ext.alloc _ _)) | (refine Ext.trans ?_ (Ext.drew _)) | (refine Ext.trans ?_ (by assumption))))) rfl (Ext.size (by repeat (first | exact Ext.refl _ | assumption | (refine Ext.trans ?_ (Ext.alloc _ _)) | (refine Ext.trans ?_ (Ext.drew _)) | (refine Ext.trans ?_ (by assumption)))))).mono ?_; rintro e w9 hr9; obtain ⟨r9, rfl, ⟨u9, rfl, i9⟩, e9⟩ := ret_ext hr9; clear hr9; have e99 : Ext wr w9 := (by repeat (first | exact Ext.refl _ | assumption | (refine Ext.trans ?_ (Ext.alloc _ _)) | (refine Ext.trans ?_ (Ext.drew _)) | (refine Ext.trans ?_ (by assumption))))) | fail)
            all_goals
              go_wp2_with fail
              go_ret2
              exact ⟨_, rfl, KeyRes.some HR1.out i9, etd.trans e99⟩
        · have HR1 : Hid (af i = []) := by show _ = _; rw [Hafd.out, HSe.out _ _ d (by omega)]
          have hwi : IntKind.i64.wrap ((i : Int) - 1) = (i : Int) - 1 := IntWalk.i64_in _ (by omega)
          go_wp2_with fail
          go_roundw
          case rel => exact ⟨i, by omega, rfl, HR1.out, ewd⟩
          case measure => simp [intOf] <;> omega
end Go.Proofs.YthgmojggpjnckaaGreat
