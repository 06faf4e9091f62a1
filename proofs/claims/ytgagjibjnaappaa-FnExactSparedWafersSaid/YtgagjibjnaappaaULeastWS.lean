/- Proved: the least wafers of a system, the reference. -/
import Derived.Test.YtgagjibjnaappaaChecked
import Derived.Deep.RegionHeld3
import Derived.Test.YtgagjibjnaappaaULeastW
namespace Go.Proofs.Ytgagjibjnaappaa
open Go.ChangeShapes Go.WideShapes Go.ChangeAt Go.RowKit
set_option linter.unusedVariables false

set_option maxRecDepth 20000 in
set_option maxHeartbeats 2000000 in
theorem LeastWafersSpec_c (w : World) (mk : MK) (v : Value) (z : Zone) (t : List (List Int)) (h : RowsR z w v t) (hsys : isSystem mk t = true) (hlo : LeastOk mk t) :
    Calls Try.prog 86 #[sysV mk v] w (Ret w fun r _ => r = IntCode ((leastTo mk t (doorsOf t) : Nat), 0)) := by
  have hok := sysOk hsys
  have HI : Hid (∀ w', Ext w w' → Calls Try.prog 75 #[sysV mk v] w' (Ret w' fun r _ => r = .bool true)) := fun w' e => by
    have := IsSystemSpec_c w' mk v z t (stable_rows.ext h e); rwa [hsys] at this
  have HD : Hid (∀ w' d x, RowsR ⟨0, w'.heap.size, false⟩ w' x (openRows t d) → Calls Try.prog 124 #[x] w' (Ret w' fun r _ => r = .int .i64 (diffN (openRows t d) (openRows t d).length : Nat))) := fun w' d x hx => l20Different_c w' x _ _ hx (by have := openRows_len t d; have := hok.len; omega)
  have HF : Hid (∀ w' d, Calls Try.prog 123 #[mk.v, .int .i64 (diffN (openRows t d) (openRows t d).length : Nat)] w' (Ret w' fun r _ => r = .int .i64 (doorW mk t d : Nat))) := fun w' d => l20For_c w' mk hok.mk1 hok.mk2 _ (hlo d)
  have HKS := Lib.hid (fun d n => keysAt_succ t t d n)
  have HK0 : Hid (∀ d, keysAt t t d 0 = []) := fun d => rfl
  have HKA : Hid (∀ d, keysAt t t d t.length = openRows t d) := fun d => rfl
  have HKL := Lib.hid (fun d n => keysAt_len t t d n)
  have HRW : Hid (∀ k, k < t.length → (t.getD k []).length = doorsOf t) := fun k hk => hok.row k hk
  have HS := Lib.hid (fun n => leastTo_succ mk t n)
  have HL : Hid (∀ k, k ≤ 12 → leastTo mk t k ≤ 504) := fun k hk => by have := leastTo_le hok hlo k; show _ ≤ _; omega
  have HW := Lib.hid (fun d => doorW_le hok hlo d)
  have H0 : Hid (leastTo mk t 0 = 0) := rfl
  have hdr := hok.doors
  have hle1 := hok.len
  generalize hlT : leastTo mk t = lT at *
  generalize hdW : doorW mk t = dW at *
  clear hlT hdW
  obtain ⟨a, n, cap, rfl, hn, hmax, -⟩ := SliceR.shape h
  have HC := Lib.hid (fun (k : Nat) (hk : k < n) => rows_at h hk)
  have hn0 : 0 < n := by omega
  obtain ⟨b, off, rfl, a0, m, cp, hm0, hmm, -, hc0, -⟩ := rows_at h hn0
  have Hm : Hid (m = doorsOf t) := hm0
  have Hn : Hid (n = t.length) := hn
  have hm12 : m ≤ 12 := by have := Hm.out; omega
  have hn10 : n ≤ 10 := by omega
  rw [← Hm.out]
  clear hn h hok hsys hlo hdr hle1 hm0
  unfold sysV MK.v at *
  have HC0 := Lib.hid hc0
  clear hc0
  go_enter Try.func86, Try.ntmps86
  go_wp2_with fail
  generalize hw0 : World.alloc _ _ = w0
  obtain ⟨e0, S0⟩ := sys_box hw0
  clear hw0
  refine Calls.mono (HI.out w0 e0) ?_
  rintro e w1 hr
  obtain ⟨r, rfl, rfl, e1⟩ := ret_ext hr
  clear hr
  have et := e0.trans e1
  have HSy := Lib.hid (S0.ext e1)
  obtain ⟨c0, c1, c2, c3, c4, c5⟩ := S0.ext e1
  have hrow := HC0.out w1 et
  rw [Nat.add_zero] at hrow
  clear S0
  go_wp2_with fail
  clear c0 c1 c2 c3 c4 c5 hrow
  go_loopw [4, 5, 6, 7, 8] (fun s4 s18 _ _ _ wr => ∃ d : Nat, d ≤ m ∧ s18 = .int .i64 d ∧ s4 = .int .i64 (lT d : Nat) ∧ Ext w1 wr) (fun _ s18 _ _ _ _ => m - (intOf s18).toNat)
  case atStart => exact ⟨0, Nat.zero_le _, rfl, by rw [H0.out]; rfl, Ext.refl _⟩
  case round =>
    obtain ⟨d, hd, rfl, rfl, ew⟩ := hrel
    have eW : Ext w wr := et.trans ew
    have HS1 := Lib.hid (HSy.out.ext ew)
    obtain ⟨c0, c1, c2, c3, c4, c5⟩ := HS1.out
    have hrow := HC0.out wr eW
    rw [Nat.add_zero] at hrow
    by_cases hlt : d < m
    · have HSd := Lib.hid (HS.out d)
      have HLT : Hid (d < doorsOf t) := by show _ < _; rw [← Hm.out]; exact hlt
      have hL := HL.out d (by omega)
      have hW := HW.out d
      have hltw := World.block_lt_of_cell? _ _ c0
      simp only at hltw
      go_wp2_with fail
      generalize hw2 : World.alloc _ _ = w2
      obtain ⟨e2, o2⟩ : Ext wr w2 ∧ AliasR 27 wr.heap.size w2 (.slice (some ⟨wr.heap.size, 0, none⟩) 0 0) [] := by
        subst hw2
        exact ⟨Ext.alloc _ _, AliasR.empty (Nat.le_refl _)⟩
      have HSz : Hid (w2.heap.size = wr.heap.size + 1) := by show _ = _; rw [← hw2]; simp
      clear hw2
      obtain ⟨wo, rfl⟩ : ∃ wo, wo = wr := ⟨_, rfl⟩
      have hs23 := HSz.out
      have HKd := Lib.hid (HKA.out d)
      have HKs := Lib.hid (HKS.out d)
      have HKl := Lib.hid (HKL.out d)
      have HKz := Lib.hid (HK0.out d)
      have hlt0 : w.heap.size ≤ wo.heap.size := eW.size
      clear c0 c1 c2 c3 c4 c5 hrow
      generalize hkT : keysAt t t d = kT at *
      clear hkT
      go_loopw [6, 7] (fun s6 s26 wr => ∃ j : Nat, j ≤ n ∧ s26 = .int .i64 j ∧ AliasR 27 wo.heap.size wr s6 (kT j) ∧ Below wo.heap.size wo wr) (fun _ s26 _ => n - (intOf s26).toNat)
      case atStart => exact ⟨0, Nat.zero_le _, rfl, by rw [HKz.out]; exact o2, e2⟩
      case round =>
        obtain ⟨j, hj, rfl, ownK, hbK⟩ := hrel
        have eW4 : Ext w wr := eW.trans hbK
        have hsK := hbK.size
        obtain ⟨c0, c1, c2, c3, c4, c5⟩ := HS1.out.all hbK
        by_cases hltj : j < n
        · have hle := HKl.out j
          have HSk := Lib.hid (HKs.out j)
          obtain ⟨b', off', hae, a1', n1', k1', hn1', hm1', -, hc', ⟨yy, -, hy⟩, hel⟩ := HC.out j hltj
          injection hae with hae; injection hae with hae1 hae2 _
          subst hae1; subst hae2
          have hdn : d < n1' := by rw [hn1', HRW.out j (by rw [← Hn.out]; exact hltj)]; exact HLT.out
          obtain ⟨b1, o1', rfl, hx, hc1⟩ := hel d hdn
          have hU := IntsR.free (hy w (Ext.refl _))
          have hUW := stable_ints.ext hU eW4
          replace hc' := hc' wr eW4
          replace hc1 := hc1 wr eW4
          clear hel hn1' hy hU
          generalize (t.getD j []).getD d 0 = x at *
          generalize hup : kT j = up at *
          clear hup
          by_cases hx1 : x = 1
          · have hq : (x == 1) = true := by simpa using hx1
            have HV : Hid (kT (j+1) = up ++ [t.getD j []]) := by show _ = _; rw [HSk.out, if_pos hq]
            clear HSk
            generalize t.getD j [] = row at *
            go_wp2_with (at_builtin; (refine wpList_appendAlias (B := wo.heap.size) (xs := up) (w0 := w) rfl _ _ 24 rfl Try.underlying24 Try.infoInts rfl ownK (some ⟨b1, o1', none⟩, n1', k1') row hUW (by omega) rfl (by omega) (by omega) ?_); intro v6 w6 hown6 hb6 hg6 hat6)
            go_roundw
            case rel => exact ⟨j + 1, by omega, by go_num, by rw [HV.out]; exact hown6, hbK.trans hb6⟩
            case measure => simp [intOf]; omega
          · have hq : (x == 1) = false := by simpa using hx1
            have HV : Hid (kT (j+1) = up) := by show _ = _; rw [HSk.out, if_neg (by rw [hq]; decide), List.append_nil]
            clear hx1 HSk
            go_wp2_with fail
            go_roundw
            case rel => exact ⟨j + 1, by omega, by go_num, by rw [HV.out]; exact ownK, hbK⟩
            case measure => simp [intOf]; omega
        · have hjr : j = t.length := by have := Hn.out; omega
          have hx := ownK.rows
          rw [hjr, HKd.out] at hx
          have HDx := Lib.hid (fun (w' : World) (e : Ext wr w') (u : Value) (hu : RowsR ⟨0, wr.heap.size, false⟩ wr u (openRows t d)) => HD.out w' d u (stable_rows.sub (stable_rows.ext hu e) ⟨fun k hk => ⟨hk.1, Nat.lt_of_lt_of_le hk.2 e.size⟩, fun h => h⟩))
          have HFx := Lib.hid (fun (w' : World) => HF.out w' d)
          have HX := Lib.hid hx
          obtain ⟨xa, xn, xc, rfl, -⟩ := OwnA.shape ownK
          have HA := Lib.hid (fun (w' : World) (e : Ext wr w') => (HS1.out.ext (Ext.trans hbK e)).all (Ext.refl _))
          generalize diffN (openRows t d) (openRows t d).length = dn at *
          generalize hls : lT d = ls at *
          generalize hdw : dW d = dw at *
          clear hls hdw hx ownK HKA HKd
          go_wp2_with fail
          go_region_held3 (fun w' => w'.cell? ⟨w.heap.size, 0, none⟩ = some (.int .i64 mk.c) ∧ w'.cell? ⟨w.heap.size, 1, none⟩ = some (.int .i64 mk.d) ∧ w'.cell? ⟨w.heap.size, 2, none⟩ = some (.int .i64 mk.s) ∧ w'.cell? ⟨w.heap.size, 3, none⟩ = some (.int .i64 mk.m) ∧ w'.cell? ⟨w.heap.size, 4, none⟩ = some (.int .i64 mk.l) ∧ w'.cell? ⟨w.heap.size, 5, none⟩ = some (.slice (some ⟨b, off, none⟩) n cap)) (exact HA.out _ (by repeat (first | exact Ext.refl _ | assumption | (refine Ext.trans ?_ (Ext.alloc _ _)) | (refine Ext.trans ?_ (Ext.drew _)) | (refine Ext.trans ?_ (by assumption))))) (first | (go_at_call 124; (with_reducible refine (HDx.out _ (by repeat (first | exact Ext.refl _ | assumption | (refine Ext.trans ?_ (Ext.alloc _ _)) | (refine Ext.trans ?_ (Ext.drew _)) | (refine Ext.trans ?_ (by assumption)))) _ HX.out).mono ?_); rintro e w7 hr7; obtain ⟨r7, rfl, rfl, e7⟩ := ret_ext hr7; clear hr7) | (go_at_call 123; (with_reducible refine (HFx.out _).mono ?_); rintro e w8 hr8; obtain ⟨r8, rfl, rfl, e8⟩ := ret_ext hr8; clear hr8; have e38 : Ext wr w8 := (by repeat (first | exact Ext.refl _ | assumption | (refine Ext.trans ?_ (Ext.alloc _ _)) | (refine Ext.trans ?_ (Ext.drew _)) | (refine Ext.trans ?_ (by assumption))))) | fail)
          all_goals
            clear HA HDx HFx HX
            have hdw0 : ¬ ((dw : Int) < 0) := by omega
            have hsum : IntKind.i64.wrap ((ls : Int) + (dw : Int)) = (ls : Int) + (dw : Int) := IntWalk.i64_in _ (by omega)
            go_wp2_with fail
            go_roundw
          any_goals (simp [intOf]; omega)
          all_goals exact ⟨d + 1, by omega, by go_num, by rw [HSd.out]; push_cast; rfl, ew.trans (Ext.trans hbK e38)⟩
    · have hdm : m = d := by omega
      subst hdm
      go_wp2_with fail
      go_ret2
      exact ⟨_, rfl, rfl, eW⟩
end Go.Proofs.Ytgagjibjnaappaa
