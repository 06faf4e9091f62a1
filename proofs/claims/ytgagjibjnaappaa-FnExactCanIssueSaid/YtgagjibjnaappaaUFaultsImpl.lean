/- Proved: the false openings of a system, as the program lists them. -/
import Derived.Test.YtgagjibjnaappaaChecked
import Derived.Deep.RegionHeld3
import Derived.Deep.DeepCutAuto
import Derived.Test.YtgagjibjnaappaaUFaults
import Derived.Test.YtgagjibjnaappaaUAppend1
namespace Go.Proofs.Ytgagjibjnaappaa
open Go.ChangeShapes Go.WideShapes Go.ChangeAt Go.RowKit
set_option linter.unusedVariables false

set_option maxRecDepth 20000 in
set_option maxHeartbeats 2000000 in
theorem partFaults_c (w : World) (mk : MK) (v : Value) (z : Zone) (t : List (List Int)) (h : RowsR z w v t) (u : Value) (y : Zone) (cuts : List (List Int)) (hc : RowsR y w u cuts) (hok : PartOk mk t cuts) :
    Calls Try.prog 107 #[sysV mk v, u] w (Ret w (LenP (faults mk t cuts))) := by
  have HL := Lib.hid (fun (w' : World) (e : Ext w w') => partLocks_c w' mk v z t (stable_rows.ext h e) u y cuts (stable_rows.ext hc e) hok)
  have HO := Lib.hid (fun (w' : World) (v : Value) (z : Zone) (l : List (List Int)) (h : RowsR z w' v l) (u : Value) (y : Zone) (xs : List Int) (hx : IntsR y w' u xs) (hl : xs.length ≤ l.length) => opens_c w' v z l h u y xs hx hl)
  have HF : Hid (∀ k d, faultAt mk t cuts k d = ((t.getD k []).getD d 0 == 0 && opensB ((locks mk t cuts).getD d []) (cuts.getD k []))) := fun _ _ => rfl
  have HFR := Lib.hid (fun k n => faultRow_succ mk t cuts k n)
  have HFR0 : Hid (∀ k, faultRow mk t cuts k 0 = 0) := fun _ => rfl
  have HFT : Hid (∀ k, faultsTo mk t cuts (k+1) = faultsTo mk t cuts k + faultRow mk t cuts k (doorsOf t)) := fun _ => rfl
  have HFT0 : Hid (faultsTo mk t cuts 0 = 0) := rfl
  have HFF : Hid (faults mk t cuts = faultsTo mk t cuts cuts.length) := rfl
  have HLL := Lib.hid (locks_len mk t cuts)
  have HLC : Hid (∀ d, d < doorsOf t → ((locks mk t cuts).getD d []).length = mk.c.toNat) := fun d hd => lock_len hd
  have HB1 := Lib.hid (fun k n => faultRow_le mk t cuts k n)
  have HB2 := Lib.hid (fun n => faultsTo_le mk t cuts n)
  have hkl : ∀ k, k < cuts.length → (cuts.getD k []).length = mk.c.toNat := fun k hk => by
    have := (hok.key _ (List.getElem_mem hk)).len
    have e : cuts.getD k [] = cuts[k] := by simp [hk]
    rw [e]; omega
  have HKL := Lib.hid hkl
  have HRow := Lib.hid hok.row
  generalize faults mk t cuts = res at *
  generalize faultAt mk t cuts = fA at *
  generalize faultRow mk t cuts = fR at *
  generalize faultsTo mk t cuts = fT at *
  generalize locks mk t cuts = ls at *
  have hle := hok.le
  have hl10 := hok.len.2
  have hdo := hok.doors
  obtain ⟨a, n, cap, rfl, hn, hmax, -⟩ := SliceR.shape h
  obtain ⟨a2, n2, cap2, rfl, hn2, hmax2, -⟩ := SliceR.shape hc
  have HT := Lib.hid (fun (k : Nat) (hk : k < n) => rows_at h hk)
  have HC := Lib.hid (fun (k : Nat) (hk : k < n2) => rows_at hc hk)
  rw [← hn, ← hn2] at hle
  rw [← hn] at hl10
  have Hn := Lib.hid hn
  have Hn2 := Lib.hid hn2
  obtain ⟨dn, hdn⟩ : ∃ dn, dn = doorsOf t := ⟨_, rfl⟩
  rw [← hdn] at hdo
  have Hdn := Lib.hid hdn
  clear hn hn2 h hc hok hkl hdn
  unfold sysV at *
  go_enter Try.func107, Try.ntmps107
  go_wp2_with fail
  generalize hw0 : World.alloc _ _ = w0
  obtain ⟨e0, S0, o0⟩ : Ext w w0 ∧ SysAt w0 w.heap.size mk (.slice a n cap) ∧ OwnP slV 27 (w.heap.size + 1) w0 (.slice (some ⟨w.heap.size + 1, 0, none⟩) 0 0) [] := by
    subst hw0
    obtain ⟨f1, f2⟩ := sys_box (w := w) (mk := mk) (u := .slice a n cap) (t := 34) rfl
    refine ⟨f1.trans (Ext.alloc _ _), f2.ext (Ext.alloc _ _), ?_⟩
    have := OwnP.empty (f := slV) (e := 27) (B := w.heap.size + 1) (w := w.alloc (.cells #[.int .i64 mk.c, .int .i64 mk.d, .int .i64 mk.s, .int .i64 mk.m, .int .i64 mk.l, .slice a n cap] 34)) (by simp)
    simpa using this
  clear hw0
  have HS := Lib.hid S0
  have HI0 : Hid (w.heap.size + 1 < w0.heap.size) := (o0.block _ rfl).2
  clear S0
  refine Calls.mono (HL.out w0 e0) ?_
  rintro e w1 hr
  obtain ⟨r, rfl, hL, e1⟩ := ret_ext hr
  clear hr HL
  have o1 := o0.ext e1
  clear o0
  obtain ⟨la, ln, lc, rfl, hln, -⟩ := SliceR.shape hL
  have hlnd : ln = dn := by rw [hln, HLL.out, Hdn.out]
  subst hlnd
  have HLk := Lib.hid hL
  clear hL hln
  have et1 := e0.trans e1
  have hs01 := e1.size
  have hoff : Off (.slice (some ⟨w.heap.size + 1, 0, none⟩) 0 0) w0.heap.size w1.heap.size := by
    refine Off.of (fun k hk => ?_)
    have h1 : k = w.heap.size + 1 := (Option.some.inj hk).symm
    have := HI0.out
    omega
  go_wp2_with fail
  go_loopw [5, 7, 8, 9, 10, 17] (fun s5 _ _ _ _ s17 wr => ∃ (k : Nat) (us : List (Option Addr × Nat × Nat)), k ≤ n2 ∧ s17 = .int .i64 k ∧ us.length = fT k ∧ OwnP slV 27 (w.heap.size + 1) wr s5 us ∧ Below (w.heap.size + 1) w0 wr ∧ Same (.new w0 w1) w1 wr ∧ Off s5 w0.heap.size w1.heap.size ∧ w1.heap.size ≤ wr.heap.size) (fun _ _ _ _ _ s17 _ => n2 - (intOf s17).toNat)
  case atStart => exact ⟨0, [], Nat.zero_le _, rfl, HFT0.out.symm, o1, Below.mono e1 (by have := HI0.out; omega), Same.refl _ _, hoff, Nat.le_refl _⟩
  case round =>
    obtain ⟨k, us, hk, rfl, hus, own, hb, hsm, hof, hsz⟩ := hrel
    have Hus := Lib.hid hus
    clear hus
    have hI0 := HI0.out
    have et : Ext w wr := Below.trans e0 (hb.mono (by omega))
    by_cases hlt : k < n2
    · have HFTk := Lib.hid (HFT.out k)
      have hB2 := HB2.out k
      have hB2' : fT k ≤ 120 := by
        have h1 : k * doorsOf t ≤ 10 * 12 := Nat.mul_le_mul (by omega) (by have := Hdn.out; omega)
        omega
      obtain ⟨bc, oc, rfl, a4, n4, k4, hn4, hm4, -, hcc, ⟨yc, -, hyc⟩, -⟩ := HC.out k hlt
      have hccr := hcc wr et
      have Hcc := Lib.hid hcc
      have Hyc := Lib.hid hyc
      clear hcc hyc hn4
      go_wp2_with fail
      obtain ⟨wo, rfl⟩ : ∃ wo, wo = wr := ⟨_, rfl⟩
      clear hccr
      go_loopw [5, 9, 10, 24] (fun s5 _ _ s24 wr => ∃ (d : Nat) (us : List (Option Addr × Nat × Nat)), d ≤ ln ∧ s24 = .int .i64 d ∧ us.length = fT k + fR k d ∧ OwnP slV 27 (w.heap.size + 1) wr s5 us ∧ Below (w.heap.size + 1) w0 wr ∧ Same (.new w0 w1) w1 wr ∧ Off s5 w0.heap.size w1.heap.size ∧ w1.heap.size ≤ wr.heap.size) (fun _ _ _ s24 _ => ln - (intOf s24).toNat)
      case atStart => exact ⟨0, us, Nat.zero_le _, rfl, by rw [HFR0.out, Nat.add_zero]; exact Hus.out, own, hb, hsm, hof, hsz⟩
      case round =>
        clear own hb hsm hof hsz Hus et
        obtain ⟨d, us, hd, rfl, hus, own, hb, hsm, hof, hsz⟩ := hrel
        have Hus := Lib.hid hus
        have hB1 := HB1.out k d
        have hul : us.length ≤ 1000 := by omega
        clear hus
        have et : Ext w wr := Below.trans e0 (hb.mono (by omega))
        by_cases hltd : d < ln
        · obtain ⟨b, off, rfl, a1, n1, k1, hn1, hm1, -, hcr, -, hel⟩ := HT.out k (by omega)
          have hdn1 : d < n1 := by rw [hn1, HRow.out k (by rw [← Hn.out]; omega), ← Hdn.out]; exact hltd
          obtain ⟨b1, o1', rfl, hx, hc1⟩ := hel d hdn1
          obtain ⟨bl, ol, rfl, a3, n3, k3, hn3, hcl, yl, -, hyl⟩ := locks_at (stable_locks.keep HLk.out hsm) hltd
          have hkn : k < n := by omega
          have hc5 : wr.cell? ⟨w.heap.size, 5, none⟩ = some (.slice (some ⟨b, off, none⟩) n cap) := (hb.cell (p := ⟨w.heap.size, 5, none⟩) (by simp)).trans HS.out.c5
          have hcall : ∀ w', Ext wr w' → Calls Try.prog 102 #[.agg #[.slice a3 n3 k3], .slice a4 n4 k4] w' (Ret w' fun r _ => r = .bool (opensB (ls.getD d []) (cuts.getD k []))) := fun w' e => HO.out w' _ _ _ (hyl w' e) _ _ _ (Hyc.out w' (et.trans e)) (by rw [HKL.out k (by rw [← Hn2.out]; exact hlt), HLC.out d (by rw [← Hdn.out]; exact hltd)]; exact Nat.le_refl _)
          have HCa := Lib.hid hcall
          have HK : Hid (∀ w', Ext wr w' → w'.cell? ⟨w.heap.size, 5, none⟩ = some (.slice (some ⟨b, off, none⟩) n cap) ∧ w'.cell? ⟨b, off + k, none⟩ = some (.slice (some ⟨b1, o1', none⟩) n1 k1) ∧ w'.cell? ⟨b1, o1' + d, none⟩ = some (.int .i64 ((t.getD k []).getD d 0))) := fun w' e => ⟨e.cell hc5, hcr w' (et.trans e), hc1 w' (et.trans e)⟩
          have g3 := hcl wr (Ext.refl _)
          have HA := Lib.hid (HF.out k d)
          have HRs := Lib.hid (HFR.out k d)
          clear hel hn1 hyl hcall hcr hc1 hcl hn3 hc5
          generalize (t.getD k []).getD d 0 = x at *
          generalize opensB (ls.getD d []) (cuts.getD k []) = q at *
          go_upto_region 8 with fail
          generalize hwX : World.alloc _ _ = wX
          obtain ⟨eX, lX⟩ : Ext wr wX ∧ wX.cell? ⟨wr.heap.size, 0, none⟩ = some (.slice a3 n3 k3) := by
            subst hwX
            exact ⟨Ext.alloc _ _, by simp⟩
          clear hwX
          obtain ⟨g0, g1, g2⟩ := HK.out wX eX
          have oX := own.ext eX
          have bX : Below (w.heap.size + 1) w0 wX := hb.trans (Below.mono eX (by omega))
          have mX : Same (.new w0 w1) w1 wX := hsm.below hsz eX
          have zX := eX.size
          clear own hb hsm g3
          by_cases hx0 : x = 0
          · have hxb : (x == 0) = true := by simpa using hx0
            have HAq : Hid (fA k d = q) := by show _ = _; rw [HA.out, hxb, Bool.true_and]
            clear HA hx0
            have hcall := HCa.out wX eX
            cases q with
            | true =>
              have HN : Hid (fT k + fR k (d+1) = us.length + 1) := by show _ = _; rw [HRs.out, HAq.out, if_pos rfl, Hus.out]; omega
              clear HRs HAq
              go_wp2_with fail
              refine Calls.mono hcall ?_
              rintro e w7 hr
              obtain ⟨r, rfl, rfl, e7⟩ := ret_ext hr
              clear hr hcall
              have o7 := oX.ext e7
              have b7 : Below (w.heap.size + 1) w0 w7 := bX.trans (Below.mono e7 (by omega))
              have m7 : Same (.new w0 w1) w1 w7 := mX.below (by omega) e7
              have z7 := e7.size
              clear oX bX mX
              go_wp2_with (at_builtin; (refine wpList_append1X (f := slV) (e := 27) (B := w.heap.size + 1) (xs := us) rfl _ _ 24 rfl (none, 0, 0) 24 Try.underlying24 Try.infoInts rfl (fun _ => rfl) rfl (o7.alloc _) (some ⟨w7.heap.size, 0, none⟩, 2, 2) (by simp [Act.eval, go_sem]) (by omega) (by omega) (by simp; omega) ?_); intro v8 w8 hown8 hg8 hb8 hat8)
              have b9 : Below (w.heap.size + 1) w0 w8 := b7.trans (((Below.refl _ w7).alloc (by omega) _).trans hb8)
              have hzA : w1.heap.size ≤ (w7.alloc (.cells #[.int .i64 k, .int .i64 d] 2)).heap.size := by simp; omega
              have m9 : Same (.new w0 w1) w1 w8 := Same.grown (Same.below m7 (by omega) (Ext.alloc w7 _)) hzA hg8 (fun j hj => Off.not hof j hj)
              have f9 : Off v8 w0.heap.size w1.heap.size := Off.next hof hzA hat8
              have z9 : w1.heap.size ≤ w8.heap.size := by have := hb8.size; omega
              go_roundw
              case rel => exact ⟨d+1, _, by omega, by go_num, by rw [HN.out, List.length_append]; rfl, hown8, b9, m9, f9, z9⟩
              case measure => simp [intOf]; omega
            | false =>
              have HN : Hid (fT k + fR k (d+1) = us.length) := by show _ = _; rw [HRs.out, HAq.out, if_neg (by decide), Hus.out]; omega
              clear HRs HAq
              go_wp2_with fail
              refine Calls.mono hcall ?_
              rintro e w7 hr
              obtain ⟨r, rfl, rfl, e7⟩ := ret_ext hr
              clear hr hcall
              have o7 := oX.ext e7
              have b7 : Below (w.heap.size + 1) w0 w7 := bX.trans (Below.mono e7 (by omega))
              have m7 : Same (.new w0 w1) w1 w7 := mX.below (by omega) e7
              have z7 := e7.size
              clear oX bX mX
              go_wp2_with fail
              go_roundw
              case rel => exact ⟨d+1, us, by omega, by go_num, HN.out.symm, o7, b7, m7, hof, by omega⟩
              case measure => simp [intOf]; omega
          · have hxb : (x == 0) = false := by simpa using hx0
            have HN : Hid (fT k + fR k (d+1) = us.length) := by show _ = _; rw [HRs.out, HA.out, hxb, Bool.false_and, if_neg (by decide), Hus.out]; omega
            clear HA hx0 HRs
            go_wp2_with fail
            go_roundw
            case rel => exact ⟨d+1, us, by omega, by go_num, HN.out.symm, oX, bX, mX, hof, by omega⟩
            case measure => simp [intOf]; omega
        · have hdd : d = doorsOf t := by have := Hdn.out; omega
          have HN : Hid (us.length = fT (k+1)) := by show _ = _; rw [Hus.out, HFTk.out, hdd]
          go_wp2_with fail
          go_roundw
          case rel => exact ⟨k+1, us, by omega, by go_num, HN.out, own, hb, hsm, hof, hsz⟩
          case measure => simp [intOf]; omega
    · have hkn : k = cuts.length := by have := Hn2.out; omega
      have hB2 := HB2.out k
      have hB2' : fT k ≤ 120 := by
        have h1 : k * doorsOf t ≤ 10 * 12 := Nat.mul_le_mul (by omega) (by have := Hdn.out; omega)
        omega
      have HN : Hid (us.length = res) := by show _ = _; rw [HFF.out, ← hkn]; exact Hus.out
      obtain ⟨oa, on, oc, rfl, hon, -⟩ := own.shape
      go_wp2_with fail
      go_ret
      exact ⟨_, rfl, ⟨_, _, _, rfl, by rw [hon]; exact HN.out, by have := Hus.out; omega⟩, et⟩
end Go.Proofs.Ytgagjibjnaappaa
