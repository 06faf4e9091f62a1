/- Proved: the least wafers of a system, the program. -/
import Derived.Test.YtgagjibjnaappaaChecked
import Derived.Deep.RegionHeld3
import Derived.Test.YtgagjibjnaappaaUSpareLaw
import Derived.Test.YtgagjibjnaappaaUWafFor
import Derived.Test.YtgagjibjnaappaaUDiffRows
import Derived.Test.YtgagjibjnaappaaUPkC
import Derived.Test.YtgagjibjnaappaaUPkB
namespace Go.Proofs.Ytgagjibjnaappaa
open Go.ChangeShapes Go.WideShapes Go.ChangeAt Go.RowKit
set_option linter.unusedVariables false

theorem leastTo_succ (mk : MK) (t : List (List Int)) (k : Nat) : leastTo mk t (k + 1) = leastTo mk t k + doorW mk t k := rfl
theorem openRows_len (t : List (List Int)) (d : Nat) : (openRows t d).length ≤ t.length := keysAt_len t t d t.length

set_option maxRecDepth 20000 in
set_option maxHeartbeats 2000000 in
theorem LeastWafers_c (w : World) (mk : MK) (v : Value) (z : Zone) (t : List (List Int)) (h : RowsR z w v t) (hsys : isSystem mk t = true) (hlo : LeastOk mk t) :
    Calls Try.prog 87 #[sysV mk v] w (Ret w fun r _ => r = IntCode ((leastTo mk t (doorsOf t) : Nat), 0)) := by
  have hok := sysOk hsys
  have HI : Hid (∀ w', Ext w w' → Calls Try.prog 77 #[sysV mk v] w' (Ret w' fun r _ => r = .bool true)) := fun w' e => by
    have := IsSystem_c w' mk v z t (stable_rows.ext h e); rwa [hsys] at this
  have HR : Hid (∀ w', Ext w w' → ∀ d : Nat, d < doorsOf t → Calls Try.prog 92 #[sysV mk v, .int .i64 d] w' (Ret w' fun r w'' => OwnP (Value.int .i64) 2 w'.heap.size w'' r (rowsI t d t.length))) := fun w' e d hd => rowsFor_c w' mk v z t (stable_rows.ext h e) d (fun k hk => by rw [hok.row k hk]; exact hd) hok.len.2
  have HD : Hid (∀ w' d x, RowsR ⟨0, w'.heap.size, false⟩ w' x (openRows t d) → Calls Try.prog 126 #[x] w' (Ret w' fun r _ => r = .int .i64 (diffN (openRows t d) (openRows t d).length : Nat))) := fun w' d x hx => differentRows_c w' x _ _ hx (by have := openRows_len t d; have := hok.len; omega)
  have HF : Hid (∀ w' d, Calls Try.prog 125 #[mk.v, .int .i64 (diffN (openRows t d) (openRows t d).length : Nat)] w' (Ret w' fun r _ => r = .int .i64 (doorW mk t d : Nat))) := fun w' d => wafersFor_c w' mk hok.mk1 hok.mk2 _ (hlo d)
  have HKA : Hid (∀ d, keysTo (rowsAt t d t.length) t (rowsAt t d t.length).length = openRows t d) := fun d => keysTo_all (Nat.le_refl _)
  have HS := Lib.hid (fun n => leastTo_succ mk t n)
  have HL : Hid (∀ k, k ≤ 12 → leastTo mk t k ≤ 504) := fun k hk => by have := leastTo_le hok hlo k; show _ ≤ _; omega
  have HW := Lib.hid (fun d => doorW_le hok hlo d)
  have H0 : Hid (leastTo mk t 0 = 0) := rfl
  have hdr := hok.doors
  have hle1 := hok.len
  have Hl10 := Lib.hid (fun d => rowsAt_len t d t.length)
  have HRL : Hid (∀ d, ∀ k ∈ rowsAt t d t.length, k < t.length) := fun d k hk => rowsAt_lt hk
  generalize hlT : leastTo mk t = lT at *
  generalize hdW : doorW mk t = dW at *
  clear hlT hdW
  obtain ⟨a, n, cap, rfl, hn, hmax, -⟩ := SliceR.shape h
  have HC := Lib.hid (fun (k : Nat) (hk : k < n) => rows_at h hk)
  have hn0 : 0 < n := by omega
  obtain ⟨b, off, rfl, a0, m, cp, hm0, hmm, -, hc0, -⟩ := rows_at h hn0
  have Hm : Hid (m = doorsOf t) := hm0
  have Hn : Hid (n = t.length) := hn
  have hm12 : m ≤ 12 := by have := Hm.out; omega
  have hn10 : n ≤ 10 := by omega
  rw [← Hm.out]
  clear hn h hok hsys hlo hdr hle1 hm0
  unfold sysV MK.v at *
  have HC0 := Lib.hid hc0
  clear hc0
  go_enter Try.func87, Try.ntmps87
  go_wp2_with fail
  generalize hw0 : World.alloc _ _ = w0
  obtain ⟨e0, S0⟩ := sys_box hw0
  clear hw0
  refine Calls.mono (HI.out w0 e0) ?_
  rintro e w1 hr
  obtain ⟨r, rfl, rfl, e1⟩ := ret_ext hr
  clear hr
  have et := e0.trans e1
  have HSy := Lib.hid (S0.ext e1)
  obtain ⟨c0, c1, c2, c3, c4, c5⟩ := S0.ext e1
  have hrow := HC0.out w1 et
  rw [Nat.add_zero] at hrow
  clear S0
  go_wp2_with fail
  clear c0 c1 c2 c3 c4 c5 hrow
  go_loopw [4, 5, 6, 8, 9, 18] (fun s4 _ _ _ _ s18 wr => ∃ d : Nat, d ≤ m ∧ s18 = .int .i64 d ∧ s4 = .int .i64 (lT d : Nat) ∧ Ext w1 wr) (fun _ _ _ _ _ s18 _ => m - (intOf s18).toNat)
  case atStart => exact ⟨0, Nat.zero_le _, rfl, by rw [H0.out]; rfl, Ext.refl _⟩
  case round =>
    obtain ⟨d, hd, rfl, rfl, ew⟩ := hrel
    have eW : Ext w wr := et.trans ew
    have HS1 := Lib.hid (HSy.out.ext ew)
    obtain ⟨c0, c1, c2, c3, c4, c5⟩ := HS1.out
    by_cases hlt : d < m
    · have HSd := Lib.hid (HS.out d)
      have HLT : Hid (d < doorsOf t) := by show _ < _; rw [← Hm.out]; exact hlt
      have hL := HL.out d (by omega)
      have hW := HW.out d
      have hltw := World.block_lt_of_cell? _ _ c0
      simp only at hltw
      go_wp2_with fail
      generalize hw2 : World.alloc _ _ = w2
      obtain ⟨e2, o2⟩ : Ext wr w2 ∧ AliasR 27 wr.heap.size w2 (.slice (some ⟨wr.heap.size, 0, none⟩) 0 0) [] := by
        subst hw2
        exact ⟨Ext.alloc _ _, AliasR.empty (Nat.le_refl _)⟩
      have HSz : Hid (w2.heap.size = wr.heap.size + 1) := by show _ = _; rw [← hw2]; simp
      clear hw2
      obtain ⟨wo, rfl⟩ : ∃ wo, wo = wr := ⟨_, rfl⟩
      have hcall := HR.out w2 (eW.trans e2) d HLT.out
      refine Calls.mono hcall ?_
      rintro e w3 hr
      obtain ⟨r, rfl, o3, e3⟩ := ret_ext hr
      clear hr hcall
      have hsz3 := e3.size
      have eW3 := (eW.trans e2).trans e3
      have hs23 := HSz.out
      have hok3 := o3.block
      have o2' := AliasR.ext o2 e3
      have HKd := Lib.hid (HKA.out d)
      have H10 := Lib.hid (Hl10.out d)
      have HRd := Lib.hid (HRL.out d)
      unfold rowsI at o3
      generalize hrs : rowsAt t d t.length = rs at *
      have HRS : Hid (∀ j, j < rs.length → ((rs.map fun (k : Nat) => (k : Int)).getD j 0) = ((rs.getD j 0 : Nat) : Int)) := fun j hj => by simp [hj]
      obtain ⟨ra, rn, rc, rfl, hrn, -⟩ := o3.shape
      rw [List.length_map] at hrn
      have Hrn := Lib.hid hrn
      have hrn10 : rn ≤ 10 := by have := Hrn.out; have := H10.out; have := Hn.out; omega
      have o3n : ∀ k, (Value.slice (some ⟨wo.heap.size, 0, none⟩) 0 0).ownBlock = some k → k < w2.heap.size := fun k hk => by
        have h1 : k = wo.heap.size := (Option.some.inj hk).symm
        omega
      have hlt0 : w.heap.size ≤ wo.heap.size := eW.size
      clear hrs hrn hs23
      go_wp2_with fail
      go_loopw [6, 8, 26] (fun s6 _ s26 wr => ∃ j : Nat, j ≤ rn ∧ s26 = .int .i64 j ∧ AliasR 27 wo.heap.size wr s6 (keysTo rs t j) ∧ Below wo.heap.size wo wr ∧ OwnP (Value.int .i64) 2 w2.heap.size wr (.slice ra rn rc) (rs.map fun (k : Nat) => (k : Int)) ∧ (∀ k, s6.ownBlock = some k → (Value.slice ra rn rc).ownBlock ≠ some k) ∧ w3.heap.size ≤ wr.heap.size) (fun _ _ s26 _ => rn - (intOf s26).toNat)
      case atStart => exact ⟨0, Nat.zero_le _, rfl, o2', Below.trans e2 (Below.mono e3 (Ext.size e2)), o3, fun k hk e => by have := (hok3 k e).1; have := o3n k hk; omega, Nat.le_refl _⟩
      case round =>
        obtain ⟨j, hj, rfl, ownK, hbK, o4, hne, hs4⟩ := hrel
        have eW4 : Ext w wr := eW.trans hbK
        have hsK := hbK.size
        obtain ⟨c0, c1, c2, c3, c4, c5⟩ := HS1.out.all hbK
        by_cases hltj : j < rn
        · obtain ⟨g, rfl, hg1, hg2, hg3, hg4⟩ := OwnP.elem o4 0 j hltj
          rw [HRS.out j (by rw [← Hrn.out]; exact hltj)] at hg3
          have HU := Lib.hid (keysTo_succ (rs := rs) (cuts := t) (j := j) (by rw [← Hrn.out]; exact hltj))
          have hle := keysTo_len rs t j
          have hkey : rs.getD j 0 < n := by
            have hjl : j < rs.length := by rw [← Hrn.out]; exact hltj
            have e : rs.getD j 0 = rs[j] := by simp [hjl]
            rw [e, Hn.out]
            exact HRd.out _ (List.getElem_mem hjl)
          generalize rs.getD j 0 = key at *
          generalize hks : keysTo rs t j = ks at *
          clear hks
          obtain ⟨b', off', hae, a1', n1', k1', hn1', hm1', -, hc', ⟨yy, -, hy⟩, -⟩ := HC.out key hkey
          injection hae with hae; injection hae with hae1 hae2 _
          subst hae1; subst hae2
          have hU := IntsR.free (hy w (Ext.refl _))
          have hUW := stable_ints.ext hU eW4
          replace hc' := hc' wr eW4
          have HV : Hid (keysTo rs t (j+1) = ks ++ [t.getD key []]) := by show _ = _; rw [HU.out, if_pos (by rw [← Hn.out]; exact hkey)]
          clear hy hn1' HU hU
          generalize t.getD key [] = row at *
          go_wp2_with (at_builtin; (refine wpList_appendAlias (B := wo.heap.size) (xs := ks) (w0 := w) rfl _ _ 24 rfl Try.underlying24 Try.infoInts rfl ownK (a1', n1', k1') row hUW (by omega) rfl (by omega) (by omega) ?_); intro v6 w6 hown6 hb6 hg6 hat6)
          go_roundw
          case rel =>
            refine ⟨j + 1, by omega, by go_num, by rw [HV.out]; exact hown6, hbK.trans hb6, o4.kept hg6 ?_, ?_, by have := hb6.size; omega⟩
            · right; intro e; exact hne g e.symm rfl
            · intro k hk e
              rcases hat6 k hk with h | h
              · exact hne k h e
              · have h1 : g = k := Option.some.inj e
                omega
          case measure => simp [intOf]; omega
        · have hjr : j = rs.length := by have := Hrn.out; omega
          have hx := ownK.rows
          rw [hjr, HKd.out] at hx
          have HDx := Lib.hid (fun (w' : World) (e : Ext wr w') (u : Value) (hu : RowsR ⟨0, wr.heap.size, false⟩ wr u (openRows t d)) => HD.out w' d u (stable_rows.sub (stable_rows.ext hu e) ⟨fun k hk => ⟨hk.1, Nat.lt_of_lt_of_le hk.2 e.size⟩, fun h => h⟩))
          have HFx := Lib.hid (fun (w' : World) => HF.out w' d)
          have HX := Lib.hid hx
          obtain ⟨xa, xn, xc, rfl, -⟩ := OwnA.shape ownK
          have HA := Lib.hid (fun (w' : World) (e : Ext wr w') => (HS1.out.ext (Ext.trans hbK e)).all (Ext.refl _))
          generalize diffN (openRows t d) (openRows t d).length = dn at *
          generalize hls : lT d = ls at *
          generalize hdw : dW d = dw at *
          clear hls hdw hx ownK o4 hne HKA HKd
          go_wp2_with fail
          go_region_held3 (fun w' => w'.cell? ⟨w.heap.size, 0, none⟩ = some (.int .i64 mk.c) ∧ w'.cell? ⟨w.heap.size, 1, none⟩ = some (.int .i64 mk.d) ∧ w'.cell? ⟨w.heap.size, 2, none⟩ = some (.int .i64 mk.s) ∧ w'.cell? ⟨w.heap.size, 3, none⟩ = some (.int .i64 mk.m) ∧ w'.cell? ⟨w.heap.size, 4, none⟩ = some (.int .i64 mk.l) ∧ w'.cell? ⟨w.heap.size, 5, none⟩ = some (.slice (some ⟨b, off, none⟩) n cap)) (exact HA.out _ (by repeat (first | exact Ext.refl _ | assumption | (refine Ext.trans ?_ (Ext.alloc _ _)) | (refine Ext.trans ?_ (Ext.drew _)) | (refine Ext.trans ?_ (by assumption))))) (first | (go_at_call 126; (with_reducible refine (HDx.out _ (by repeat (first | exact Ext.refl _ | assumption | (refine Ext.trans ?_ (Ext.alloc _ _)) | (refine Ext.trans ?_ (Ext.drew _)) | (refine Ext.trans ?_ (by assumption)))) _ HX.out).mono ?_); rintro e w7 hr7; obtain ⟨r7, rfl, rfl, e7⟩ := ret_ext hr7; clear hr7) | (go_at_call 125; (with_reducible refine (HFx.out _).mono ?_); rintro e w8 hr8; obtain ⟨r8, rfl, rfl, e8⟩ := ret_ext hr8; clear hr8; have e38 : Ext wr w8 := (by repeat (first | exact Ext.refl _ | assumption | (refine Ext.trans ?_ (Ext.alloc _ _)) | (refine Ext.trans ?_ (Ext.drew _)) | (refine Ext.trans ?_ (by assumption))))) | fail)
          all_goals
            clear HA HDx HFx HX
            have hdw0 : ¬ ((dw : Int) < 0) := by omega
            have hsum : IntKind.i64.wrap ((ls : Int) + (dw : Int)) = (ls : Int) + (dw : Int) := IntWalk.i64_in _ (by omega)
            go_wp2_with fail
            go_roundw
          any_goals (simp [intOf]; omega)
          all_goals exact ⟨d + 1, by omega, by go_num, by rw [HSd.out]; push_cast; rfl, ew.trans (Ext.trans hbK e38)⟩
    · have hdm : m = d := by omega
      subst hdm
      clear c0 c1 c2 c3 c4 c5
      go_wp2_with fail
      go_ret2
      exact ⟨_, rfl, rfl, eW⟩
end Go.Proofs.Ytgagjibjnaappaa
