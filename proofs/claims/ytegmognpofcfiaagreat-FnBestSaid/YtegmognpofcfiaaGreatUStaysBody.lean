/- Proved: the body of the closure that staysOpen makes. -/
import Derived.Test.YtegmognpofcfiaaGreatChecked
import Derived.Deep.RegionHeld3
import Derived.Test.YtegmognpofcfiaaGreatUStays
import Derived.Test.YtegmognpofcfiaaGreatUPkD
namespace Go.Proofs.YtegmognpofcfiaaGreat
open Go.ChangeShapes Go.WideShapes Go.ChangeAt Go.RowKit
set_option linter.unusedVariables false

theorem stays_new {mk : MK} {t cuts : List (List Int)} {key : List Int} {d : Nat} (hd : d < doorsOf t) (h : newBad mk t cuts key d = true) : stays mk t cuts key = false := by
  rw [Bool.eq_false_iff]; intro hs
  have := (stays_iff.1 hs d hd).1
  rw [h] at this; cases this
theorem stays_old {mk : MK} {t cuts : List (List Int)} {key : List Int} {d k : Nat} (hd : d < doorsOf t) (hk : k < cuts.length) (h : oldBad mk t cuts key d k = true) : stays mk t cuts key = false := by
  rw [Bool.eq_false_iff]; intro hs
  have := (stays_iff.1 hs d hd).2 k hk
  rw [h] at this; cases this

set_option maxRecDepth 20000 in
set_option maxHeartbeats 2000000 in
theorem stays1_c (w : World) (mk : MK) (v : Value) (z : Zone) (t : List (List Int)) (h : RowsR z w v t) (u : Value) (y : Zone) (cuts : List (List Int)) (hc : RowsR y w u cuts) (ok : PartOk mk t cuts) (hlast : cuts.length < t.length)
    (v4 : Value) (z4 : Zone) (key : List Int) (hk : IntsR z4 w v4 key) (kok : KeyOk mk key) (vl : Value) (zl : Zone) (hL : LocksR zl w vl (locks mk t cuts)) (vr : Value) (zr : Zone) (hr : IntsR zr w vr (t.getD cuts.length []))
    (bl br bc bs : Nat) (cl : w.cell? ⟨bl, 0, none⟩ = some vl) (cr : w.cell? ⟨br, 0, none⟩ = some vr) (cc : w.cell? ⟨bc, 0, none⟩ = some u) (S0 : SysAt w bs mk v) :
    Calls Tryz.prog 201 #[v4, .pointer (some ⟨bl, 0, none⟩), .pointer (some ⟨br, 0, none⟩), .pointer (some ⟨bc, 0, none⟩), .pointer (some ⟨bs, 0, none⟩)] w (Ret w fun r _ => r = .bool (stays mk t cuts key)) := by
  have HNB : Hid (∀ d, d < doorsOf t → newBad mk t cuts key d = true → stays mk t cuts key = false) := fun d hd h => stays_new hd h
  have HOB : Hid (∀ d k, d < doorsOf t → k < cuts.length → oldBad mk t cuts key d k = true → stays mk t cuts key = false) := fun d k hd hk h => stays_old hd hk h
  have HOK : Hid ((∀ d, d < doorsOf t → newBad mk t cuts key d = false ∧ ∀ k, k < cuts.length → oldBad mk t cuts key d k = false) → stays mk t cuts key = true) := fun h => stays_iff.2 h
  have HF1 : Hid (∀ d, newBad mk t cuts key d = ((t.getD cuts.length []).getD d 0 == 0 && opensB ((locks mk t cuts).getD d []) key)) := fun _ => rfl
  have HF2 : Hid (∀ d k, oldBad mk t cuts key d k = ((t.getD cuts.length []).getD d 0 == 1 && ((t.getD k []).getD d 0 == 0 && opensWith ((locks mk t cuts).getD d []) key (cuts.getD k [])))) := fun _ _ => rfl
  have hlc : ∀ d, d < doorsOf t → ((locks mk t cuts).getD d []).length = mk.c.toNat := fun d hd => lock_len hd
  have hkl : ∀ k, k < cuts.length → (cuts.getD k []).length = mk.c.toNat := fun k hk => by
    have := (ok.key _ (List.getElem_mem hk)).len
    have e : cuts.getD k [] = cuts[k] := by simp [hk]
    rw [e]; omega
  have hkey : key.length = mk.c.toNat := by have := kok.len; omega
  have HO1 := Lib.hid (fun (d : Nat) (hd : d < doorsOf t) (w' : World) (v : Value) (z : Zone) (h : RowsR z w' v ((locks mk t cuts).getD d [])) (e : Ext w w') => opens_c w' v z _ h v4 z4 key (stable_ints.ext hk e) (by rw [hlc d hd, hkey]; exact Nat.le_refl _))
  have HO2 := Lib.hid (fun (d : Nat) (hd : d < doorsOf t) (k : Nat) (hkk : k < cuts.length) (w' : World) (v : Value) (z : Zone) (h : RowsR z w' v ((locks mk t cuts).getD d [])) (u : Value) (y : Zone) (hx : IntsR y w' u (cuts.getD k [])) (e : Ext w w') => opensWith_c w' v z _ h v4 z4 key (stable_ints.ext hk e) u y _ hx (by rw [hlc d hd, hkl k hkk]; exact Nat.le_refl _) (by rw [hkey, hkl k hkk]; exact Nat.le_refl _))
  have HRow := Lib.hid ok.row
  have HLL := Lib.hid (locks_len mk t cuts)
  have hrl : (t.getD cuts.length []).length = doorsOf t := ok.row _ hlast
  have hdo := ok.doors
  clear hlc hkl hkey kok
  generalize stays mk t cuts key = res at *
  generalize newBad mk t cuts key = nB at *
  generalize oldBad mk t cuts key = oB at *
  generalize locks mk t cuts = ls at *
  generalize t.getD cuts.length [] = row at *
  obtain ⟨a, n, cap, rfl, hn, hmax, -⟩ := SliceR.shape h
  obtain ⟨a2, n2, cap2, rfl, hn2, hmax2, -⟩ := SliceR.shape hc
  obtain ⟨a4, n4, cap4, rfl, -⟩ := SliceR.shape hk
  obtain ⟨la, ln, lc, rfl, hln, -⟩ := SliceR.shape hL
  obtain ⟨ra, rn, rc, rfl, hrn, -⟩ := SliceR.shape hr
  have HT := Lib.hid (fun (k : Nat) (hk : k < n) => rows_at h hk)
  have HC := Lib.hid (fun (k : Nat) (hk : k < n2) => rows_at hc hk)
  have HLA := Lib.hid (fun (k : Nat) (hk : k < ln) => locks_at hL hk)
  have HX := Lib.hid (fun (k : Nat) (hk : k < rn) => ints_at hr hk)
  have hlnd : ln = doorsOf t := by rw [hln, HLL.out]
  have hrnd : rn = ln := by rw [hrn, hrl, hlnd]
  have hlastn : n2 < n := by omega
  have Hn := Lib.hid hn
  have Hn2 := Lib.hid hn2
  have Hln := Lib.hid hlnd
  have hlnm : ln ≤ 12 := by omega
  have HB : Hid (∀ w', Ext w w' → w'.cell? ⟨bl, 0, none⟩ = some (.slice la ln lc) ∧ w'.cell? ⟨br, 0, none⟩ = some (.slice ra rn rc) ∧ w'.cell? ⟨bc, 0, none⟩ = some (.slice a2 n2 cap2) ∧ w'.cell? ⟨bs, 5, none⟩ = some (.slice a n cap)) := fun w' e => ⟨e.cell cl, e.cell cr, e.cell cc, e.cell S0.c5⟩
  subst hrnd
  clear hn hn2 hln hrn hlnd hrl hdo h hc hk hL hr ok hlast HLL cl cr cc S0
  obtain ⟨b1, b2, b3, b4⟩ := HB.out w (Ext.refl _)
  go_enter Tryz.func201, Tryz.ntmps201
  go_wp2_with fail
  clear b1 b2 b3 b4
  go_loopw [7, 8, 9, 10, 13] (fun _ _ _ _ s13 wr => ∃ d : Nat, d ≤ rn ∧ s13 = .int .i64 d ∧ (∀ j, j < d → nB j = false ∧ ∀ k, k < cuts.length → oB j k = false) ∧ Ext w wr) (fun _ _ _ _ s13 _ => rn - (intOf s13).toNat)
  case atStart => exact ⟨0, Nat.zero_le _, rfl, by simp, Ext.refl _⟩
  case round =>
    obtain ⟨d, hd, rfl, hall, ew⟩ := hrel
    have Hall := Lib.hid hall
    clear hall
    by_cases hlt : d < rn
    · have hdl : d < doorsOf t := by rw [← Hln.out]; exact hlt
      have Hdl := Lib.hid hdl
      obtain ⟨bl', ol, rfl, a3, n3, k3, hn3, hcl, yl, -, hyl⟩ := HLA.out d hlt
      obtain ⟨br', or', rfl, hi, hcr⟩ := HX.out d hlt
      have HA := Lib.hid (HF1.out d)
      have HA2 := Lib.hid (HF2.out d)
      have HNd := Lib.hid (HNB.out d hdl)
      have HOd := Lib.hid (fun k hk => HOB.out d k hdl hk)
      have HCo := Lib.hid (HO1.out d hdl)
      have HCw := Lib.hid (HO2.out d hdl)
      have hclw := hcl wr ew
      have Hyl := Lib.hid hyl
      have Hcr := Lib.hid hcr
      clear hn3 hdl hcl hcr hyl
      generalize row.getD d 0 = x at *
      generalize ls.getD d [] = lk at *
      generalize opensB lk key = q at *
      obtain ⟨b1, b2, b3, b4⟩ := HB.out wr ew
      go_upto_region 4 with fail
      generalize hwX : World.alloc _ _ = wX
      obtain ⟨eX, lX⟩ : Ext wr wX ∧ wX.cell? ⟨wr.heap.size, 0, none⟩ = some (.slice a3 n3 k3) := by
        subst hwX
        exact ⟨Ext.alloc _ _, by simp⟩
      clear hwX b1 b2 b3 b4 hclw
      have ewX := ew.trans eX
      obtain ⟨b1, b2, b3, b4⟩ := HB.out wX ewX
      have r1 := Hcr.out wX ewX
      by_cases hx0 : x = 0
      · have hb0 : (x == 0) = true := by simpa using hx0
        clear hx0
        have hcall := HCo.out wX _ _ (Hyl.out wX ewX) ewX
        cases q with
        | true =>
          have HR : Hid (res = false) := HNd.out (by rw [HA.out, hb0]; rfl)
          go_wp2_with fail
          refine Calls.mono hcall ?_
          rintro e w2 hr
          obtain ⟨r, rfl, rfl, e2⟩ := ret_ext hr
          clear hr hcall
          go_wp2_with fail
          go_ret
          exact ⟨.bool false, rfl, congrArg Value.bool HR.out.symm, ewX.trans e2⟩
        | false =>
          go_wp2_with fail
          refine Calls.mono hcall ?_
          rintro e wY hr
          obtain ⟨r, rfl, rfl, e2⟩ := ret_ext hr
          clear hr hcall
          have ewY := ewX.trans e2
          have lY := e2.cell lX
          have HNf : Hid (nB d = false) := by show _ = _; rw [HA.out, hb0]; rfl
          obtain ⟨b1, b2, b3, b4⟩ := HB.out wY ewY
          go_wp2_with fail
          clear b1 b2 b3 b4 r1
          obtain ⟨wo, rfl⟩ : ∃ wo, wo = wr := ⟨_, rfl⟩
          clear ew eX ewX lX e2
          go_loopw [9, 10, 30] (fun _ _ s30 wr => ∃ k : Nat, k ≤ n2 ∧ s30 = .int .i64 k ∧ (∀ j, j < k → oB d j = false) ∧ Ext w wr ∧ wr.cell? ⟨wo.heap.size, 0, none⟩ = some (.slice a3 n3 k3)) (fun _ _ s30 _ => n2 - (intOf s30).toNat)
          case atStart => exact ⟨0, Nat.zero_le _, rfl, by simp, ewY, lY⟩
          case round =>
            obtain ⟨k, hk, rfl, hold, ew, lw⟩ := hrel
            have Hold := Lib.hid hold
            clear hold ewY lY
            by_cases hltk : k < n2
            · obtain ⟨bc', oc, rfl, a5, n5, k5, hn5, hm5, -, hcc, ⟨yc, -, hyc⟩, -⟩ := HC.out k hltk
              obtain ⟨bt, ot, rfl, a6, n6, k6, hn6, hm6, -, hct, -, hel⟩ := HT.out k (by omega)
              have hd6 : d < n6 := by rw [hn6, HRow.out k (by rw [← Hn.out]; omega)]; exact Hdl.out
              obtain ⟨b7, o7, rfl, hx7, hc7⟩ := hel d hd6
              have hkc : k < cuts.length := by rw [← Hn2.out]; exact hltk
              have hkn : k < n := by omega
              obtain ⟨b1, b2, b3, b4⟩ := HB.out wr ew
              have r1 := Hcr.out wr ew
              have r2 := hcc wr ew
              have r3 := hct wr ew
              have r4 := hc7 wr ew
              have HAk := Lib.hid (HA2.out k)
              have HOk := Lib.hid (HOd.out k hkc)
              have HCall := Lib.hid (HCw.out k hkc wr _ _ (Hyl.out wr ew) _ _ (hyc wr ew) ew)
              have Hgo : Hid (oB d k = false → ∀ j, j < k + 1 → oB d j = false) := fun h j hj => by
                by_cases e : j = k
                · rw [e]; exact h
                · exact Hold.out j (by omega)
              clear hn5 hcc hyc hn6 hct hel hc7 hkc
              generalize (t.getD k []).getD d 0 = x2 at *
              generalize opensWith lk key (cuts.getD k []) = q2 at *
              by_cases hx1 : x = 1
              · have hb1 : (x == 1) = true := by simpa using hx1
                clear hx1
                by_cases hx2 : x2 = 0
                · have hb2 : (x2 == 0) = true := by simpa using hx2
                  clear hx2
                  have hcall := HCall.out
                  cases q2 with
                  | true =>
                    have HR : Hid (res = false) := HOk.out (by rw [HAk.out, hb1, hb2]; rfl)
                    clear HCall HAk
                    go_wp2_with fail
                    refine Calls.mono hcall ?_
                    rintro e w2 hr
                    obtain ⟨r, rfl, rfl, e2⟩ := ret_ext hr
                    clear hr hcall
                    go_wp2_with fail
                    go_ret
                    exact ⟨.bool false, rfl, congrArg Value.bool HR.out.symm, ew.trans e2⟩
                  | false =>
                    have HG := Lib.hid (Hgo.out (by rw [HAk.out, hb1, hb2]; rfl))
                    clear HCall HAk
                    go_wp2_with fail
                    refine Calls.mono hcall ?_
                    rintro e w2 hr
                    obtain ⟨r, rfl, rfl, e2⟩ := ret_ext hr
                    clear hr hcall
                    go_wp2_with fail
                    go_roundw
                    case rel => exact ⟨k+1, by omega, by go_num, HG.out, ew.trans e2, e2.cell lw⟩
                    case measure => simp [intOf]; omega
                · have hb2 : (x2 == 0) = false := by simpa using hx2
                  have HG := Lib.hid (Hgo.out (by rw [HAk.out, hb1, hb2]; rfl))
                  clear hx2 HCall HAk
                  go_wp2_with fail
                  go_roundw
                  case rel => exact ⟨k+1, by omega, by go_num, HG.out, ew, lw⟩
                  case measure => simp [intOf]; omega
              · have hb1 : (x == 1) = false := by simpa using hx1
                have HG := Lib.hid (Hgo.out (by rw [HAk.out, hb1]; rfl))
                clear hx1 HCall HAk
                go_wp2_with fail
                go_roundw
                case rel => exact ⟨k+1, by omega, by go_num, HG.out, ew, lw⟩
                case measure => simp [intOf]; omega
            · have HG : Hid (∀ j, j < d + 1 → nB j = false ∧ ∀ k, k < cuts.length → oB j k = false) := fun j hj => by
                by_cases e : j = d
                · rw [e]; exact ⟨HNf.out, fun i hi => Hold.out i (by have := Hn2.out; omega)⟩
                · exact Hall.out j (by omega)
              go_wp2_with fail
              go_roundw
              case rel => exact ⟨d+1, by omega, by go_num, HG.out, ew⟩
              case measure => simp [intOf]; omega
      · have hb0 : (x == 0) = false := by simpa using hx0
        clear hx0
        obtain ⟨wY, hwY⟩ : ∃ wY, wY = wX := ⟨_, rfl⟩
        have ewY := ewX
        have lY := lX
        clear hwY
        have HNf : Hid (nB d = false) := by show _ = _; rw [HA.out, hb0, Bool.false_and]
        obtain ⟨b1, b2, b3, b4⟩ := HB.out wX ewX
        go_wp2_with fail
        clear b1 b2 b3 b4 r1
        obtain ⟨wo, rfl⟩ : ∃ wo, wo = wr := ⟨_, rfl⟩
        clear ew eX ewX lX
        go_loopw [9, 10, 30] (fun _ _ s30 wr => ∃ k : Nat, k ≤ n2 ∧ s30 = .int .i64 k ∧ (∀ j, j < k → oB d j = false) ∧ Ext w wr ∧ wr.cell? ⟨wo.heap.size, 0, none⟩ = some (.slice a3 n3 k3)) (fun _ _ s30 _ => n2 - (intOf s30).toNat)
        case atStart => exact ⟨0, Nat.zero_le _, rfl, by simp, ewY, lY⟩
        case round =>
          obtain ⟨k, hk, rfl, hold, ew, lw⟩ := hrel
          have Hold := Lib.hid hold
          clear hold ewY lY
          by_cases hltk : k < n2
          · obtain ⟨bc', oc, rfl, a5, n5, k5, hn5, hm5, -, hcc, ⟨yc, -, hyc⟩, -⟩ := HC.out k hltk
            obtain ⟨bt, ot, rfl, a6, n6, k6, hn6, hm6, -, hct, -, hel⟩ := HT.out k (by omega)
            have hd6 : d < n6 := by rw [hn6, HRow.out k (by rw [← Hn.out]; omega)]; exact Hdl.out
            obtain ⟨b7, o7, rfl, hx7, hc7⟩ := hel d hd6
            have hkc : k < cuts.length := by rw [← Hn2.out]; exact hltk
            have hkn : k < n := by omega
            obtain ⟨b1, b2, b3, b4⟩ := HB.out wr ew
            have r1 := Hcr.out wr ew
            have r2 := hcc wr ew
            have r3 := hct wr ew
            have r4 := hc7 wr ew
            have HAk := Lib.hid (HA2.out k)
            have HOk := Lib.hid (HOd.out k hkc)
            have HCall := Lib.hid (HCw.out k hkc wr _ _ (Hyl.out wr ew) _ _ (hyc wr ew) ew)
            have Hgo : Hid (oB d k = false → ∀ j, j < k + 1 → oB d j = false) := fun h j hj => by
              by_cases e : j = k
              · rw [e]; exact h
              · exact Hold.out j (by omega)
            clear hn5 hcc hyc hn6 hct hel hc7 hkc
            generalize (t.getD k []).getD d 0 = x2 at *
            generalize opensWith lk key (cuts.getD k []) = q2 at *
            by_cases hx1 : x = 1
            · have hb1 : (x == 1) = true := by simpa using hx1
              clear hx1
              by_cases hx2 : x2 = 0
              · have hb2 : (x2 == 0) = true := by simpa using hx2
                clear hx2
                have hcall := HCall.out
                cases q2 with
                | true =>
                  have HR : Hid (res = false) := HOk.out (by rw [HAk.out, hb1, hb2]; rfl)
                  clear HCall HAk
                  go_wp2_with fail
                  refine Calls.mono hcall ?_
                  rintro e w2 hr
                  obtain ⟨r, rfl, rfl, e2⟩ := ret_ext hr
                  clear hr hcall
                  go_wp2_with fail
                  go_ret
                  exact ⟨.bool false, rfl, congrArg Value.bool HR.out.symm, ew.trans e2⟩
                | false =>
                  have HG := Lib.hid (Hgo.out (by rw [HAk.out, hb1, hb2]; rfl))
                  clear HCall HAk
                  go_wp2_with fail
                  refine Calls.mono hcall ?_
                  rintro e w2 hr
                  obtain ⟨r, rfl, rfl, e2⟩ := ret_ext hr
                  clear hr hcall
                  go_wp2_with fail
                  go_roundw
                  case rel => exact ⟨k+1, by omega, by go_num, HG.out, ew.trans e2, e2.cell lw⟩
                  case measure => simp [intOf]; omega
              · have hb2 : (x2 == 0) = false := by simpa using hx2
                have HG := Lib.hid (Hgo.out (by rw [HAk.out, hb1, hb2]; rfl))
                clear hx2 HCall HAk
                go_wp2_with fail
                go_roundw
                case rel => exact ⟨k+1, by omega, by go_num, HG.out, ew, lw⟩
                case measure => simp [intOf]; omega
            · have hb1 : (x == 1) = false := by simpa using hx1
              have HG := Lib.hid (Hgo.out (by rw [HAk.out, hb1]; rfl))
              clear hx1 HCall HAk
              go_wp2_with fail
              go_roundw
              case rel => exact ⟨k+1, by omega, by go_num, HG.out, ew, lw⟩
              case measure => simp [intOf]; omega
          · have HG : Hid (∀ j, j < d + 1 → nB j = false ∧ ∀ k, k < cuts.length → oB j k = false) := fun j hj => by
              by_cases e : j = d
              · rw [e]; exact ⟨HNf.out, fun i hi => Hold.out i (by have := Hn2.out; omega)⟩
              · exact Hall.out j (by omega)
            go_wp2_with fail
            go_roundw
            case rel => exact ⟨d+1, by omega, by go_num, HG.out, ew⟩
            case measure => simp [intOf]; omega
    · have hdd : d = doorsOf t := by have := Hln.out; omega
      have HR : Hid (res = true) := HOK.out (fun j hj => Hall.out j (by omega))
      go_wp2_with fail
      go_ret
      exact ⟨.bool true, rfl, congrArg Value.bool HR.out.symm, ew⟩
end Go.Proofs.YtegmognpofcfiaaGreat
