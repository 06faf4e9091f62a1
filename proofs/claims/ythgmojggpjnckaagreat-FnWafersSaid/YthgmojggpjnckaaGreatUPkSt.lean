/- Proved: whether a lock opens to cuts once a key is added, and whether a system stays a design, in the program; the body of the closure that staysOpen makes; the closure that staysOpen makes. -/
import Derived.Test.YthgmojggpjnckaaGreatChecked
import Derived.Deep.RegionHeld3
import Derived.Test.YthgmojggpjnckaaGreatUPkF1
import Derived.Test.YthgmojggpjnckaaGreatUPkC
import Derived.Test.YthgmojggpjnckaaGreatUPkD
namespace Go.Proofs.YthgmojggpjnckaaGreat
open Go.ChangeShapes Go.WideShapes Go.ChangeAt Go.RowKit
set_option linter.unusedVariables false

theorem opensWith_no {l : List (List Int)} {key xs : List Int} (i : Nat) (hi : i < xs.length) (h1 : ¬ xs.getD i 0 = key.getD i 0) (h : has (l.getD i []) (xs.getD i 0) = false) : opensWith l key xs = false := by
  unfold opensWith; rw [List.all_eq_false]; refine ⟨i, List.mem_range.2 hi, ?_⟩
  rw [h, Bool.or_false, beq_iff_eq]; exact h1
theorem opensWith_yes {l : List (List Int)} {key xs : List Int} (h : ∀ i, i < xs.length → xs.getD i 0 = key.getD i 0 ∨ has (l.getD i []) (xs.getD i 0) = true) : opensWith l key xs = true := by
  unfold opensWith; rw [List.all_eq_true]; intro i hi
  have hi := List.mem_range.1 hi
  rw [Bool.or_eq_true, beq_iff_eq]; exact h i hi

set_option maxRecDepth 20000 in
set_option maxHeartbeats 1000000 in
theorem opensWith_c (w : World) (v : Value) (z : Zone) (l : List (List Int)) (h : RowsR z w v l) (u4 : Value) (y4 : Zone) (key : List Int) (hk : IntsR y4 w u4 key) (u : Value) (y : Zone) (xs : List Int) (hx : IntsR y w u xs) (hl : xs.length ≤ l.length) (hkl : xs.length ≤ key.length) :
    Calls Tryz.prog 183 #[.agg #[v], u4, u] w (Ret w fun r _ => r = .bool (opensWith l key xs)) := by
  have H1 : Hid (∀ i, i < xs.length → ¬ xs.getD i 0 = key.getD i 0 → has (l.getD i []) (xs.getD i 0) = false → opensWith l key xs = false) := fun i hi h1 h => opensWith_no i hi h1 h
  have H2 : Hid ((∀ i, i < xs.length → xs.getD i 0 = key.getD i 0 ∨ has (l.getD i []) (xs.getD i 0) = true) → opensWith l key xs = true) := opensWith_yes
  generalize opensWith l key xs = res at *
  obtain ⟨a, n, cap, rfl, hn, hmax, -⟩ := SliceR.shape h
  obtain ⟨a2, n2, cap2, rfl, hn2, hmax2, -⟩ := SliceR.shape hx
  obtain ⟨a4, n4, cap4, rfl, hn4, hmax4, -⟩ := SliceR.shape hk
  have HT := Lib.hid (fun (k : Nat) (hk : k < n) => rows_at h hk)
  have HX := Lib.hid (fun (k : Nat) (hk : k < n2) => ints_at hx hk)
  have HY := Lib.hid (fun (k : Nat) (hh : k < n4) => ints_at hk hh)
  rw [← hn, ← hn2] at hl
  rw [← hn4, ← hn2] at hkl
  have Hn2 := Lib.hid hn2
  clear hn hn2 hn4 h hx hk
  go_enter Tryz.func183, Tryz.ntmps183
  go_wp2_with fail
  generalize hw0 : World.alloc _ _ = w0
  obtain ⟨e0, c0⟩ : Ext w w0 ∧ w0.cell? ⟨w.heap.size, 0, none⟩ = some (.slice a n cap) := by subst hw0; exact ⟨Ext.alloc _ _, by simp⟩
  clear hw0
  go_loopw [7, 8, 11] (fun _ _ s wr => ∃ k : Nat, k ≤ n2 ∧ s = .int .i64 k ∧ (∀ j, j < k → xs.getD j 0 = key.getD j 0 ∨ has (l.getD j []) (xs.getD j 0) = true) ∧ Drew w0 wr) (fun _ _ s _ => n2 - (intOf s).toNat)
  case atStart => exact ⟨0, Nat.zero_le _, rfl, by simp, Drew.refl _⟩
  case round =>
    obtain ⟨k, hk, rfl, hall, hd⟩ := hrel
    have Hall := Lib.hid hall
    clear hall
    have c0' := (hd.cell _).trans c0
    have et := e0.trans (Ext.ofDrew hd)
    by_cases hlt : k < n2
    · obtain ⟨b, off, rfl, hi, hc⟩ := HX.out k hlt
      obtain ⟨b4, off4, rfl, hi4, hc4⟩ := HY.out k (by omega)
      obtain ⟨b1, o1, rfl, a1, n1, k1, hn1, hm1, -, hc1, ⟨y1, -, hy1⟩, -⟩ := HT.out k (by omega)
      replace hc := hc wr et
      replace hc4 := hc4 wr et
      replace hc1 := hc1 wr et
      have hcall := Contains_c wr _ y1 _ (xs.getD k 0) (hy1 wr et) hi
      have hkl' : k < n := by omega
      have hkl4 : k < n4 := by omega
      have Hno : Hid (¬ xs.getD k 0 = key.getD k 0 → has (l.getD k []) (xs.getD k 0) = false → res = false) := fun h1 h => H1.out k (by rw [← Hn2.out]; exact hlt) h1 h
      have Hgo : Hid (xs.getD k 0 = key.getD k 0 ∨ has (l.getD k []) (xs.getD k 0) = true → ∀ j, j < k + 1 → xs.getD j 0 = key.getD j 0 ∨ has (l.getD j []) (xs.getD j 0) = true) := fun h j hj => by
        by_cases e : j = k
        · rw [e]; exact h
        · exact Hall.out j (by omega)
      generalize has (l.getD k []) (xs.getD k 0) = q at *
      generalize xs.getD k 0 = x at *
      generalize key.getD k 0 = kx at *
      clear hy1 hn1
      by_cases hxk : x = kx
      · have hb : (x != kx) = false := by rw [hxk]; simp
        have HH := Lib.hid (Hgo.out (.inl hxk))
        clear hxk hcall Hno Hgo
        go_wp2_with fail
        go_roundw
        case rel => exact ⟨k+1, by omega, by go_num, HH.out, hd⟩
        case measure => simp [intOf]; omega
      · have hb : (x != kx) = true := by rw [bne_iff_ne]; exact hxk
        have Hno' := Lib.hid (Hno.out hxk)
        clear hxk Hno
        cases q with
        | true =>
          have HH := Lib.hid (Hgo.out (.inr rfl))
          go_wp2_with fail
          refine Calls.mono hcall ?_
          rintro e w2 ⟨rfl, hd2⟩
          clear hcall
          go_wp2_with fail
          go_roundw
          case rel => exact ⟨k+1, by omega, by go_num, HH.out, hd.trans hd2⟩
          case measure => simp [intOf]; omega
        | false =>
          have HH := Lib.hid (Hno'.out rfl)
          go_wp2_with fail
          refine Calls.mono hcall ?_
          rintro e w2 ⟨rfl, hd2⟩
          clear hcall
          go_wp2_with fail
          go_ret
          exact ⟨.bool false, rfl, congrArg Value.bool HH.out.symm, et.trans (Ext.ofDrew hd2)⟩
    · have HH : Hid (res = true) := H2.out (fun j hj => Hall.out j (by have := Hn2.out; omega))
      go_wp2_with fail
      go_ret
      exact ⟨.bool true, rfl, congrArg Value.bool HH.out.symm, et⟩

open Go.ChangeShapes Go.WideShapes Go.ChangeAt Go.RowKit
set_option linter.unusedVariables false

theorem stays_new {mk : MK} {t cuts : List (List Int)} {key : List Int} {d : Nat} (hd : d < doorsOf t) (h : newBad mk t cuts key d = true) : stays mk t cuts key = false := by
  rw [Bool.eq_false_iff]; intro hs
  have := (stays_iff.1 hs d hd).1
  rw [h] at this; cases this
theorem stays_old {mk : MK} {t cuts : List (List Int)} {key : List Int} {d k : Nat} (hd : d < doorsOf t) (hk : k < cuts.length) (h : oldBad mk t cuts key d k = true) : stays mk t cuts key = false := by
  rw [Bool.eq_false_iff]; intro hs
  have := (stays_iff.1 hs d hd).2 k hk
  rw [h] at this; cases this

set_option maxRecDepth 20000 in
set_option maxHeartbeats 2000000 in
theorem stays1_c (w : World) (mk : MK) (v : Value) (z : Zone) (t : List (List Int)) (h : RowsR z w v t) (u : Value) (y : Zone) (cuts : List (List Int)) (hc : RowsR y w u cuts) (ok : PartOk mk t cuts) (hlast : cuts.length < t.length)
    (v4 : Value) (z4 : Zone) (key : List Int) (hk : IntsR z4 w v4 key) (kok : KeyOk mk key) (vl : Value) (zl : Zone) (hL : LocksR zl w vl (locks mk t cuts)) (vr : Value) (zr : Zone) (hr : IntsR zr w vr (t.getD cuts.length []))
    (bl br bc bs : Nat) (cl : w.cell? ⟨bl, 0, none⟩ = some vl) (cr : w.cell? ⟨br, 0, none⟩ = some vr) (cc : w.cell? ⟨bc, 0, none⟩ = some u) (S0 : SysAt w bs mk v) :
    Calls Tryz.prog 182 #[v4, .pointer (some ⟨bl, 0, none⟩), .pointer (some ⟨br, 0, none⟩), .pointer (some ⟨bc, 0, none⟩), .pointer (some ⟨bs, 0, none⟩)] w (Ret w fun r _ => r = .bool (stays mk t cuts key)) := by
  have HNB : Hid (∀ d, d < doorsOf t → newBad mk t cuts key d = true → stays mk t cuts key = false) := fun d hd h => stays_new hd h
  have HOB : Hid (∀ d k, d < doorsOf t → k < cuts.length → oldBad mk t cuts key d k = true → stays mk t cuts key = false) := fun d k hd hk h => stays_old hd hk h
  have HOK : Hid ((∀ d, d < doorsOf t → newBad mk t cuts key d = false ∧ ∀ k, k < cuts.length → oldBad mk t cuts key d k = false) → stays mk t cuts key = true) := fun h => stays_iff.2 h
  have HF1 : Hid (∀ d, newBad mk t cuts key d = ((t.getD cuts.length []).getD d 0 == 0 && opensB ((locks mk t cuts).getD d []) key)) := fun _ => rfl
  have HF2 : Hid (∀ d k, oldBad mk t cuts key d k = ((t.getD cuts.length []).getD d 0 == 1 && ((t.getD k []).getD d 0 == 0 && opensWith ((locks mk t cuts).getD d []) key (cuts.getD k [])))) := fun _ _ => rfl
  have hlc : ∀ d, d < doorsOf t → ((locks mk t cuts).getD d []).length = mk.c.toNat := fun d hd => lock_len hd
  have hkl : ∀ k, k < cuts.length → (cuts.getD k []).length = mk.c.toNat := fun k hk => by
    have := (ok.key _ (List.getElem_mem hk)).len
    have e : cuts.getD k [] = cuts[k] := by simp [hk]
    rw [e]; omega
  have hkey : key.length = mk.c.toNat := by have := kok.len; omega
  have HO1 := Lib.hid (fun (d : Nat) (hd : d < doorsOf t) (w' : World) (v : Value) (z : Zone) (h : RowsR z w' v ((locks mk t cuts).getD d [])) (e : Ext w w') => opens_c w' v z _ h v4 z4 key (stable_ints.ext hk e) (by rw [hlc d hd, hkey]; exact Nat.le_refl _))
  have HO2 := Lib.hid (fun (d : Nat) (hd : d < doorsOf t) (k : Nat) (hkk : k < cuts.length) (w' : World) (v : Value) (z : Zone) (h : RowsR z w' v ((locks mk t cuts).getD d [])) (u : Value) (y : Zone) (hx : IntsR y w' u (cuts.getD k [])) (e : Ext w w') => opensWith_c w' v z _ h v4 z4 key (stable_ints.ext hk e) u y _ hx (by rw [hlc d hd, hkl k hkk]; exact Nat.le_refl _) (by rw [hkey, hkl k hkk]; exact Nat.le_refl _))
  have HRow := Lib.hid ok.row
  have HLL := Lib.hid (locks_len mk t cuts)
  have hrl : (t.getD cuts.length []).length = doorsOf t := ok.row _ hlast
  have hdo := ok.doors
  clear hlc hkl hkey kok
  generalize stays mk t cuts key = res at *
  generalize newBad mk t cuts key = nB at *
  generalize oldBad mk t cuts key = oB at *
  generalize locks mk t cuts = ls at *
  generalize t.getD cuts.length [] = row at *
  obtain ⟨a, n, cap, rfl, hn, hmax, -⟩ := SliceR.shape h
  obtain ⟨a2, n2, cap2, rfl, hn2, hmax2, -⟩ := SliceR.shape hc
  obtain ⟨a4, n4, cap4, rfl, -⟩ := SliceR.shape hk
  obtain ⟨la, ln, lc, rfl, hln, -⟩ := SliceR.shape hL
  obtain ⟨ra, rn, rc, rfl, hrn, -⟩ := SliceR.shape hr
  have HT := Lib.hid (fun (k : Nat) (hk : k < n) => rows_at h hk)
  have HC := Lib.hid (fun (k : Nat) (hk : k < n2) => rows_at hc hk)
  have HLA := Lib.hid (fun (k : Nat) (hk : k < ln) => locks_at hL hk)
  have HX := Lib.hid (fun (k : Nat) (hk : k < rn) => ints_at hr hk)
  have hlnd : ln = doorsOf t := by rw [hln, HLL.out]
  have hrnd : rn = ln := by rw [hrn, hrl, hlnd]
  have hlastn : n2 < n := by omega
  have Hn := Lib.hid hn
  have Hn2 := Lib.hid hn2
  have Hln := Lib.hid hlnd
  have hlnm : ln ≤ 12 := by omega
  have HB : Hid (∀ w', Ext w w' → w'.cell? ⟨bl, 0, none⟩ = some (.slice la ln lc) ∧ w'.cell? ⟨br, 0, none⟩ = some (.slice ra rn rc) ∧ w'.cell? ⟨bc, 0, none⟩ = some (.slice a2 n2 cap2) ∧ w'.cell? ⟨bs, 5, none⟩ = some (.slice a n cap)) := fun w' e => ⟨e.cell cl, e.cell cr, e.cell cc, e.cell S0.c5⟩
  subst hrnd
  clear hn hn2 hln hrn hlnd hrl hdo h hc hk hL hr ok hlast HLL cl cr cc S0
  obtain ⟨b1, b2, b3, b4⟩ := HB.out w (Ext.refl _)
  go_enter Tryz.func182, Tryz.ntmps182
  go_wp2_with fail
  clear b1 b2 b3 b4
  go_loopw [7, 8, 9, 10, 13] (fun _ _ _ _ s13 wr => ∃ d : Nat, d ≤ rn ∧ s13 = .int .i64 d ∧ (∀ j, j < d → nB j = false ∧ ∀ k, k < cuts.length → oB j k = false) ∧ Ext w wr) (fun _ _ _ _ s13 _ => rn - (intOf s13).toNat)
  case atStart => exact ⟨0, Nat.zero_le _, rfl, by simp, Ext.refl _⟩
  case round =>
    obtain ⟨d, hd, rfl, hall, ew⟩ := hrel
    have Hall := Lib.hid hall
    clear hall
    by_cases hlt : d < rn
    · have hdl : d < doorsOf t := by rw [← Hln.out]; exact hlt
      have Hdl := Lib.hid hdl
      obtain ⟨bl', ol, rfl, a3, n3, k3, hn3, hcl, yl, -, hyl⟩ := HLA.out d hlt
      obtain ⟨br', or', rfl, hi, hcr⟩ := HX.out d hlt
      have HA := Lib.hid (HF1.out d)
      have HA2 := Lib.hid (HF2.out d)
      have HNd := Lib.hid (HNB.out d hdl)
      have HOd := Lib.hid (fun k hk => HOB.out d k hdl hk)
      have HCo := Lib.hid (HO1.out d hdl)
      have HCw := Lib.hid (HO2.out d hdl)
      have hclw := hcl wr ew
      have Hyl := Lib.hid hyl
      have Hcr := Lib.hid hcr
      clear hn3 hdl hcl hcr hyl
      generalize row.getD d 0 = x at *
      generalize ls.getD d [] = lk at *
      generalize opensB lk key = q at *
      obtain ⟨b1, b2, b3, b4⟩ := HB.out wr ew
      go_upto_region 4 with fail
      generalize hwX : World.alloc _ _ = wX
      obtain ⟨eX, lX⟩ : Ext wr wX ∧ wX.cell? ⟨wr.heap.size, 0, none⟩ = some (.slice a3 n3 k3) := by
        subst hwX
        exact ⟨Ext.alloc _ _, by simp⟩
      clear hwX b1 b2 b3 b4 hclw
      have ewX := ew.trans eX
      obtain ⟨b1, b2, b3, b4⟩ := HB.out wX ewX
      have r1 := Hcr.out wX ewX
      by_cases hx0 : x = 0
      · have hb0 : (x == 0) = true := by simpa using hx0
        clear hx0
        have hcall := HCo.out wX _ _ (Hyl.out wX ewX) ewX
        cases q with
        | true =>
          have HR : Hid (res = false) := HNd.out (by rw [HA.out, hb0]; rfl)
          go_wp2_with fail
          refine Calls.mono hcall ?_
          rintro e w2 hr
          obtain ⟨r, rfl, rfl, e2⟩ := ret_ext hr
          clear hr hcall
          go_wp2_with fail
          go_ret
          exact ⟨.bool false, rfl, congrArg Value.bool HR.out.symm, ewX.trans e2⟩
        | false =>
          go_wp2_with fail
          refine Calls.mono hcall ?_
          rintro e wY hr
          obtain ⟨r, rfl, rfl, e2⟩ := ret_ext hr
          clear hr hcall
          have ewY := ewX.trans e2
          have lY := e2.cell lX
          have HNf : Hid (nB d = false) := by show _ = _; rw [HA.out, hb0]; rfl
          obtain ⟨b1, b2, b3, b4⟩ := HB.out wY ewY
          go_wp2_with fail
          clear b1 b2 b3 b4 r1
          obtain ⟨wo, rfl⟩ : ∃ wo, wo = wr := ⟨_, rfl⟩
          clear ew eX ewX lX e2
          go_loopw [9, 10, 30] (fun _ _ s30 wr => ∃ k : Nat, k ≤ n2 ∧ s30 = .int .i64 k ∧ (∀ j, j < k → oB d j = false) ∧ Ext w wr ∧ wr.cell? ⟨wo.heap.size, 0, none⟩ = some (.slice a3 n3 k3)) (fun _ _ s30 _ => n2 - (intOf s30).toNat)
          case atStart => exact ⟨0, Nat.zero_le _, rfl, by simp, ewY, lY⟩
          case round =>
            obtain ⟨k, hk, rfl, hold, ew, lw⟩ := hrel
            have Hold := Lib.hid hold
            clear hold ewY lY
            by_cases hltk : k < n2
            · obtain ⟨bc', oc, rfl, a5, n5, k5, hn5, hm5, -, hcc, ⟨yc, -, hyc⟩, -⟩ := HC.out k hltk
              obtain ⟨bt, ot, rfl, a6, n6, k6, hn6, hm6, -, hct, -, hel⟩ := HT.out k (by omega)
              have hd6 : d < n6 := by rw [hn6, HRow.out k (by rw [← Hn.out]; omega)]; exact Hdl.out
              obtain ⟨b7, o7, rfl, hx7, hc7⟩ := hel d hd6
              have hkc : k < cuts.length := by rw [← Hn2.out]; exact hltk
              have hkn : k < n := by omega
              obtain ⟨b1, b2, b3, b4⟩ := HB.out wr ew
              have r1 := Hcr.out wr ew
              have r2 := hcc wr ew
              have r3 := hct wr ew
              have r4 := hc7 wr ew
              have HAk := Lib.hid (HA2.out k)
              have HOk := Lib.hid (HOd.out k hkc)
              have HCall := Lib.hid (HCw.out k hkc wr _ _ (Hyl.out wr ew) _ _ (hyc wr ew) ew)
              have Hgo : Hid (oB d k = false → ∀ j, j < k + 1 → oB d j = false) := fun h j hj => by
                by_cases e : j = k
                · rw [e]; exact h
                · exact Hold.out j (by omega)
              clear hn5 hcc hyc hn6 hct hel hc7 hkc
              generalize (t.getD k []).getD d 0 = x2 at *
              generalize opensWith lk key (cuts.getD k []) = q2 at *
              by_cases hx1 : x = 1
              · have hb1 : (x == 1) = true := by simpa using hx1
                clear hx1
                by_cases hx2 : x2 = 0
                · have hb2 : (x2 == 0) = true := by simpa using hx2
                  clear hx2
                  have hcall := HCall.out
                  cases q2 with
                  | true =>
                    have HR : Hid (res = false) := HOk.out (by rw [HAk.out, hb1, hb2]; rfl)
                    clear HCall HAk
                    go_wp2_with fail
                    refine Calls.mono hcall ?_
                    rintro e w2 hr
                    obtain ⟨r, rfl, rfl, e2⟩ := ret_ext hr
                    clear hr hcall
                    go_wp2_with fail
                    go_ret
                    exact ⟨.bool false, rfl, congrArg Value.bool HR.out.symm, ew.trans e2⟩
                  | false =>
                    have HG := Lib.hid (Hgo.out (by rw [HAk.out, hb1, hb2]; rfl))
                    clear HCall HAk
                    go_wp2_with fail
                    refine Calls.mono hcall ?_
                    rintro e w2 hr
                    obtain ⟨r, rfl, rfl, e2⟩ := ret_ext hr
                    clear hr hcall
                    go_wp2_with fail
                    go_roundw
                    case rel => exact ⟨k+1, by omega, by go_num, HG.out, ew.trans e2, e2.cell lw⟩
                    case measure => simp [intOf]; omega
                · have hb2 : (x2 == 0) = false := by simpa using hx2
                  have HG := Lib.hid (Hgo.out (by rw [HAk.out, hb1, hb2]; rfl))
                  clear hx2 HCall HAk
                  go_wp2_with fail
                  go_roundw
                  case rel => exact ⟨k+1, by omega, by go_num, HG.out, ew, lw⟩
                  case measure => simp [intOf]; omega
              · have hb1 : (x == 1) = false := by simpa using hx1
                have HG := Lib.hid (Hgo.out (by rw [HAk.out, hb1]; rfl))
                clear hx1 HCall HAk
                go_wp2_with fail
                go_roundw
                case rel => exact ⟨k+1, by omega, by go_num, HG.out, ew, lw⟩
                case measure => simp [intOf]; omega
            · have HG : Hid (∀ j, j < d + 1 → nB j = false ∧ ∀ k, k < cuts.length → oB j k = false) := fun j hj => by
                by_cases e : j = d
                · rw [e]; exact ⟨HNf.out, fun i hi => Hold.out i (by have := Hn2.out; omega)⟩
                · exact Hall.out j (by omega)
              go_wp2_with fail
              go_roundw
              case rel => exact ⟨d+1, by omega, by go_num, HG.out, ew⟩
              case measure => simp [intOf]; omega
      · have hb0 : (x == 0) = false := by simpa using hx0
        clear hx0
        obtain ⟨wY, hwY⟩ : ∃ wY, wY = wX := ⟨_, rfl⟩
        have ewY := ewX
        have lY := lX
        clear hwY
        have HNf : Hid (nB d = false) := by show _ = _; rw [HA.out, hb0, Bool.false_and]
        obtain ⟨b1, b2, b3, b4⟩ := HB.out wX ewX
        go_wp2_with fail
        clear b1 b2 b3 b4 r1
        obtain ⟨wo, rfl⟩ : ∃ wo, wo = wr := ⟨_, rfl⟩
        clear ew eX ewX lX
        go_loopw [9, 10, 30] (fun _ _ s30 wr => ∃ k : Nat, k ≤ n2 ∧ s30 = .int .i64 k ∧ (∀ j, j < k → oB d j = false) ∧ Ext w wr ∧ wr.cell? ⟨wo.heap.size, 0, none⟩ = some (.slice a3 n3 k3)) (fun _ _ s30 _ => n2 - (intOf s30).toNat)
        case atStart => exact ⟨0, Nat.zero_le _, rfl, by simp, ewY, lY⟩
        case round =>
          obtain ⟨k, hk, rfl, hold, ew, lw⟩ := hrel
          have Hold := Lib.hid hold
          clear hold ewY lY
          by_cases hltk : k < n2
          · obtain ⟨bc', oc, rfl, a5, n5, k5, hn5, hm5, -, hcc, ⟨yc, -, hyc⟩, -⟩ := HC.out k hltk
            obtain ⟨bt, ot, rfl, a6, n6, k6, hn6, hm6, -, hct, -, hel⟩ := HT.out k (by omega)
            have hd6 : d < n6 := by rw [hn6, HRow.out k (by rw [← Hn.out]; omega)]; exact Hdl.out
            obtain ⟨b7, o7, rfl, hx7, hc7⟩ := hel d hd6
            have hkc : k < cuts.length := by rw [← Hn2.out]; exact hltk
            have hkn : k < n := by omega
            obtain ⟨b1, b2, b3, b4⟩ := HB.out wr ew
            have r1 := Hcr.out wr ew
            have r2 := hcc wr ew
            have r3 := hct wr ew
            have r4 := hc7 wr ew
            have HAk := Lib.hid (HA2.out k)
            have HOk := Lib.hid (HOd.out k hkc)
            have HCall := Lib.hid (HCw.out k hkc wr _ _ (Hyl.out wr ew) _ _ (hyc wr ew) ew)
            have Hgo : Hid (oB d k = false → ∀ j, j < k + 1 → oB d j = false) := fun h j hj => by
              by_cases e : j = k
              · rw [e]; exact h
              · exact Hold.out j (by omega)
            clear hn5 hcc hyc hn6 hct hel hc7 hkc
            generalize (t.getD k []).getD d 0 = x2 at *
            generalize opensWith lk key (cuts.getD k []) = q2 at *
            by_cases hx1 : x = 1
            · have hb1 : (x == 1) = true := by simpa using hx1
              clear hx1
              by_cases hx2 : x2 = 0
              · have hb2 : (x2 == 0) = true := by simpa using hx2
                clear hx2
                have hcall := HCall.out
                cases q2 with
                | true =>
                  have HR : Hid (res = false) := HOk.out (by rw [HAk.out, hb1, hb2]; rfl)
                  clear HCall HAk
                  go_wp2_with fail
                  refine Calls.mono hcall ?_
                  rintro e w2 hr
                  obtain ⟨r, rfl, rfl, e2⟩ := ret_ext hr
                  clear hr hcall
                  go_wp2_with fail
                  go_ret
                  exact ⟨.bool false, rfl, congrArg Value.bool HR.out.symm, ew.trans e2⟩
                | false =>
                  have HG := Lib.hid (Hgo.out (by rw [HAk.out, hb1, hb2]; rfl))
                  clear HCall HAk
                  go_wp2_with fail
                  refine Calls.mono hcall ?_
                  rintro e w2 hr
                  obtain ⟨r, rfl, rfl, e2⟩ := ret_ext hr
                  clear hr hcall
                  go_wp2_with fail
                  go_roundw
                  case rel => exact ⟨k+1, by omega, by go_num, HG.out, ew.trans e2, e2.cell lw⟩
                  case measure => simp [intOf]; omega
              · have hb2 : (x2 == 0) = false := by simpa using hx2
                have HG := Lib.hid (Hgo.out (by rw [HAk.out, hb1, hb2]; rfl))
                clear hx2 HCall HAk
                go_wp2_with fail
                go_roundw
                case rel => exact ⟨k+1, by omega, by go_num, HG.out, ew, lw⟩
                case measure => simp [intOf]; omega
            · have hb1 : (x == 1) = false := by simpa using hx1
              have HG := Lib.hid (Hgo.out (by rw [HAk.out, hb1]; rfl))
              clear hx1 HCall HAk
              go_wp2_with fail
              go_roundw
              case rel => exact ⟨k+1, by omega, by go_num, HG.out, ew, lw⟩
              case measure => simp [intOf]; omega
          · have HG : Hid (∀ j, j < d + 1 → nB j = false ∧ ∀ k, k < cuts.length → oB j k = false) := fun j hj => by
              by_cases e : j = d
              · rw [e]; exact ⟨HNf.out, fun i hi => Hold.out i (by have := Hn2.out; omega)⟩
              · exact Hall.out j (by omega)
            go_wp2_with fail
            go_roundw
            case rel => exact ⟨d+1, by omega, by go_num, HG.out, ew⟩
            case measure => simp [intOf]; omega
    · have hdd : d = doorsOf t := by have := Hln.out; omega
      have HR : Hid (res = true) := HOK.out (fun j hj => Hall.out j (by omega))
      go_wp2_with fail
      go_ret
      exact ⟨.bool true, rfl, congrArg Value.bool HR.out.symm, ew⟩

open Go.ChangeShapes Go.WideShapes Go.ChangeAt Go.RowKit
set_option linter.unusedVariables false

def StaysV (F : FuncId) (mk : MK) (t cuts : List (List Int)) (x : Value × Value) (N : Nat → Prop) (r : Value) (w' : World) : Prop := ∃ (bl br bc bs : Nat) (vl : Value) (zl : Zone) (vr : Value) (zr : Zone), r = .func (.func F) #[] #[.pointer (some ⟨bl, 0, none⟩), .pointer (some ⟨br, 0, none⟩), .pointer (some ⟨bc, 0, none⟩), .pointer (some ⟨bs, 0, none⟩)] ∧
  LocksR zl w' vl (locks mk t cuts) ∧ IntsR zr w' vr (t.getD cuts.length []) ∧ w'.cell? ⟨bl, 0, none⟩ = some vl ∧ w'.cell? ⟨br, 0, none⟩ = some vr ∧ w'.cell? ⟨bc, 0, none⟩ = some x.2 ∧ SysAt w' bs mk x.1 ∧ (∀ k, zl.Has k → N k) ∧ (∀ k, zr.Has k → N k) ∧ N bl ∧ N br ∧ N bc ∧ N bs
theorem sysAt_of {w : World} {b : Nat} {mk : MK} {u : Value} {X : Prop} (h : w.cell? ⟨b, 0, none⟩ = some (.int .i64 mk.c) ∧ w.cell? ⟨b, 1, none⟩ = some (.int .i64 mk.d) ∧ w.cell? ⟨b, 2, none⟩ = some (.int .i64 mk.s) ∧ w.cell? ⟨b, 3, none⟩ = some (.int .i64 mk.m) ∧ w.cell? ⟨b, 4, none⟩ = some (.int .i64 mk.l) ∧ w.cell? ⟨b, 5, none⟩ = some u ∧ X) : SysAt w b mk u :=
  ⟨h.1, h.2.1, h.2.2.1, h.2.2.2.1, h.2.2.2.2.1, h.2.2.2.2.2.1⟩
theorem zone_new {S w : World} {v : Value} {ls : List (List (List Int))} (h : LocksR (.new S w) w v ls) : ∃ Z, Z = Zone.new S w ∧ LocksR Z w v ls := ⟨_, rfl, h⟩
theorem keep_set {α : Type} {E : Repr α} (hE : Stable E) {z : Zone} {w : World} {v : Value} {x : α} {p : Addr} {u : Value} (h : E z w v x) (hp : ¬ z.Has p.block) : E z (w.setCell p u) v x :=
  hE.within h ((Within.refl ⟨p.block, p.block + 1, true⟩ w).setCell ⟨Nat.le_refl _, Nat.lt_succ_self _⟩ u) (fun k h1 h2 => hp (by
    have e : k = p.block := by have q1 := h2.1; have q2 := h2.2; simp only at q1 q2; omega
    rw [← e]; exact h1))
theorem afterA1 {w W : World} {u : Value} {t : TypeId} (e : Ext (w.alloc (.cells #[u] t)).drew W) : W.cell? ⟨w.heap.size, 0, none⟩ = some u ∧ W.frozen? ⟨w.heap.size, 0, none⟩ = false :=
  ⟨e.cell (by simp), (Below.frozen e (by simp)).trans (by go_simp)⟩
theorem afterA2 {w W : World} {u u' : Value} {t t' : TypeId} (e : Ext ((w.alloc (.cells #[u] t)).alloc (.cells #[u'] t')).drew W) : W.cell? ⟨w.heap.size, 0, none⟩ = some u ∧ W.frozen? ⟨w.heap.size, 0, none⟩ = false ∧ W.cell? ⟨w.heap.size + 1, 0, none⟩ = some u' ∧ W.frozen? ⟨w.heap.size + 1, 0, none⟩ = false :=
  ⟨e.cell (by simp), (Below.frozen e (by simp; omega)).trans (by go_simp), e.cell (by simp), (Below.frozen e (by simp)).trans (by go_simp)⟩
theorem keep_store {w W : World} {p : Addr} {u : Value} (h : Ext w W) (hp : w.heap.size ≤ p.block) : Ext w (W.setCell p u) := Below.setCell h hp u

set_option maxRecDepth 20000 in
set_option maxHeartbeats 1000000 in
theorem staysOpen_c (w : World) (mk : MK) (v : Value) (z : Zone) (t : List (List Int)) (h : RowsR z w v t) (u : Value) (y : Zone) (cuts : List (List Int)) (hc : RowsR y w u cuts) (ok : PartOk mk t cuts) (hlast : cuts.length < t.length) (N : Nat → Prop) (hN1 : ∀ k, w.heap.size ≤ k → N k) (hN2 : ∀ k, z.Has k → N k) :
    Calls Tryz.prog 167 #[sysV mk v, u] w (Ret w (StaysV 182 mk t cuts (v, u) N)) := by
  have HL := Lib.hid (fun (w' : World) (e : Ext w w') => partLocks_c w' mk v z t (stable_rows.ext h e) u y cuts (stable_rows.ext hc e) ok)
  obtain ⟨a, n, cap, rfl, hn, hmax, -⟩ := SliceR.shape h
  obtain ⟨a2, n2, cap2, rfl, hn2, hmax2, -⟩ := SliceR.shape hc
  obtain ⟨b, off, rfl, ra, rn, rc, hrn, hrm, -, hcr, ⟨yr, hys, hyr⟩, -⟩ := rows_at h (k := n2) (by omega)
  have HN1 := Lib.hid hN1
  have HN3 : Hid (∀ k, yr.Has k → N k) := fun k hk => hN2 k (hys.1 k hk)
  clear hN1 hN2 hys
  have hlt : n2 < n := by omega
  have Hn2 := Lib.hid hn2
  have Hyr := Lib.hid hyr
  have Hcr := Lib.hid hcr
  clear hn hn2 hrn hcr hyr h hc ok hlast
  unfold sysV at *
  go_enter Tryz.func167, Tryz.ntmps167
  go_wp2_with fail
  generalize hw1 : World.alloc _ _ = w1
  obtain ⟨e1, HA⟩ : Ext w w1 ∧ Hid (∀ w', Ext w1 w' → w'.cell? ⟨w.heap.size, 0, none⟩ = some (.int .i64 mk.c) ∧ w'.cell? ⟨w.heap.size, 1, none⟩ = some (.int .i64 mk.d) ∧ w'.cell? ⟨w.heap.size, 2, none⟩ = some (.int .i64 mk.s) ∧ w'.cell? ⟨w.heap.size, 3, none⟩ = some (.int .i64 mk.m) ∧ w'.cell? ⟨w.heap.size, 4, none⟩ = some (.int .i64 mk.l) ∧ w'.cell? ⟨w.heap.size, 5, none⟩ = some (.slice (some ⟨b, off, none⟩) n cap) ∧ w'.cell? ⟨w.heap.size + 1, 0, none⟩ = some (.slice a2 n2 cap2) ∧ w'.cell? ⟨b, off + n2, none⟩ = some (.slice ra rn rc)) := by
    have e1 : Ext w w1 := by rw [← hw1]; exact (Ext.alloc _ _).trans (Ext.alloc _ _)
    refine ⟨e1, fun w' e => ⟨e.cell ?_, e.cell ?_, e.cell ?_, e.cell ?_, e.cell ?_, e.cell ?_, e.cell ?_, Hcr.out w' (e1.trans e)⟩⟩
    all_goals (rw [← hw1]; clear e hw1 e1 Hcr Hyr HL; go_simp)
  clear hw1
  obtain ⟨c0, c1, c2, c3, c4, c5, c6, c7⟩ := HA.out w1 (Ext.refl _)
  go_region_held3 (fun w' => w'.cell? ⟨w.heap.size, 0, none⟩ = some (.int .i64 mk.c) ∧ w'.cell? ⟨w.heap.size, 1, none⟩ = some (.int .i64 mk.d) ∧ w'.cell? ⟨w.heap.size, 2, none⟩ = some (.int .i64 mk.s) ∧ w'.cell? ⟨w.heap.size, 3, none⟩ = some (.int .i64 mk.m) ∧ w'.cell? ⟨w.heap.size, 4, none⟩ = some (.int .i64 mk.l) ∧ w'.cell? ⟨w.heap.size, 5, none⟩ = some (.slice (some ⟨b, off, none⟩) n cap) ∧ w'.cell? ⟨w.heap.size + 1, 0, none⟩ = some (.slice a2 n2 cap2) ∧ w'.cell? ⟨b, off + n2, none⟩ = some (.slice ra rn rc)) (exact HA.out _ (by repeat (first | with_reducible exact Ext.refl _ | with_reducible assumption | (with_reducible refine Ext.trans ?_ (Ext.drew _)) | (with_reducible refine Ext.trans ?_ (Ext.alloc _ _)) | (with_reducible refine keep_store ?_ (Nat.le_refl _)) | (with_reducible refine keep_store ?_ (Nat.le_succ _)) | (with_reducible refine keep_store ?_ zX) | (with_reducible refine keep_store ?_ (Nat.le_succ_of_le zX))))) (first | (go_at_call 83; (with_reducible refine (HL.out _ (by repeat (first | exact Ext.refl _ | assumption | (refine Ext.trans ?_ (Ext.alloc _ _)) | (refine Ext.trans ?_ (Ext.drew _)) | (refine Ext.trans ?_ (by assumption))))).mono ?_); rintro e w7 hr7; obtain ⟨r7, rfl, o7, e7⟩ := ret_ext hr7; clear hr7; obtain ⟨a7, n7, k7, rfl, -⟩ := SliceR.shape o7; obtain ⟨Z7, hZ7, o7⟩ := zone_new o7; have eX : Ext w1 w7 := (by repeat (first | exact Ext.refl _ | assumption | (refine Ext.trans ?_ (Ext.alloc _ _)) | (refine Ext.trans ?_ (Ext.drew _)) | (refine Ext.trans ?_ (by assumption)))); have zX := Ext.size eX; (first | (with_reducible have q := afterA2 e7; obtain ⟨q5, f5, q6, f6⟩ := q; have z5 := World.block_lt_of_cell? _ _ q5; have z6 := World.block_lt_of_cell? _ _ q6; simp only at z5 z6) | (with_reducible have q := afterA1 e7; obtain ⟨q5, f5⟩ := q; have z5 := World.block_lt_of_cell? _ _ q5; simp only at z5; have z5' := Nat.ne_of_lt z5; have z5'' := Nat.ne_of_gt z5) | skip); clear c0 c1 c2 c3 c4 c5 c6 c7) | fail)
  all_goals
    have HAo := HA
    clear HA
    go_wp2_with fail
    go_ret
    refine ⟨_, rfl, ⟨_, _, _, _, .slice a7 n7 k7, Z7, .slice ra rn rc, yr, rfl, ?_, ?_, ?_, ?_, ?_, ?_, ?_, HN3.out, ?_, ?_, ?_, ?_⟩, ?_⟩
    · repeat (first | exact o7 | (refine stable_locks.ext ?_ (Ext.alloc _ _)) | (refine keep_set stable_locks ?_ (fun h => by have q := h.1; rw [hZ7] at q; simp [Zone.new] at q <;> omega)))
    · rw [← Hn2.out]; exact Hyr.out _ (e1.trans (by repeat (first | with_reducible exact Ext.refl _ | with_reducible assumption | (with_reducible refine Ext.trans ?_ (Ext.drew _)) | (with_reducible refine Ext.trans ?_ (Ext.alloc _ _)) | (with_reducible refine keep_store ?_ (Nat.le_refl _)) | (with_reducible refine keep_store ?_ (Nat.le_succ _)) | (with_reducible refine keep_store ?_ zX) | (with_reducible refine keep_store ?_ (Nat.le_succ_of_le zX)))))
    · go_simp
    · go_simp
    · exact (HAo.out _ (by repeat (first | with_reducible exact Ext.refl _ | with_reducible assumption | (with_reducible refine Ext.trans ?_ (Ext.drew _)) | (with_reducible refine Ext.trans ?_ (Ext.alloc _ _)) | (with_reducible refine keep_store ?_ (Nat.le_refl _)) | (with_reducible refine keep_store ?_ (Nat.le_succ _)) | (with_reducible refine keep_store ?_ zX) | (with_reducible refine keep_store ?_ (Nat.le_succ_of_le zX))))).2.2.2.2.2.2.1
    · exact sysAt_of (HAo.out _ (by repeat (first | with_reducible exact Ext.refl _ | with_reducible assumption | (with_reducible refine Ext.trans ?_ (Ext.drew _)) | (with_reducible refine Ext.trans ?_ (Ext.alloc _ _)) | (with_reducible refine keep_store ?_ (Nat.le_refl _)) | (with_reducible refine keep_store ?_ (Nat.le_succ _)) | (with_reducible refine keep_store ?_ zX) | (with_reducible refine keep_store ?_ (Nat.le_succ_of_le zX)))))
    · intro k hk
      have q := hk.1
      rw [hZ7] at q
      have q2 := e1.size
      refine HN1.out k ?_
      simp [Zone.new] at q <;> omega
    · refine HN1.out _ ?_
      have q2 := e1.size
      simp <;> omega
    · refine HN1.out _ ?_
      have q2 := e1.size
      simp <;> omega
    · exact HN1.out _ (Nat.le_succ _)
    · exact HN1.out _ (Nat.le_refl _)
    · exact e1.trans (by repeat (first | with_reducible exact Ext.refl _ | with_reducible assumption | (with_reducible refine Ext.trans ?_ (Ext.drew _)) | (with_reducible refine Ext.trans ?_ (Ext.alloc _ _)) | (with_reducible refine keep_store ?_ (Nat.le_refl _)) | (with_reducible refine keep_store ?_ (Nat.le_succ _)) | (with_reducible refine keep_store ?_ zX) | (with_reducible refine keep_store ?_ (Nat.le_succ_of_le zX))))
end Go.Proofs.YthgmojggpjnckaaGreat
