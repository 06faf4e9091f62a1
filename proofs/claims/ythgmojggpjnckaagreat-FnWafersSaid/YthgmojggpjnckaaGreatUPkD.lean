/- Proved: whether cuts open a lock, program and reference; the false openings of a system, program and reference; the false openings of a system, as the program lists them; whether cuts are a design of a system, program and reference. -/
import Derived.Test.YthgmojggpjnckaaGreatChecked
import Derived.Deep.RegionHeld3
import Derived.Deep.DeepCutAuto
import Derived.Test.YthgmojggpjnckaaGreatUPkB
import Derived.Test.YthgmojggpjnckaaGreatUPkC
import Derived.Test.YthgmojggpjnckaaGreatUPkA
namespace Go.Proofs.YthgmojggpjnckaaGreat
open Go.ChangeShapes Go.WideShapes Go.ChangeAt Go.RowKit
set_option linter.unusedVariables false

theorem opensB_no {l : List (List Int)} {xs : List Int} (i : Nat) (hi : i < xs.length) (h : has (l.getD i []) (xs.getD i 0) = false) : opensB l xs = false := by
  unfold opensB; rw [List.all_eq_false]; exact ⟨i, List.mem_range.2 hi, by rw [h]; decide⟩
theorem opensB_yes {l : List (List Int)} {xs : List Int} (h : ∀ i, i < xs.length → has (l.getD i []) (xs.getD i 0) = true) : opensB l xs = true := by
  unfold opensB; rw [List.all_eq_true]; intro i hi; exact h i (List.mem_range.1 hi)
/-- element k of a list, in any later world -/
theorem ints_at {w : World} {a : Option Addr} {n cap : Nat} {z : Zone} {t : List Int} (h : IntsR z w (.slice a n cap) t) {k : Nat} (hk : k < n) :
    ∃ b off, a = some ⟨b, off, none⟩ ∧ I64 (t.getD k 0) ∧ ∀ w', Ext w w' → w'.cell? ⟨b, off + k, none⟩ = some (.int .i64 (t.getD k 0)) := by
  obtain ⟨a', n', c', he, hn, hmax, -, -, -, hel⟩ := IntsR.shape h
  injection he with e1 e2 e3
  subst e1; subst e2; subst e3
  obtain ⟨b, off, rfl, hc, hi, -⟩ := hel k hk
  exact ⟨b, off, rfl, hi, fun w' e => e.cell hc⟩

set_option maxRecDepth 20000 in
set_option maxHeartbeats 1000000 in
theorem opens_c (w : World) (v : Value) (z : Zone) (l : List (List Int)) (h : RowsR z w v l) (u : Value) (y : Zone) (xs : List Int) (hx : IntsR y w u xs) (hl : xs.length ≤ l.length) :
    Calls Tryz.prog 117 #[.agg #[v], u] w (Ret w fun r _ => r = .bool (opensB l xs)) := by
  have H1 : Hid (∀ i, i < xs.length → has (l.getD i []) (xs.getD i 0) = false → opensB l xs = false) := fun i hi h => opensB_no i hi h
  have H2 : Hid ((∀ i, i < xs.length → has (l.getD i []) (xs.getD i 0) = true) → opensB l xs = true) := opensB_yes
  generalize opensB l xs = res at *
  obtain ⟨a, n, cap, rfl, hn, hmax, -⟩ := SliceR.shape h
  obtain ⟨a2, n2, cap2, rfl, hn2, hmax2, -⟩ := SliceR.shape hx
  have HT := Lib.hid (fun (k : Nat) (hk : k < n) => rows_at h hk)
  have HX := Lib.hid (fun (k : Nat) (hk : k < n2) => ints_at hx hk)
  rw [← hn, ← hn2] at hl
  have Hn2 := Lib.hid hn2
  clear hn hn2 h hx
  go_enter Tryz.func117, Tryz.ntmps117
  go_wp2_with fail
  generalize hw0 : World.alloc _ _ = w0
  obtain ⟨e0, c0⟩ : Ext w w0 ∧ w0.cell? ⟨w.heap.size, 0, none⟩ = some (.slice a n cap) := by subst hw0; exact ⟨Ext.alloc _ _, by simp⟩
  clear hw0
  go_loopw [5, 6, 9] (fun _ _ s wr => ∃ k : Nat, k ≤ n2 ∧ s = .int .i64 k ∧ (∀ j, j < k → has (l.getD j []) (xs.getD j 0) = true) ∧ Drew w0 wr) (fun _ _ s _ => n2 - (intOf s).toNat)
  case atStart => exact ⟨0, Nat.zero_le _, rfl, by simp, Drew.refl _⟩
  case round =>
    obtain ⟨k, hk, rfl, hall, hd⟩ := hrel
    have Hall := Lib.hid hall
    clear hall
    have c0' := (hd.cell _).trans c0
    have et := e0.trans (Ext.ofDrew hd)
    by_cases hlt : k < n2
    · obtain ⟨b, off, rfl, hi, hc⟩ := HX.out k hlt
      obtain ⟨b1, o1, rfl, a1, n1, k1, hn1, hm1, -, hc1, ⟨y1, -, hy1⟩, -⟩ := HT.out k (by omega)
      replace hc := hc wr et
      replace hc1 := hc1 wr et
      have hcall := Contains_c wr _ y1 _ (xs.getD k 0) (hy1 wr et) hi
      have hkl : k < n := by omega
      have Hno : Hid (has (l.getD k []) (xs.getD k 0) = false → res = false) := fun h => H1.out k (by rw [← Hn2.out]; exact hlt) h
      have Hgo : Hid (has (l.getD k []) (xs.getD k 0) = true → ∀ j, j < k + 1 → has (l.getD j []) (xs.getD j 0) = true) := fun h j hj => by
        by_cases e : j = k
        · rw [e]; exact h
        · exact Hall.out j (by omega)
      generalize has (l.getD k []) (xs.getD k 0) = q at *
      generalize xs.getD k 0 = x at *
      clear hy1 hn1
      cases q with
      | true =>
        have HH := Lib.hid (Hgo.out rfl)
        go_wp2_with fail
        refine Calls.mono hcall ?_
        rintro e w2 ⟨rfl, hd2⟩
        clear hcall
        go_wp2_with fail
        go_roundw
        case rel => exact ⟨k+1, by omega, by go_num, HH.out, hd.trans hd2⟩
        case measure => simp [intOf]; omega
      | false =>
        have HH := Lib.hid (Hno.out rfl)
        go_wp2_with fail
        refine Calls.mono hcall ?_
        rintro e w2 ⟨rfl, hd2⟩
        clear hcall
        go_wp2_with fail
        go_ret
        exact ⟨.bool false, rfl, congrArg Value.bool HH.out.symm, et.trans (Ext.ofDrew hd2)⟩
    · have HH : Hid (res = true) := H2.out (fun j hj => Hall.out j (by have := Hn2.out; omega))
      go_wp2_with fail
      go_ret
      exact ⟨.bool true, rfl, congrArg Value.bool HH.out.symm, et⟩

set_option maxRecDepth 20000 in
set_option maxHeartbeats 1000000 in
theorem l04Opens_c (w : World) (v : Value) (z : Zone) (l : List (List Int)) (h : RowsR z w v l) (u : Value) (y : Zone) (xs : List Int) (hx : IntsR y w u xs) (hl : xs.length ≤ l.length) :
    Calls Tryz.prog 150 #[.agg #[v], u] w (Ret w fun r _ => r = .bool (opensB l xs)) := by
  have H1 : Hid (∀ i, i < xs.length → has (l.getD i []) (xs.getD i 0) = false → opensB l xs = false) := fun i hi h => opensB_no i hi h
  have H2 : Hid ((∀ i, i < xs.length → has (l.getD i []) (xs.getD i 0) = true) → opensB l xs = true) := opensB_yes
  generalize opensB l xs = res at *
  obtain ⟨a, n, cap, rfl, hn, hmax, -⟩ := SliceR.shape h
  obtain ⟨a2, n2, cap2, rfl, hn2, hmax2, -⟩ := SliceR.shape hx
  have HT := Lib.hid (fun (k : Nat) (hk : k < n) => rows_at h hk)
  have HX := Lib.hid (fun (k : Nat) (hk : k < n2) => ints_at hx hk)
  rw [← hn, ← hn2] at hl
  have Hn2 := Lib.hid hn2
  clear hn hn2 h hx
  go_enter Tryz.func150, Tryz.ntmps150
  go_wp2_with fail
  generalize hw0 : World.alloc _ _ = w0
  obtain ⟨e0, c0⟩ : Ext w w0 ∧ w0.cell? ⟨w.heap.size, 0, none⟩ = some (.slice a n cap) := by subst hw0; exact ⟨Ext.alloc _ _, by simp⟩
  clear hw0
  go_loopw [5] (fun s wr => ∃ k : Nat, k ≤ n2 ∧ s = .int .i64 k ∧ (∀ j, j < k → has (l.getD j []) (xs.getD j 0) = true) ∧ Drew w0 wr) (fun s _ => n2 - (intOf s).toNat)
  case atStart => exact ⟨0, Nat.zero_le _, rfl, by simp, Drew.refl _⟩
  case round =>
    obtain ⟨k, hk, rfl, hall, hd⟩ := hrel
    have Hall := Lib.hid hall
    clear hall
    have c0' := (hd.cell _).trans c0
    have et := e0.trans (Ext.ofDrew hd)
    by_cases hlt : k < n2
    · obtain ⟨b, off, rfl, hi, hc⟩ := HX.out k hlt
      obtain ⟨b1, o1, rfl, a1, n1, k1, hn1, hm1, -, hc1, ⟨y1, -, hy1⟩, -⟩ := HT.out k (by omega)
      replace hc := hc wr et
      replace hc1 := hc1 wr et
      have HC := Lib.hid (fun (m : Nat) => Has_c (wr.drewN m) _ y1 _ (xs.getD k 0) (hy1 _ (et.trans (Ext.drewN wr m))) hi)
      have hkl : k < n := by omega
      have Hno : Hid (has (l.getD k []) (xs.getD k 0) = false → res = false) := fun h => H1.out k (by rw [← Hn2.out]; exact hlt) h
      have Hgo : Hid (has (l.getD k []) (xs.getD k 0) = true → ∀ j, j < k + 1 → has (l.getD j []) (xs.getD j 0) = true) := fun h j hj => by
        by_cases e : j = k
        · rw [e]; exact h
        · exact Hall.out j (by omega)
      generalize has (l.getD k []) (xs.getD k 0) = q at *
      generalize xs.getD k 0 = x at *
      clear hy1 hn1
      cases q with
      | true =>
        have HH := Lib.hid (Hgo.out rfl)
        go_wp2_with fail
        go_quiet ((go_at_call 173; exact RetQ.quiet (HC.out _)))
        go_wp2_with fail
        go_roundw
        case rel => exact ⟨k+1, by omega, by go_num, HH.out, hd.drewN _⟩
        case measure => simp [intOf]; omega
      | false =>
        have HH := Lib.hid (Hno.out rfl)
        go_wp2_with fail
        go_quiet ((go_at_call 173; exact RetQ.quiet (HC.out _)))
        go_wp2_with fail
        go_ret
        exact ⟨.bool false, rfl, congrArg Value.bool HH.out.symm, et.trans (Ext.ofDrew ((Drew.refl _).drewN _))⟩
    · have HH : Hid (res = true) := H2.out (fun j hj => Hall.out j (by have := Hn2.out; omega))
      go_wp2_with fail
      go_ret
      exact ⟨.bool true, rfl, congrArg Value.bool HH.out.symm, et⟩

open Go.ChangeShapes Go.WideShapes Go.ChangeAt Go.RowKit
set_option linter.unusedVariables false

/-- lock k of a list of locks, in any later world -/
theorem locks_at {w : World} {a : Option Addr} {n cap : Nat} {z : Zone} {ls : List (List (List Int))} (h : LocksR z w (.slice a n cap) ls) {k : Nat} (hk : k < n) :
    ∃ b off, a = some ⟨b, off, none⟩ ∧ ∃ a1 n1 c1, n1 = (ls.getD k []).length ∧ (∀ w', Ext w w' → w'.cell? ⟨b, off + k, none⟩ = some (.slice a1 n1 c1)) ∧ ∃ y : Zone, y.Sub ⟨z.lo, z.hi, false⟩ ∧ ∀ w', Ext w w' → RowsR y w' (.slice a1 n1 c1) (ls.getD k []) := by
  obtain ⟨a', n', c', he, hn, -, hel⟩ := SliceR.elem stable_rows h
  injection he with e1 e2 e3
  subst e1; subst e2; subst e3
  obtain ⟨b, off, rfl, hb, u, hc, hu⟩ := hel k (by omega)
  have e0 : ls[k]'(by omega) = ls.getD k [] := by simp [show k < ls.length by omega]
  rw [e0] at hu
  obtain ⟨a1, n1, c1, rfl, hn1, -⟩ := SliceR.shape hu
  exact ⟨b, off, rfl, a1, n1, c1, hn1, fun w' e => e.cell hc, _, Zone.Sub.refl _, fun w' e => stable_rows.ext hu e⟩
theorem locks_len (mk : MK) (t cuts : List (List Int)) : (locks mk t cuts).length = doorsOf t := locksTo_len mk t cuts _
theorem lock_len {mk : MK} {t cuts : List (List Int)} {d : Nat} (h : d < doorsOf t) : ((locks mk t cuts).getD d []).length = mk.c.toNat := by
  unfold locks locksTo
  simp [h, hull, hullTo_len]
/-- a list with so many elements -/
def LenP (n : Nat) (r : Value) (_ : World) : Prop := ∃ a m cap, r = .slice a m cap ∧ m = n ∧ m ≤ 1000000

set_option maxRecDepth 20000 in
set_option maxHeartbeats 2000000 in
theorem l15False_c (w : World) (mk : MK) (v : Value) (z : Zone) (t : List (List Int)) (h : RowsR z w v t) (u : Value) (y : Zone) (cuts : List (List Int)) (hc : RowsR y w u cuts) (hok : PartOk mk t cuts) :
    Calls Tryz.prog 115 #[sysV mk v, u] w (Ret w (LenP (faults mk t cuts))) := by
  have HL := Lib.hid (fun (w' : World) (e : Ext w w') => l15Locks_c w' mk v z t (stable_rows.ext h e) u y cuts (stable_rows.ext hc e) hok)
  have HO := Lib.hid (fun (w' : World) (v : Value) (z : Zone) (l : List (List Int)) (h : RowsR z w' v l) (u : Value) (y : Zone) (xs : List Int) (hx : IntsR y w' u xs) (hl : xs.length ≤ l.length) => l04Opens_c w' v z l h u y xs hx hl)
  have HF : Hid (∀ k d, faultAt mk t cuts k d = ((t.getD k []).getD d 0 == 0 && opensB ((locks mk t cuts).getD d []) (cuts.getD k []))) := fun _ _ => rfl
  have HFR := Lib.hid (fun k n => faultRow_succ mk t cuts k n)
  have HFR0 : Hid (∀ k, faultRow mk t cuts k 0 = 0) := fun _ => rfl
  have HFT : Hid (∀ k, faultsTo mk t cuts (k+1) = faultsTo mk t cuts k + faultRow mk t cuts k (doorsOf t)) := fun _ => rfl
  have HFT0 : Hid (faultsTo mk t cuts 0 = 0) := rfl
  have HFF : Hid (faults mk t cuts = faultsTo mk t cuts cuts.length) := rfl
  have HLL := Lib.hid (locks_len mk t cuts)
  have HLC : Hid (∀ d, d < doorsOf t → ((locks mk t cuts).getD d []).length = mk.c.toNat) := fun d hd => lock_len hd
  have HB1 := Lib.hid (fun k n => faultRow_le mk t cuts k n)
  have HB2 := Lib.hid (fun n => faultsTo_le mk t cuts n)
  have hkl : ∀ k, k < cuts.length → (cuts.getD k []).length = mk.c.toNat := fun k hk => by
    have := (hok.key _ (List.getElem_mem hk)).len
    have e : cuts.getD k [] = cuts[k] := by simp [hk]
    rw [e]; omega
  have HKL := Lib.hid hkl
  have HRow := Lib.hid hok.row
  generalize faults mk t cuts = res at *
  generalize faultAt mk t cuts = fA at *
  generalize faultRow mk t cuts = fR at *
  generalize faultsTo mk t cuts = fT at *
  generalize locks mk t cuts = ls at *
  have hle := hok.le
  have hl10 := hok.len.2
  have hdo := hok.doors
  obtain ⟨a, n, cap, rfl, hn, hmax, -⟩ := SliceR.shape h
  obtain ⟨a2, n2, cap2, rfl, hn2, hmax2, -⟩ := SliceR.shape hc
  have HT := Lib.hid (fun (k : Nat) (hk : k < n) => rows_at h hk)
  have HC := Lib.hid (fun (k : Nat) (hk : k < n2) => rows_at hc hk)
  rw [← hn, ← hn2] at hle
  rw [← hn] at hl10
  have Hn := Lib.hid hn
  have Hn2 := Lib.hid hn2
  obtain ⟨dn, hdn⟩ : ∃ dn, dn = doorsOf t := ⟨_, rfl⟩
  rw [← hdn] at hdo
  have Hdn := Lib.hid hdn
  clear hn hn2 h hc hok hkl hdn
  unfold sysV at *
  go_enter Tryz.func115, Tryz.ntmps115
  go_wp2_with fail
  generalize hw0 : World.alloc _ _ = w0
  obtain ⟨e0, S0⟩ := sys_box hw0
  clear hw0
  have HS := Lib.hid S0
  clear S0
  refine Calls.mono (HL.out w0 e0) ?_
  rintro e w1 hr
  obtain ⟨r, rfl, hL, e1⟩ := ret_ext hr
  clear hr HL
  obtain ⟨la, ln, lc, rfl, hln, -⟩ := SliceR.shape hL
  have HLA := Lib.hid (fun (k : Nat) (hk : k < ln) => locks_at hL hk)
  have hlnd : ln = dn := by rw [hln, HLL.out, Hdn.out]
  subst hlnd
  clear hL hln
  go_wp2_with fail
  generalize hw2 : World.alloc _ _ = w2
  obtain ⟨e2, o2⟩ : Ext w1 w2 ∧ OwnP slV 41 w1.heap.size w2 (.slice (some ⟨w1.heap.size, 0, none⟩) 0 0) [] := by
    subst hw2
    exact ⟨Ext.alloc _ _, OwnP.empty (Nat.le_refl _)⟩
  have et1 := e0.trans e1
  have HI : Hid (w1.heap.size < w2.heap.size) := (o2.block _ rfl).2
  clear hw2
  go_loopw [6, 7, 8] (fun s6 s7 _ wr => ∃ (k : Nat) (us : List (Option Addr × Nat × Nat)), k ≤ n2 ∧ s7 = .int .i64 k ∧ us.length = fT k ∧ OwnP slV 41 w1.heap.size wr s6 us ∧ Below w1.heap.size w1 wr ∧ w1.heap.size ≤ wr.heap.size) (fun _ s7 _ _ => n2 - (intOf s7).toNat)
  case atStart => exact ⟨0, [], Nat.zero_le _, rfl, HFT0.out.symm, o2, e2, Nat.le_of_lt HI.out⟩
  case round =>
    obtain ⟨k, us, hk, rfl, hus, own, hb, hsz⟩ := hrel
    have Hus := Lib.hid hus
    clear hus
    by_cases hlt : k < n2
    · have HFTk := Lib.hid (HFT.out k)
      have hB2 := HB2.out k
      have hB2' : fT k ≤ 120 := by
        have h1 : k * doorsOf t ≤ 10 * 12 := Nat.mul_le_mul (by omega) (by have := Hdn.out; omega)
        omega
      go_wp2_with fail
      obtain ⟨wo, rfl⟩ : ∃ wo, wo = wr := ⟨_, rfl⟩
      go_loopw [6, 8] (fun s6 s8 wr => ∃ (d : Nat) (us : List (Option Addr × Nat × Nat)), d ≤ ln ∧ s8 = .int .i64 d ∧ us.length = fT k + fR k d ∧ OwnP slV 41 w1.heap.size wr s6 us ∧ Below w1.heap.size w1 wr ∧ w1.heap.size ≤ wr.heap.size) (fun _ s8 _ => ln - (intOf s8).toNat)
      case atStart => exact ⟨0, us, Nat.zero_le _, rfl, by rw [HFR0.out, Nat.add_zero]; exact Hus.out, own, hb, hsz⟩
      case round =>
        clear own hb hsz Hus
        obtain ⟨d, us, hd, rfl, hus, own, hb, hsz⟩ := hrel
        have Hus := Lib.hid hus
        have hB1 := HB1.out k d
        have hul : us.length ≤ 1000 := by omega
        clear hus
        have ew : Ext w1 wr := hb
        have et := et1.trans ew
        obtain ⟨c0, c1, c2, c3, c4, c5⟩ := HS.out.all (e1.trans ew)
        by_cases hltd : d < ln
        · obtain ⟨b, off, rfl, a1, n1, k1, hn1, hm1, -, hcr, -, hel⟩ := HT.out k (by omega)
          have hdn1 : d < n1 := by rw [hn1, HRow.out k (by rw [← Hn.out]; omega), ← Hdn.out]; exact hltd
          obtain ⟨b1, o1, rfl, hx, hc1⟩ := hel d hdn1
          obtain ⟨bl, ol, rfl, a3, n3, k3, hn3, hcl, yl, -, hyl⟩ := HLA.out d hltd
          obtain ⟨bc, oc, rfl, a4, n4, k4, hn4, hm4, -, hcc, ⟨yc, -, hyc⟩, -⟩ := HC.out k hlt
          have hkn : k < n := by omega
          have hcall : ∀ w', Ext wr w' → Calls Tryz.prog 150 #[.agg #[.slice a3 n3 k3], .slice a4 n4 k4] w' (Ret w' fun r _ => r = .bool (opensB (ls.getD d []) (cuts.getD k []))) := fun w' e => HO.out w' _ _ _ (hyl w' (ew.trans e)) _ _ _ (hyc w' (et.trans e)) (by rw [HKL.out k (by rw [← Hn2.out]; exact hlt), HLC.out d (by rw [← Hdn.out]; exact hltd)]; exact Nat.le_refl _)
          have HCa := Lib.hid hcall
          have HK : Hid (∀ w', Ext wr w' → w'.cell? ⟨w.heap.size, 5, none⟩ = some (.slice (some ⟨b, off, none⟩) n cap) ∧ w'.cell? ⟨b, off + k, none⟩ = some (.slice (some ⟨b1, o1, none⟩) n1 k1) ∧ w'.cell? ⟨b1, o1 + d, none⟩ = some (.int .i64 ((t.getD k []).getD d 0)) ∧ w'.cell? ⟨bl, ol + d, none⟩ = some (.slice a3 n3 k3) ∧ w'.cell? ⟨bc, oc + k, none⟩ = some (.slice a4 n4 k4)) := fun w' e => ⟨e.cell c5, hcr w' (et.trans e), hc1 w' (et.trans e), hcl w' (ew.trans e), hcc w' (et.trans e)⟩
          obtain ⟨-, g1, g2, g3, g4⟩ := HK.out wr (Ext.refl _)
          have HA := Lib.hid (HF.out k d)
          have HRs := Lib.hid (HFR.out k d)
          clear hel hn1 hyl hyc hcall hcr hc1 hcl hcc hn3 hn4 c0 c1 c2 c3 c4
          generalize (t.getD k []).getD d 0 = x at *
          generalize opensB (ls.getD d []) (cuts.getD k []) = q at *
          by_cases hx0 : x = 0
          · have hxb : (x == 0) = true := by simpa using hx0
            have HAq : Hid (fA k d = q) := by show _ = _; rw [HA.out, hxb, Bool.true_and]
            clear HA hx0
            cases q with
            | true =>
              have HN : Hid (fT k + fR k (d+1) = us.length + 1) := by show _ = _; rw [HRs.out, HAq.out, if_pos rfl, Hus.out]; omega
              clear HRs HAq
              go_wp2_with fail
              go_region_held3 (fun w' => w'.cell? ⟨w.heap.size, 5, none⟩ = some (.slice (some ⟨b, off, none⟩) n cap) ∧ w'.cell? ⟨b, off + k, none⟩ = some (.slice (some ⟨b1, o1, none⟩) n1 k1) ∧ w'.cell? ⟨b1, o1 + d, none⟩ = some (.int .i64 x) ∧ w'.cell? ⟨bl, ol + d, none⟩ = some (.slice a3 n3 k3) ∧ w'.cell? ⟨bc, oc + k, none⟩ = some (.slice a4 n4 k4)) (exact HK.out _ (by repeat (first | exact Ext.refl _ | assumption | (refine Ext.trans ?_ (Ext.alloc _ _)) | (refine Ext.trans ?_ (Ext.drew _)) | (refine Ext.trans ?_ (by assumption))))) (first | (go_at_call 150; (with_reducible refine (HCa.out _ (by repeat (first | exact Ext.refl _ | assumption | (refine Ext.trans ?_ (Ext.alloc _ _)) | (refine Ext.trans ?_ (Ext.drew _)) | (refine Ext.trans ?_ (by assumption))))).mono ?_); rintro e w7 hr7; obtain ⟨r7, rfl, rfl, e7⟩ := ret_ext hr7; clear hr7; have eX := Ext.trans (Ext.drew wr) e7))
              have o7 := own.ext eX
              have b7 : Below w1.heap.size w1 w7 := hb.trans (Below.mono eX hsz)
              have z7 := eX.size
              have z7' : w1.heap.size ≤ w7.heap.size := by omega
              clear own hb
              go_wp2_with (at_builtin; (refine wpList_append1 (f := slV) (e := 41) (B := w1.heap.size) (xs := us) rfl _ _ 30 rfl (none, 0, 0) 24 Tryz.underlying30 Tryz.infoInts rfl (fun _ => rfl) rfl (o7.alloc _) (some ⟨w7.heap.size, 0, none⟩, 2, 2) (by simp [Act.eval, go_sem]) (by omega) (by omega) (by simp; omega) ?_); intro v8 w8 hown8 hg8 hb8)
              have b9 := b7.trans (((Below.refl _ w7).alloc z7' _).trans hb8)
              have z9 := b9.size
              go_roundw
              case rel => exact ⟨d+1, _, by omega, by go_num, by rw [HN.out, List.length_append]; rfl, hown8, b9, z9⟩
              case measure => simp [intOf]; omega
            | false =>
              have HN : Hid (fT k + fR k (d+1) = us.length) := by show _ = _; rw [HRs.out, HAq.out, if_neg (by decide), Hus.out]; omega
              clear HRs HAq
              go_wp2_with fail
              go_region_held3 (fun w' => w'.cell? ⟨w.heap.size, 5, none⟩ = some (.slice (some ⟨b, off, none⟩) n cap) ∧ w'.cell? ⟨b, off + k, none⟩ = some (.slice (some ⟨b1, o1, none⟩) n1 k1) ∧ w'.cell? ⟨b1, o1 + d, none⟩ = some (.int .i64 x) ∧ w'.cell? ⟨bl, ol + d, none⟩ = some (.slice a3 n3 k3) ∧ w'.cell? ⟨bc, oc + k, none⟩ = some (.slice a4 n4 k4)) (exact HK.out _ (by repeat (first | exact Ext.refl _ | assumption | (refine Ext.trans ?_ (Ext.alloc _ _)) | (refine Ext.trans ?_ (Ext.drew _)) | (refine Ext.trans ?_ (by assumption))))) (first | (go_at_call 150; (with_reducible refine (HCa.out _ (by repeat (first | exact Ext.refl _ | assumption | (refine Ext.trans ?_ (Ext.alloc _ _)) | (refine Ext.trans ?_ (Ext.drew _)) | (refine Ext.trans ?_ (by assumption))))).mono ?_); rintro e w7 hr7; obtain ⟨r7, rfl, rfl, e7⟩ := ret_ext hr7; clear hr7; have eX := Ext.trans (Ext.drew wr) e7))
              have o7 := own.ext eX
              have b7 : Below w1.heap.size w1 w7 := hb.trans (Below.mono eX hsz)
              have z7 := b7.size
              clear own hb
              go_wp2_with fail
              go_roundw
              case rel => exact ⟨d+1, us, by omega, by go_num, HN.out.symm, o7, b7, z7⟩
              case measure => simp [intOf]; omega
          · have hxb : (x == 0) = false := by simpa using hx0
            have HN : Hid (fT k + fR k (d+1) = us.length) := by show _ = _; rw [HRs.out, HA.out, hxb, Bool.false_and, if_neg (by decide), Hus.out]; omega
            clear HA hx0 HRs
            go_wp2_with fail
            go_quiet (fail)
            have o7 := own.drewN nq
            have b7 := hb.drewN nq
            go_wp2_with fail
            go_roundw
            case rel => exact ⟨d+1, us, by omega, by go_num, HN.out.symm, o7, b7, hsz⟩
            case measure => simp [intOf]; omega
        · have hdd : d = doorsOf t := by have := Hdn.out; omega
          have HN : Hid (us.length = fT (k+1)) := by show _ = _; rw [Hus.out, HFTk.out, hdd]
          go_wp2_with fail
          go_roundw
          case rel => exact ⟨k+1, us, by omega, by go_num, HN.out, own, hb, hsz⟩
          case measure => simp [intOf]; omega
    · have hkn : k = cuts.length := by have := Hn2.out; omega
      have hB2 := HB2.out k
      have hB2' : fT k ≤ 120 := by
        have h1 : k * doorsOf t ≤ 10 * 12 := Nat.mul_le_mul (by omega) (by have := Hdn.out; omega)
        omega
      have HN : Hid (us.length = res) := by show _ = _; rw [HFF.out, ← hkn]; exact Hus.out
      obtain ⟨oa, on, oc, rfl, hon, -⟩ := own.shape
      go_wp2_with fail
      go_ret
      exact ⟨_, rfl, ⟨_, _, _, rfl, by rw [hon]; exact HN.out, by have := Hus.out; omega⟩, et1.trans (Below.mono hb (Nat.le_refl _))⟩

open Go.ChangeShapes Go.WideShapes Go.ChangeAt Go.RowKit
set_option linter.unusedVariables false

set_option maxRecDepth 20000 in
set_option maxHeartbeats 2000000 in
theorem partFaults_c (w : World) (mk : MK) (v : Value) (z : Zone) (t : List (List Int)) (h : RowsR z w v t) (u : Value) (y : Zone) (cuts : List (List Int)) (hc : RowsR y w u cuts) (hok : PartOk mk t cuts) :
    Calls Tryz.prog 82 #[sysV mk v, u] w (Ret w (LenP (faults mk t cuts))) := by
  have HL := Lib.hid (fun (w' : World) (e : Ext w w') => partLocks_c w' mk v z t (stable_rows.ext h e) u y cuts (stable_rows.ext hc e) hok)
  have HO := Lib.hid (fun (w' : World) (v : Value) (z : Zone) (l : List (List Int)) (h : RowsR z w' v l) (u : Value) (y : Zone) (xs : List Int) (hx : IntsR y w' u xs) (hl : xs.length ≤ l.length) => opens_c w' v z l h u y xs hx hl)
  have HF : Hid (∀ k d, faultAt mk t cuts k d = ((t.getD k []).getD d 0 == 0 && opensB ((locks mk t cuts).getD d []) (cuts.getD k []))) := fun _ _ => rfl
  have HFR := Lib.hid (fun k n => faultRow_succ mk t cuts k n)
  have HFR0 : Hid (∀ k, faultRow mk t cuts k 0 = 0) := fun _ => rfl
  have HFT : Hid (∀ k, faultsTo mk t cuts (k+1) = faultsTo mk t cuts k + faultRow mk t cuts k (doorsOf t)) := fun _ => rfl
  have HFT0 : Hid (faultsTo mk t cuts 0 = 0) := rfl
  have HFF : Hid (faults mk t cuts = faultsTo mk t cuts cuts.length) := rfl
  have HLL := Lib.hid (locks_len mk t cuts)
  have HLC : Hid (∀ d, d < doorsOf t → ((locks mk t cuts).getD d []).length = mk.c.toNat) := fun d hd => lock_len hd
  have HB1 := Lib.hid (fun k n => faultRow_le mk t cuts k n)
  have HB2 := Lib.hid (fun n => faultsTo_le mk t cuts n)
  have hkl : ∀ k, k < cuts.length → (cuts.getD k []).length = mk.c.toNat := fun k hk => by
    have := (hok.key _ (List.getElem_mem hk)).len
    have e : cuts.getD k [] = cuts[k] := by simp [hk]
    rw [e]; omega
  have HKL := Lib.hid hkl
  have HRow := Lib.hid hok.row
  generalize faults mk t cuts = res at *
  generalize faultAt mk t cuts = fA at *
  generalize faultRow mk t cuts = fR at *
  generalize faultsTo mk t cuts = fT at *
  generalize locks mk t cuts = ls at *
  have hle := hok.le
  have hl10 := hok.len.2
  have hdo := hok.doors
  obtain ⟨a, n, cap, rfl, hn, hmax, -⟩ := SliceR.shape h
  obtain ⟨a2, n2, cap2, rfl, hn2, hmax2, -⟩ := SliceR.shape hc
  have HT := Lib.hid (fun (k : Nat) (hk : k < n) => rows_at h hk)
  have HC := Lib.hid (fun (k : Nat) (hk : k < n2) => rows_at hc hk)
  rw [← hn, ← hn2] at hle
  rw [← hn] at hl10
  have Hn := Lib.hid hn
  have Hn2 := Lib.hid hn2
  obtain ⟨dn, hdn⟩ : ∃ dn, dn = doorsOf t := ⟨_, rfl⟩
  rw [← hdn] at hdo
  have Hdn := Lib.hid hdn
  clear hn hn2 h hc hok hkl hdn
  unfold sysV at *
  go_enter Tryz.func82, Tryz.ntmps82
  go_wp2_with fail
  generalize hw0 : World.alloc _ _ = w0
  obtain ⟨e0, S0, o0⟩ : Ext w w0 ∧ SysAt w0 w.heap.size mk (.slice a n cap) ∧ OwnP slV 41 (w.heap.size + 1) w0 (.slice (some ⟨w.heap.size + 1, 0, none⟩) 0 0) [] := by
    subst hw0
    obtain ⟨f1, f2⟩ := sys_box (w := w) (mk := mk) (u := .slice a n cap) (t := 32) rfl
    refine ⟨f1.trans (Ext.alloc _ _), f2.ext (Ext.alloc _ _), ?_⟩
    have := OwnP.empty (f := slV) (e := 41) (B := w.heap.size + 1) (w := w.alloc (.cells #[.int .i64 mk.c, .int .i64 mk.d, .int .i64 mk.s, .int .i64 mk.m, .int .i64 mk.l, .slice a n cap] 32)) (by simp)
    simpa using this
  clear hw0
  have HS := Lib.hid S0
  have HI0 : Hid (w.heap.size + 1 < w0.heap.size) := (o0.block _ rfl).2
  clear S0
  refine Calls.mono (HL.out w0 e0) ?_
  rintro e w1 hr
  obtain ⟨r, rfl, hL, e1⟩ := ret_ext hr
  clear hr HL
  have o1 := o0.ext e1
  clear o0
  obtain ⟨la, ln, lc, rfl, hln, -⟩ := SliceR.shape hL
  have hlnd : ln = dn := by rw [hln, HLL.out, Hdn.out]
  subst hlnd
  have HLk := Lib.hid hL
  clear hL hln
  have et1 := e0.trans e1
  have hs01 := e1.size
  have hoff : Off (.slice (some ⟨w.heap.size + 1, 0, none⟩) 0 0) w0.heap.size w1.heap.size := by
    refine Off.of (fun k hk => ?_)
    have h1 : k = w.heap.size + 1 := (Option.some.inj hk).symm
    have := HI0.out
    omega
  go_wp2_with fail
  go_loopw [5, 7, 8, 9, 10, 17] (fun s5 _ _ _ _ s17 wr => ∃ (k : Nat) (us : List (Option Addr × Nat × Nat)), k ≤ n2 ∧ s17 = .int .i64 k ∧ us.length = fT k ∧ OwnP slV 41 (w.heap.size + 1) wr s5 us ∧ Below (w.heap.size + 1) w0 wr ∧ Same (.new w0 w1) w1 wr ∧ Off s5 w0.heap.size w1.heap.size ∧ w1.heap.size ≤ wr.heap.size) (fun _ _ _ _ _ s17 _ => n2 - (intOf s17).toNat)
  case atStart => exact ⟨0, [], Nat.zero_le _, rfl, HFT0.out.symm, o1, Below.mono e1 (by have := HI0.out; omega), Same.refl _ _, hoff, Nat.le_refl _⟩
  case round =>
    obtain ⟨k, us, hk, rfl, hus, own, hb, hsm, hof, hsz⟩ := hrel
    have Hus := Lib.hid hus
    clear hus
    have hI0 := HI0.out
    have et : Ext w wr := Below.trans e0 (hb.mono (by omega))
    by_cases hlt : k < n2
    · have HFTk := Lib.hid (HFT.out k)
      have hB2 := HB2.out k
      have hB2' : fT k ≤ 120 := by
        have h1 : k * doorsOf t ≤ 10 * 12 := Nat.mul_le_mul (by omega) (by have := Hdn.out; omega)
        omega
      obtain ⟨bc, oc, rfl, a4, n4, k4, hn4, hm4, -, hcc, ⟨yc, -, hyc⟩, -⟩ := HC.out k hlt
      have hccr := hcc wr et
      have Hcc := Lib.hid hcc
      have Hyc := Lib.hid hyc
      clear hcc hyc hn4
      go_wp2_with fail
      obtain ⟨wo, rfl⟩ : ∃ wo, wo = wr := ⟨_, rfl⟩
      clear hccr
      go_loopw [5, 9, 10, 24] (fun s5 _ _ s24 wr => ∃ (d : Nat) (us : List (Option Addr × Nat × Nat)), d ≤ ln ∧ s24 = .int .i64 d ∧ us.length = fT k + fR k d ∧ OwnP slV 41 (w.heap.size + 1) wr s5 us ∧ Below (w.heap.size + 1) w0 wr ∧ Same (.new w0 w1) w1 wr ∧ Off s5 w0.heap.size w1.heap.size ∧ w1.heap.size ≤ wr.heap.size) (fun _ _ _ s24 _ => ln - (intOf s24).toNat)
      case atStart => exact ⟨0, us, Nat.zero_le _, rfl, by rw [HFR0.out, Nat.add_zero]; exact Hus.out, own, hb, hsm, hof, hsz⟩
      case round =>
        clear own hb hsm hof hsz Hus et
        obtain ⟨d, us, hd, rfl, hus, own, hb, hsm, hof, hsz⟩ := hrel
        have Hus := Lib.hid hus
        have hB1 := HB1.out k d
        have hul : us.length ≤ 1000 := by omega
        clear hus
        have et : Ext w wr := Below.trans e0 (hb.mono (by omega))
        by_cases hltd : d < ln
        · obtain ⟨b, off, rfl, a1, n1, k1, hn1, hm1, -, hcr, -, hel⟩ := HT.out k (by omega)
          have hdn1 : d < n1 := by rw [hn1, HRow.out k (by rw [← Hn.out]; omega), ← Hdn.out]; exact hltd
          obtain ⟨b1, o1', rfl, hx, hc1⟩ := hel d hdn1
          obtain ⟨bl, ol, rfl, a3, n3, k3, hn3, hcl, yl, -, hyl⟩ := locks_at (stable_locks.keep HLk.out hsm) hltd
          have hkn : k < n := by omega
          have hc5 : wr.cell? ⟨w.heap.size, 5, none⟩ = some (.slice (some ⟨b, off, none⟩) n cap) := (hb.cell (p := ⟨w.heap.size, 5, none⟩) (by simp)).trans HS.out.c5
          have hcall : ∀ w', Ext wr w' → Calls Tryz.prog 117 #[.agg #[.slice a3 n3 k3], .slice a4 n4 k4] w' (Ret w' fun r _ => r = .bool (opensB (ls.getD d []) (cuts.getD k []))) := fun w' e => HO.out w' _ _ _ (hyl w' e) _ _ _ (Hyc.out w' (et.trans e)) (by rw [HKL.out k (by rw [← Hn2.out]; exact hlt), HLC.out d (by rw [← Hdn.out]; exact hltd)]; exact Nat.le_refl _)
          have HCa := Lib.hid hcall
          have HK : Hid (∀ w', Ext wr w' → w'.cell? ⟨w.heap.size, 5, none⟩ = some (.slice (some ⟨b, off, none⟩) n cap) ∧ w'.cell? ⟨b, off + k, none⟩ = some (.slice (some ⟨b1, o1', none⟩) n1 k1) ∧ w'.cell? ⟨b1, o1' + d, none⟩ = some (.int .i64 ((t.getD k []).getD d 0))) := fun w' e => ⟨e.cell hc5, hcr w' (et.trans e), hc1 w' (et.trans e)⟩
          have g3 := hcl wr (Ext.refl _)
          have HA := Lib.hid (HF.out k d)
          have HRs := Lib.hid (HFR.out k d)
          clear hel hn1 hyl hcall hcr hc1 hcl hn3 hc5
          generalize (t.getD k []).getD d 0 = x at *
          generalize opensB (ls.getD d []) (cuts.getD k []) = q at *
          go_upto_region 8 with fail
          generalize hwX : World.alloc _ _ = wX
          obtain ⟨eX, lX⟩ : Ext wr wX ∧ wX.cell? ⟨wr.heap.size, 0, none⟩ = some (.slice a3 n3 k3) := by
            subst hwX
            exact ⟨Ext.alloc _ _, by simp⟩
          clear hwX
          obtain ⟨g0, g1, g2⟩ := HK.out wX eX
          have oX := own.ext eX
          have bX : Below (w.heap.size + 1) w0 wX := hb.trans (Below.mono eX (by omega))
          have mX : Same (.new w0 w1) w1 wX := hsm.below hsz eX
          have zX := eX.size
          clear own hb hsm g3
          by_cases hx0 : x = 0
          · have hxb : (x == 0) = true := by simpa using hx0
            have HAq : Hid (fA k d = q) := by show _ = _; rw [HA.out, hxb, Bool.true_and]
            clear HA hx0
            have hcall := HCa.out wX eX
            cases q with
            | true =>
              have HN : Hid (fT k + fR k (d+1) = us.length + 1) := by show _ = _; rw [HRs.out, HAq.out, if_pos rfl, Hus.out]; omega
              clear HRs HAq
              go_wp2_with fail
              refine Calls.mono hcall ?_
              rintro e w7 hr
              obtain ⟨r, rfl, rfl, e7⟩ := ret_ext hr
              clear hr hcall
              have o7 := oX.ext e7
              have b7 : Below (w.heap.size + 1) w0 w7 := bX.trans (Below.mono e7 (by omega))
              have m7 : Same (.new w0 w1) w1 w7 := mX.below (by omega) e7
              have z7 := e7.size
              clear oX bX mX
              go_wp2_with (at_builtin; (refine wpList_append1X (f := slV) (e := 41) (B := w.heap.size + 1) (xs := us) rfl _ _ 30 rfl (none, 0, 0) 24 Tryz.underlying30 Tryz.infoInts rfl (fun _ => rfl) rfl (o7.alloc _) (some ⟨w7.heap.size, 0, none⟩, 2, 2) (by simp [Act.eval, go_sem]) (by omega) (by omega) (by simp; omega) ?_); intro v8 w8 hown8 hg8 hb8 hat8)
              have b9 : Below (w.heap.size + 1) w0 w8 := b7.trans (((Below.refl _ w7).alloc (by omega) _).trans hb8)
              have hzA : w1.heap.size ≤ (w7.alloc (.cells #[.int .i64 k, .int .i64 d] 2)).heap.size := by simp; omega
              have m9 : Same (.new w0 w1) w1 w8 := Same.grown (Same.below m7 (by omega) (Ext.alloc w7 _)) hzA hg8 (fun j hj => Off.not hof j hj)
              have f9 : Off v8 w0.heap.size w1.heap.size := Off.next hof hzA hat8
              have z9 : w1.heap.size ≤ w8.heap.size := by have := hb8.size; omega
              go_roundw
              case rel => exact ⟨d+1, _, by omega, by go_num, by rw [HN.out, List.length_append]; rfl, hown8, b9, m9, f9, z9⟩
              case measure => simp [intOf]; omega
            | false =>
              have HN : Hid (fT k + fR k (d+1) = us.length) := by show _ = _; rw [HRs.out, HAq.out, if_neg (by decide), Hus.out]; omega
              clear HRs HAq
              go_wp2_with fail
              refine Calls.mono hcall ?_
              rintro e w7 hr
              obtain ⟨r, rfl, rfl, e7⟩ := ret_ext hr
              clear hr hcall
              have o7 := oX.ext e7
              have b7 : Below (w.heap.size + 1) w0 w7 := bX.trans (Below.mono e7 (by omega))
              have m7 : Same (.new w0 w1) w1 w7 := mX.below (by omega) e7
              have z7 := e7.size
              clear oX bX mX
              go_wp2_with fail
              go_roundw
              case rel => exact ⟨d+1, us, by omega, by go_num, HN.out.symm, o7, b7, m7, hof, by omega⟩
              case measure => simp [intOf]; omega
          · have hxb : (x == 0) = false := by simpa using hx0
            have HN : Hid (fT k + fR k (d+1) = us.length) := by show _ = _; rw [HRs.out, HA.out, hxb, Bool.false_and, if_neg (by decide), Hus.out]; omega
            clear HA hx0 HRs
            go_wp2_with fail
            go_roundw
            case rel => exact ⟨d+1, us, by omega, by go_num, HN.out.symm, oX, bX, mX, hof, by omega⟩
            case measure => simp [intOf]; omega
        · have hdd : d = doorsOf t := by have := Hdn.out; omega
          have HN : Hid (us.length = fT (k+1)) := by show _ = _; rw [Hus.out, HFTk.out, hdd]
          go_wp2_with fail
          go_roundw
          case rel => exact ⟨k+1, us, by omega, by go_num, HN.out, own, hb, hsm, hof, hsz⟩
          case measure => simp [intOf]; omega
    · have hkn : k = cuts.length := by have := Hn2.out; omega
      have hB2 := HB2.out k
      have hB2' : fT k ≤ 120 := by
        have h1 : k * doorsOf t ≤ 10 * 12 := Nat.mul_le_mul (by omega) (by have := Hdn.out; omega)
        omega
      have HN : Hid (us.length = res) := by show _ = _; rw [HFF.out, ← hkn]; exact Hus.out
      obtain ⟨oa, on, oc, rfl, hon, -⟩ := own.shape
      go_wp2_with fail
      go_ret
      exact ⟨_, rfl, ⟨_, _, _, rfl, by rw [hon]; exact HN.out, by have := Hus.out; omega⟩, et⟩

open Go.ChangeShapes Go.WideShapes Go.ChangeAt Go.RowKit
set_option linter.unusedVariables false

structure DesignOk (mk : MK) (t cuts : List (List Int)) : Prop extends PartOk mk t cuts where
  eq : cuts.length = t.length
  sys : isSystem mk t = true
  keys : areKeysB mk cuts = true
theorem sysCode_zero {mk : MK} {t cuts : List (List Int)} (h : sysCode mk t cuts = 0) : DesignOk mk t cuts ∧ isDesign mk t cuts = decide (faults mk t cuts = 0) := by
  unfold sysCode at h
  cases h1 : isSystem mk t with
  | false => rw [h1, if_pos rfl] at h; omega
  | true =>
    rw [h1, if_neg (by decide)] at h
    cases h2 : (decide (cuts.length = t.length) && areKeysB mk cuts) with
    | false => rw [h2, if_pos rfl] at h; omega
    | true =>
      obtain ⟨h3, h4⟩ := Bool.and_eq_true_iff.1 h2
      have h3 := of_decide_eq_true h3
      exact ⟨⟨⟨sysOk h1, by omega, keysOk h4⟩, h3, h1, h4⟩, by unfold isDesign; rw [h1, h2]; rfl⟩
theorem sysCode_bad {mk : MK} {t cuts : List (List Int)} (h : sysCode mk t cuts ≠ 0) : isDesign mk t cuts = false := by
  unfold sysCode at h
  unfold isDesign
  cases h1 : isSystem mk t with
  | false => rfl
  | true =>
    rw [h1, if_neg (by decide)] at h
    cases h2 : (decide (cuts.length = t.length) && areKeysB mk cuts) with
    | false => rfl
    | true => rw [h2, if_neg (by decide)] at h; exact absurd rfl h
theorem designOk {mk : MK} {t cuts : List (List Int)} (h : isDesign mk t cuts = true) : DesignOk mk t cuts := by
  by_cases e : sysCode mk t cuts = 0
  · exact (sysCode_zero e).1
  · rw [sysCode_bad e] at h; cases h

set_option maxRecDepth 20000 in
set_option maxHeartbeats 1000000 in
theorem IsDesign_c (w : World) (mk : MK) (v : Value) (z : Zone) (t : List (List Int)) (h : RowsR z w v t) (u : Value) (y : Zone) (cuts : List (List Int)) (hc : RowsR y w u cuts) :
    Calls Tryz.prog 29 #[sysV mk v, u] w (Ret w fun r _ => r = .bool (isDesign mk t cuts)) := by
  have HZ : Hid (sysCode mk t cuts = 0 → isDesign mk t cuts = decide (faults mk t cuts = 0)) := fun h => (sysCode_zero h).2
  have HB : Hid (sysCode mk t cuts ≠ 0 → isDesign mk t cuts = false) := sysCode_bad
  have HC1 := Lib.hid (fun (w' : World) (e : Ext w w') => cutsCode_c w' mk v z t (stable_rows.ext h e) u y cuts (stable_rows.ext hc e))
  have HC2 : Hid (sysCode mk t cuts = 0 → ∀ w', Ext w w' → Calls Tryz.prog 82 #[sysV mk v, u] w' (Ret w' (LenP (faults mk t cuts)))) := fun h0 w' e => partFaults_c w' mk v z t (stable_rows.ext h e) u y cuts (stable_rows.ext hc e) (sysCode_zero h0).1.toPartOk
  generalize isDesign mk t cuts = res at *
  generalize sysCode mk t cuts = sc at *
  generalize faults mk t cuts = fs at *
  obtain ⟨a, n, cap, rfl, -⟩ := SliceR.shape h
  obtain ⟨a2, n2, cap2, rfl, -⟩ := SliceR.shape hc
  clear h hc
  unfold sysV at *
  go_enter Tryz.func29, Tryz.ntmps29
  go_wp2_with fail
  generalize hw0 : World.alloc _ _ = w0
  obtain ⟨e0, S0⟩ := sys_box hw0
  clear hw0
  refine Calls.mono (HC1.out w0 e0) ?_
  rintro e w1 hr
  obtain ⟨r, rfl, rfl, e1⟩ := ret_ext hr
  clear hr
  obtain ⟨c0, c1, c2, c3, c4, c5⟩ := S0.ext e1
  have et := e0.trans e1
  by_cases hs : sc = 0
  · have hb : (sc == 0) = true := by simpa using hs
    have HH := Lib.hid (HZ.out hs)
    have hcall := HC2.out hs w1 et
    clear hs HB HZ S0
    go_wp2_with fail
    refine Calls.mono hcall ?_
    rintro e w2 hr
    obtain ⟨r, rfl, ⟨a3, m3, c3, rfl, hm3, hmm⟩, e2⟩ := ret_ext hr
    clear hr hcall
    by_cases hf : fs = 0
    · have hm0 : ((m3 : Int) == 0) = true := by rw [hm3, hf]; rfl
      have HR : Hid (res = true) := by show _ = _; rw [HH.out]; exact decide_eq_true hf
      clear hf hm3
      go_wp2_with fail
      go_ret
      exact ⟨.bool true, rfl, congrArg Value.bool HR.out.symm, et.trans e2⟩
    · have hm0 : ((m3 : Int) == 0) = false := by rw [beq_eq_false_iff_ne]; omega
      have HR : Hid (res = false) := by show _ = _; rw [HH.out]; exact decide_eq_false hf
      clear hf hm3
      go_wp2_with fail
      go_ret
      exact ⟨.bool false, rfl, congrArg Value.bool HR.out.symm, et.trans e2⟩
  · have hb : (sc == 0) = false := by simpa using hs
    have HH := Lib.hid (HB.out hs)
    clear hs HB HZ S0
    go_wp2_with fail
    go_ret
    exact ⟨.bool false, rfl, congrArg Value.bool HH.out.symm, et⟩

set_option maxRecDepth 20000 in
set_option maxHeartbeats 1000000 in
theorem IsDesignSpec_c (w : World) (mk : MK) (v : Value) (z : Zone) (t : List (List Int)) (h : RowsR z w v t) (u : Value) (y : Zone) (cuts : List (List Int)) (hc : RowsR y w u cuts) :
    Calls Tryz.prog 79 #[sysV mk v, u] w (Ret w fun r _ => r = .bool (isDesign mk t cuts)) := by
  have HZ : Hid (sysCode mk t cuts = 0 → isDesign mk t cuts = decide (faults mk t cuts = 0)) := fun h => (sysCode_zero h).2
  have HB : Hid (sysCode mk t cuts ≠ 0 → isDesign mk t cuts = false) := sysCode_bad
  have HC1 := Lib.hid (fun (w' : World) (e : Ext w w') => l15Code_c w' mk v z t (stable_rows.ext h e) u y cuts (stable_rows.ext hc e))
  have HC2 : Hid (sysCode mk t cuts = 0 → ∀ w', Ext w w' → Calls Tryz.prog 115 #[sysV mk v, u] w' (Ret w' (LenP (faults mk t cuts)))) := fun h0 w' e => l15False_c w' mk v z t (stable_rows.ext h e) u y cuts (stable_rows.ext hc e) (sysCode_zero h0).1.toPartOk
  generalize isDesign mk t cuts = res at *
  generalize sysCode mk t cuts = sc at *
  generalize faults mk t cuts = fs at *
  obtain ⟨a, n, cap, rfl, -⟩ := SliceR.shape h
  obtain ⟨a2, n2, cap2, rfl, -⟩ := SliceR.shape hc
  clear h hc
  unfold sysV at *
  go_enter Tryz.func79, Tryz.ntmps79
  go_wp2_with fail
  generalize hw0 : World.alloc _ _ = w0
  obtain ⟨e0, S0⟩ := sys_box hw0
  clear hw0
  refine Calls.mono (HC1.out w0 e0) ?_
  rintro e w1 hr
  obtain ⟨r, rfl, rfl, e1⟩ := ret_ext hr
  clear hr
  obtain ⟨c0, c1, c2, c3, c4, c5⟩ := S0.ext e1
  have et := e0.trans e1
  by_cases hs : sc = 0
  · have hb : (sc == 0) = true := by simpa using hs
    have HH := Lib.hid (HZ.out hs)
    have hcall := HC2.out hs w1 et
    clear hs HB HZ S0
    go_wp2_with fail
    refine Calls.mono hcall ?_
    rintro e w2 hr
    obtain ⟨r, rfl, ⟨a3, m3, c3, rfl, hm3, hmm⟩, e2⟩ := ret_ext hr
    clear hr hcall
    by_cases hf : fs = 0
    · have hm0 : ((m3 : Int) == 0) = true := by rw [hm3, hf]; rfl
      have HR : Hid (res = true) := by show _ = _; rw [HH.out]; exact decide_eq_true hf
      clear hf hm3
      go_wp2_with fail
      go_ret
      exact ⟨.bool true, rfl, congrArg Value.bool HR.out.symm, et.trans e2⟩
    · have hm0 : ((m3 : Int) == 0) = false := by rw [beq_eq_false_iff_ne]; omega
      have HR : Hid (res = false) := by show _ = _; rw [HH.out]; exact decide_eq_false hf
      clear hf hm3
      go_wp2_with fail
      go_ret
      exact ⟨.bool false, rfl, congrArg Value.bool HR.out.symm, et.trans e2⟩
  · have hb : (sc == 0) = false := by simpa using hs
    have HH := Lib.hid (HB.out hs)
    clear hs HB HZ S0
    go_wp2_with fail
    go_ret
    exact ⟨.bool false, rfl, congrArg Value.bool HH.out.symm, et⟩

def designCode (mk : MK) (t cuts : List (List Int)) : Int := if isDesign mk t cuts = true then 0 else 1
theorem designCode_zero {mk : MK} {t cuts : List (List Int)} (h : designCode mk t cuts = 0) : DesignOk mk t cuts := by
  unfold designCode at h
  cases e : isDesign mk t cuts with
  | true => exact designOk e
  | false => rw [e, if_neg (by decide)] at h; omega

set_option maxRecDepth 20000 in
theorem designCode_c (w : World) (mk : MK) (v : Value) (z : Zone) (t : List (List Int)) (h : RowsR z w v t) (u : Value) (y : Zone) (cuts : List (List Int)) (hc : RowsR y w u cuts) :
    Calls Tryz.prog 65 #[sysV mk v, u] w (Ret w fun r _ => r = .int .i64 (designCode mk t cuts)) := by
  have HC1 := Lib.hid (fun (w' : World) (e : Ext w w') => IsDesign_c w' mk v z t (stable_rows.ext h e) u y cuts (stable_rows.ext hc e))
  unfold designCode
  generalize isDesign mk t cuts = q at *
  obtain ⟨a, n, cap, rfl, -⟩ := SliceR.shape h
  obtain ⟨a2, n2, cap2, rfl, -⟩ := SliceR.shape hc
  clear h hc
  unfold sysV at *
  go_enter Tryz.func65, Tryz.ntmps65
  go_wp2_with fail
  generalize hw0 : World.alloc _ _ = w0
  obtain ⟨e0, S0⟩ := sys_box hw0
  clear hw0
  refine Calls.mono (HC1.out w0 e0) ?_
  rintro e w1 hr
  obtain ⟨r, rfl, rfl, e1⟩ := ret_ext hr
  clear hr
  cases q with
  | true =>
    go_wp2_with fail
    go_ret
    exact ⟨.int .i64 0, rfl, rfl, e0.trans e1⟩
  | false =>
    go_wp2_with fail
    go_ret
    exact ⟨.int .i64 1, rfl, rfl, e0.trans e1⟩
set_option maxRecDepth 20000 in
theorem l21Code_c (w : World) (mk : MK) (v : Value) (z : Zone) (t : List (List Int)) (h : RowsR z w v t) (u : Value) (y : Zone) (cuts : List (List Int)) (hc : RowsR y w u cuts) :
    Calls Tryz.prog 71 #[sysV mk v, u] w (Ret w fun r _ => r = .int .i64 (designCode mk t cuts)) := by
  have HC1 := Lib.hid (fun (w' : World) (e : Ext w w') => IsDesignSpec_c w' mk v z t (stable_rows.ext h e) u y cuts (stable_rows.ext hc e))
  unfold designCode
  generalize isDesign mk t cuts = q at *
  obtain ⟨a, n, cap, rfl, -⟩ := SliceR.shape h
  obtain ⟨a2, n2, cap2, rfl, -⟩ := SliceR.shape hc
  clear h hc
  unfold sysV at *
  go_enter Tryz.func71, Tryz.ntmps71
  go_wp2_with fail
  generalize hw0 : World.alloc _ _ = w0
  obtain ⟨e0, S0⟩ := sys_box hw0
  clear hw0
  refine Calls.mono (HC1.out w0 e0) ?_
  rintro e w1 hr
  obtain ⟨r, rfl, rfl, e1⟩ := ret_ext hr
  clear hr
  cases q with
  | true =>
    go_wp2_with fail
    go_ret
    exact ⟨.int .i64 0, rfl, rfl, e0.trans e1⟩
  | false =>
    go_wp2_with fail
    go_ret
    exact ⟨.int .i64 1, rfl, rfl, e0.trans e1⟩
end Go.Proofs.YthgmojggpjnckaaGreat
