/- Proved: the ghosts of a lock and the table of ghosts, the reference. -/
import Derived.Test.YthgmojggpjnckaaGreatChecked
import Derived.Deep.RegionHeld3
import Derived.Test.YthgmojggpjnckaaGreatUGhostSpec
import Derived.Test.YthgmojggpjnckaaGreatUDiffRows
import Derived.Test.YthgmojggpjnckaaGreatUPkC
import Derived.Test.YthgmojggpjnckaaGreatUPkD
import Derived.Test.YthgmojggpjnckaaGreatUPkL
import Derived.Test.YthgmojggpjnckaaGreatUPkE
import Derived.Test.YthgmojggpjnckaaGreatULockOk
namespace Go.Proofs.YthgmojggpjnckaaGreat
open Go.ChangeShapes Go.WideShapes Go.ChangeAt Go.RowKit
set_option linter.unusedVariables false

theorem take_yes {p : List Int → Bool} {L : List (List Int)} {k : Nat} (hk : k < L.length) (h : p (L.getD k []) = true) : (L.take (k + 1)).filter p = (L.take k).filter p ++ [L.getD k []] := by
  have e : L.take (k + 1) = L.take k ++ [L.getD k []] := by rw [List.take_add_one, List.getElem?_eq_getElem hk]; simp [hk]
  rw [e, List.filter_append, List.filter_cons_of_pos h]; rfl
theorem take_no {p : List Int → Bool} {L : List (List Int)} {k : Nat} (hk : k < L.length) (h : p (L.getD k []) = false) : (L.take (k + 1)).filter p = (L.take k).filter p := by
  have e : L.take (k + 1) = L.take k ++ [L.getD k []] := by rw [List.take_add_one, List.getElem?_eq_getElem hk]; simp [hk]
  rw [e, List.filter_append, List.filter_cons_of_neg (by rw [h]; decide)]; simp

set_option maxRecDepth 20000 in
set_option maxHeartbeats 2000000 in
theorem l14Ghosts_c (mk : MK) (ok : MkOk mk) (l : List (List Int)) (hll : l.length = mk.c.toNat) (hset : SetsOk l) (w : World) (vl : Value) (zl : Zone) (hL : RowsR zl w vl l) (u : Value) (y : Zone) (cuts : List (List Int)) (hc : RowsR y w u cuts) :
    Calls Tryz.prog 97 #[mk.v, .agg #[vl], u] w (Ret w fun r w' => RowsR ⟨0, w'.heap.size, false⟩ w' r ((opsR mk l mk.c.toNat []).filter fun k => !hasL cuts k)) := by
  have h8 := pow8_le (r := mk.c.toNat) (by have := ok.c6; omega)
  have HOp := Lib.hid (fun (w' : World) (e : Ext w w') => l04Openers_c mk ok l hll hset mk.c.toNat [] (by simp) w' w'.heap.size (.slice none 0 0) (SliceR.nil _ _ _) (Nat.le_refl _) (fun i hi => absurd hi (by simp)) vl zl (stable_rows.ext hL e) 1000000 (by omega) (by omega))
  have HHas := Lib.hid (fun (w' : World) (e : Ext w w') (v : Value) (q : Zone) (x : List Int) (hx : IntsR q w' v x) => l14Has_c w' u y cuts (stable_rows.ext hc e) v q x hx)
  have HLen : Hid ((opsR mk l mk.c.toNat []).length ≤ 262144) := Nat.le_trans (opsR_len mk (fun i => (hset i).1) _ _) h8
  generalize opsR mk l mk.c.toNat [] = L at *
  obtain ⟨p, hp⟩ : ∃ p : List Int → Bool, p = fun k => !hasL cuts k := ⟨_, rfl⟩
  rw [← hp]
  have HP : Hid (∀ k, hasL cuts k = !p k) := fun k => by rw [hp]; simp
  clear hp
  have HY := Lib.hid (fun (k : Nat) (hk : k < L.length) (h : p (L.getD k []) = true) => take_yes hk h)
  have HN := Lib.hid (fun (k : Nat) (hk : k < L.length) (h : p (L.getD k []) = false) => take_no hk h)
  have H0 : Hid ((L.take 0).filter p = []) := by simp [RowKit.Hid]
  have HA : Hid ((L.take L.length).filter p = L.filter p) := by show _ = _; rw [List.take_length]
  have HTl : Hid (∀ k, ((L.take k).filter p).length ≤ L.length) := fun k => Nat.le_trans (List.length_filter_le _ _) (List.length_take_le' _ _)
  generalize hgT : (fun k => (L.take k).filter p) = gT at *
  replace H0 : Hid (gT 0 = []) := by rw [← hgT]; exact H0
  replace HA : Hid (gT L.length = L.filter p) := by rw [← hgT]; exact HA
  replace HTl : Hid (∀ k, (gT k).length ≤ L.length) := by rw [← hgT]; exact HTl
  replace HY : Hid (∀ (k : Nat) (hk : k < L.length) (h : p (L.getD k []) = true), gT (k + 1) = gT k ++ [L.getD k []]) := by rw [← hgT]; exact HY
  replace HN : Hid (∀ (k : Nat) (hk : k < L.length) (h : p (L.getD k []) = false), gT (k + 1) = gT k) := by rw [← hgT]; exact HN
  generalize L.filter p = res at *
  obtain ⟨la, ln, lcap, rfl, -⟩ := SliceR.shape hL
  obtain ⟨a2, n2, cap2, rfl, -⟩ := SliceR.shape hc
  obtain ⟨c, d, s, m, l0⟩ := mk
  unfold MK.v at *
  clear hL hc hgT h8 hset hll ok
  simp only at HOp ⊢
  go_enter Tryz.func97, Tryz.ntmps97
  go_wp2_with fail
  generalize hw0 : World.alloc (World.alloc _ _) _ = w0
  obtain ⟨e0, S0, cl0⟩ : Ext w w0 ∧ MkAt w0 w.heap.size ⟨c, d, s, m, l0⟩ ∧ w0.cell? ⟨w.heap.size + 1, 0, none⟩ = some (.slice la ln lcap) := by
    subst hw0
    refine ⟨(Ext.alloc _ _).trans (Ext.alloc _ _), ⟨?_, ?_, ?_, ?_, ?_⟩, ?_⟩
    all_goals (clear HOp HHas HLen HP H0 HA HTl HY HN; go_simp; done)
  clear hw0
  obtain ⟨c0, c1, c2, c3, c4⟩ := S0
  go_wp2_with fail
  refine Calls.mono (HOp.out w0 e0) ?_
  rintro e w3 hr
  obtain ⟨r, rfl, hR, e3⟩ := ret_ext hr
  clear hr c0 c1 c2 c3 c4 cl0
  have et := e0.trans e3
  obtain ⟨ra, rn, rc, rfl, hrn, hrm, -⟩ := SliceR.shape hR
  have HC := Lib.hid (fun (k : Nat) (hk : k < rn) => rows_at hR hk)
  have Hrn := Lib.hid hrn
  clear hR hrn
  have hrn2 : rn ≤ 262144 := by have := Hrn.out; have := HLen.out; omega
  go_upto_region 3 with fail
  generalize hw4 : World.alloc _ _ = w4
  obtain ⟨e4, o4⟩ : Ext w3 w4 ∧ AliasR 41 w3.heap.size w4 (.slice (some ⟨w3.heap.size, 0, none⟩) 0 0) [] := by
    subst hw4
    exact ⟨Ext.alloc _ _, AliasR.empty (Nat.le_refl _)⟩
  clear hw4
  go_wp2_with fail
  go_loopw [8, 9] (fun s8 s9 wr => ∃ k : Nat, k ≤ rn ∧ s9 = .int .i64 k ∧ AliasR 41 w3.heap.size wr s8 (gT k) ∧ Ext w3 wr) (fun _ s9 _ => rn - (intOf s9).toNat)
  case atStart => exact ⟨0, Nat.zero_le _, rfl, by rw [H0.out]; exact o4, e4⟩
  case round =>
    clear o4 e4
    obtain ⟨k, hk, rfl, own, ew⟩ := hrel
    have etw := et.trans ew
    by_cases hlt : k < rn
    · have hkl : k < L.length := by rw [← Hrn.out]; exact hlt
      obtain ⟨b, off, rfl, a1, n1, k1, hn1, hm1, -, hcc, ⟨yy, -, hy⟩, -⟩ := HC.out k hlt
      have HU := Lib.hid (stable_ints.ext (IntsR.free (hy w3 (Ext.refl _))) ew)
      have hcall := HHas.out wr etw _ yy _ (hy wr ew)
      have hcw := hcc wr ew
      have HCc := Lib.hid (fun (w' : World) (e : Ext wr w') => hcc w' (ew.trans e))
      have HYk := Lib.hid (HY.out k hkl)
      have HNk := Lib.hid (HN.out k hkl)
      have hTl : (gT k).length ≤ 262144 := by have := HTl.out k; have := HLen.out; omega
      rw [HP.out] at hcall
      clear hy hcc hn1
      generalize L.getD k [] = row at *
      generalize p row = q at *
      generalize gT k = up at *
      cases q with
      | true =>
        have HV := Lib.hid (HYk.out rfl)
        clear HYk HNk
        go_wp2_with fail
        refine Calls.mono hcall ?_
        rintro e w5 hr
        obtain ⟨r, rfl, rfl, e5⟩ := ret_ext hr
        clear hr hcall hcw
        have hcw := HCc.out w5 e5
        have own5 := AliasR.ext own e5
        have HU5 := Lib.hid (stable_ints.ext HU.out e5)
        have ew5 := ew.trans e5
        have hs5 := ew5.size
        go_wp2_with (at_builtin; (refine wpList_appendAlias (B := w3.heap.size) (xs := up) (w0 := w3) rfl _ _ 30 rfl Tryz.underlying30 Tryz.infoInts rfl own5 (a1, n1, k1) row HU5.out (Nat.le_refl _) rfl (by omega) (by omega) ?_); intro v6 w6 hown6 hb6 hg6 hat6)
        go_roundw
        case rel => exact ⟨k + 1, by omega, by go_num, by rw [HV.out]; exact hown6, Below.trans ew5 hb6⟩
        case measure => simp [intOf]; omega
      | false =>
        have HV := Lib.hid (HNk.out rfl)
        clear HYk HNk
        go_wp2_with fail
        refine Calls.mono hcall ?_
        rintro e w5 hr
        obtain ⟨r, rfl, rfl, e5⟩ := ret_ext hr
        clear hr hcall hcw
        have own5 := AliasR.ext own e5
        go_wp2_with fail
        go_roundw
        case rel => exact ⟨k + 1, by omega, by go_num, by rw [HV.out]; exact own5, ew.trans e5⟩
        case measure => simp [intOf]; omega
    · have hkn : k = L.length := by have := Hrn.out; omega
      have HH : Hid (res = gT k) := by show _ = _; rw [hkn, HA.out]
      go_wp2_with fail
      go_ret
      exact ⟨_, rfl, by rw [HH.out]; exact AliasR.rows own, etw⟩

/-- the ghosts of the first n doors -/
def ghostsTo (mk : MK) (t cuts : List (List Int)) (n : Nat) : List Int := (List.range n).map fun d => (ghostN mk cuts ((locks mk t cuts).getD d []) : Int)
theorem ghostsTo_succ (mk : MK) (t cuts : List (List Int)) (n : Nat) : ghostsTo mk t cuts (n + 1) = ghostsTo mk t cuts n ++ [(ghostN mk cuts ((locks mk t cuts).getD n []) : Int)] := by
  unfold ghostsTo; rw [List.range_succ, List.map_append]; rfl
theorem ghostsTo_len (mk : MK) (t cuts : List (List Int)) (n : Nat) : (ghostsTo mk t cuts n).length = n := by simp [ghostsTo]
theorem design_sets {mk : MK} {t cuts : List (List Int)} (h : DesignOk mk t cuts) {d : Nat} (hd : d < doorsOf t) : SetsOk ((locks mk t cuts).getD d []) := by
  intro i
  have hl := lock_len (mk := mk) (t := t) (cuts := cuts) hd
  have h2 := h.mk2
  by_cases hi : i < mk.c.toNat
  · have e : ((locks mk t cuts).getD d []).getD i [] = setAt (keysAt t cuts d cuts.length) i mk.d.toNat := by rw [lock_at hd, hull_at hi]
    rw [e]
    have h3 := setAt_len (keysAt t cuts d cuts.length) i mk.d.toNat
    refine ⟨by omega, fun k hk => ?_⟩
    have e2 : (setAt (keysAt t cuts d cuts.length) i mk.d.toNat).getD k 0 = (setAt (keysAt t cuts d cuts.length) i mk.d.toNat)[k] := by simp [hk]
    rw [e2]
    have := (setAt_mem.1 (List.getElem_mem hk)).1
    omega
  · have e : ((locks mk t cuts).getD d []).getD i [] = [] := by
      rw [List.getD_eq_getElem?_getD, List.getElem?_eq_none (by omega)]; rfl
    rw [e]
    exact ⟨by simp, fun k hk => absurd hk (by simp)⟩
theorem design_mkOk {mk : MK} {t cuts : List (List Int)} (h : DesignOk mk t cuts) : MkOk mk := mkOk (sysMaker h.sys)

set_option maxRecDepth 20000 in
set_option maxHeartbeats 2000000 in
theorem GhostTableSpec_c (w : World) (mk : MK) (v : Value) (z : Zone) (t : List (List Int)) (h : RowsR z w v t) (u : Value) (y : Zone) (cuts : List (List Int)) (hc : RowsR y w u cuts) :
    Calls Tryz.prog 43 #[sysV mk v, u] w (Ret w (IntsCode w (ghostTab mk t cuts))) := by
  have H1 : Hid (designCode mk t cuts ≠ 0 → ghostTab mk t cuts = ([], designCode mk t cuts)) := ghostTab_bad
  have H2 : Hid (designCode mk t cuts = 0 → ghostTab mk t cuts = (ghosts mk t cuts, 0)) := ghostTab_ok
  have HC1 := Lib.hid (fun (w' : World) (e : Ext w w') => l21Code_c w' mk v z t (stable_rows.ext h e) u y cuts (stable_rows.ext hc e))
  have HK : Hid (designCode mk t cuts = 0 → ∀ w', Ext w w' → ∀ d : Nat, d < doorsOf t → Calls Tryz.prog 98 #[sysV mk v, u, .int .i64 d] w' (Ret w' (LockP ((locks mk t cuts).getD d []) w'))) := fun h0 w' e d hd => by
    have ok := designCode_zero h0
    have := l15Lock_c w' mk ok.mk1 ok.mk2 v z t (stable_rows.ext h e) u y cuts (stable_rows.ext hc e) ok.le ok.len.2 (fun r hr => (ok.key r hr).len) d (fun k hk => by rw [ok.row k hk]; exact hd)
    rwa [← lock_at hd] at this
  have HG : Hid (designCode mk t cuts = 0 → ∀ w', Ext w w' → ∀ d : Nat, d < doorsOf t → ∀ (vl : Value) (zl : Zone), RowsR zl w' vl ((locks mk t cuts).getD d []) → Calls Tryz.prog 97 #[mk.v, .agg #[vl], u] w' (Ret w' fun r w'' => ∃ L : List (List Int), L.length = ghostN mk cuts ((locks mk t cuts).getD d []) ∧ RowsR ⟨0, w''.heap.size, false⟩ w'' r L)) := fun h0 w' e d hd vl zl hl => by
    have ok := designCode_zero h0
    refine (l14Ghosts_c mk (design_mkOk ok) _ (lock_len hd) (design_sets ok hd) w' vl zl hl u y cuts (stable_rows.ext hc e)).mono ?_
    rintro e w'' hr
    obtain ⟨r, rfl, hR, ee⟩ := ret_ext hr
    exact ⟨r, rfl, ⟨_, ghostN_spec hd, hR⟩, ee⟩
  have HD : Hid (designCode mk t cuts = 0 → (1 ≤ t.length ∧ t.length ≤ 10) ∧ 1 ≤ doorsOf t ∧ doorsOf t ≤ 12) := fun h => ⟨(designCode_zero h).len, (designCode_zero h).doors⟩
  have HI64 : Hid (designCode mk t cuts = 0 → ∀ x ∈ ghosts mk t cuts, I64 x) := fun h => ghosts_i64 (design_mkOk (designCode_zero h)) t cuts
  have HGl : Hid (designCode mk t cuts = 0 → ∀ d, ghostN mk cuts ((locks mk t cuts).getD d []) ≤ 262144) := fun h d => ghostN_le (design_mkOk (designCode_zero h)) cuts _
  have HS := Lib.hid (ghostsTo_succ mk t cuts)
  have HSl := Lib.hid (ghostsTo_len mk t cuts)
  have H0 : Hid (ghostsTo mk t cuts 0 = []) := rfl
  have HA : Hid (ghostsTo mk t cuts (doorsOf t) = ghosts mk t cuts) := rfl
  generalize ghostTab mk t cuts = res at *
  generalize ghosts mk t cuts = gs at *
  generalize ghostsTo mk t cuts = gT at *
  generalize designCode mk t cuts = dc at *
  generalize hlk : locks mk t cuts = ls at *
  generalize hgn : (fun d : Nat => ghostN mk cuts (ls.getD d [])) = gN at *
  replace HG : Hid (dc = 0 → ∀ w', Ext w w' → ∀ d : Nat, d < doorsOf t → ∀ (vl : Value) (zl : Zone), RowsR zl w' vl (ls.getD d []) → Calls Tryz.prog 97 #[mk.v, .agg #[vl], u] w' (Ret w' fun r w'' => ∃ L : List (List Int), L.length = gN d ∧ RowsR ⟨0, w''.heap.size, false⟩ w'' r L)) := by rw [← hgn]; exact HG
  replace HGl : Hid (dc = 0 → ∀ d, gN d ≤ 262144) := by rw [← hgn]; exact HGl
  replace HS : Hid (∀ n, gT (n + 1) = gT n ++ [(gN n : Int)]) := by rw [← hgn]; exact HS
  clear hlk hgn
  obtain ⟨a, n, cap, rfl, hn, -⟩ := SliceR.shape h
  obtain ⟨a2, n2, cap2, rfl, -⟩ := SliceR.shape hc
  have HRow : Hid (0 < n → ∃ b off, a = some ⟨b, off, none⟩ ∧ ∃ a0 cp, doorsOf t ≤ 9223372036854775807 ∧ ∀ w', Ext w w' → w'.cell? ⟨b, off, none⟩ = some (.slice a0 (doorsOf t) cp)) := fun hn0 => by
    obtain ⟨b, off, rfl, a0, m, cp, hm0, hmm, -, hc0, -⟩ := rows_at h hn0
    have e : m = doorsOf t := hm0
    subst e
    exact ⟨b, off, rfl, a0, cp, hmm, fun w' e => hc0 w' e⟩
  have Hn := Lib.hid hn
  clear h hc hn
  unfold sysV MK.v at *
  go_enter Tryz.func43, Tryz.ntmps43
  go_wp2_with fail
  generalize hw0 : World.alloc _ _ = w0
  obtain ⟨e0, S0⟩ := sys_box hw0
  clear hw0
  refine Calls.mono (HC1.out w0 e0) ?_
  rintro e w1 hr
  obtain ⟨r, rfl, rfl, e1⟩ := ret_ext hr
  clear hr HC1
  have et := e0.trans e1
  have HSy := Lib.hid (S0.ext e1)
  clear S0
  obtain ⟨c0, c1, c2, c3, c4, c5⟩ := HSy.out
  by_cases hd : dc = 0
  · have HH := Lib.hid (H2.out hd)
    have hb0 : (dc != 0) = false := by rw [hd]; rfl
    have HK' := Lib.hid (HK.out hd)
    have HG' := Lib.hid (HG.out hd)
    have HI' := Lib.hid (HI64.out hd)
    have HGl' := Lib.hid (HGl.out hd)
    obtain ⟨hdl, hdd⟩ := HD.out hd
    have hn0 : 0 < n := by rw [Hn.out]; omega
    obtain ⟨b, off, rfl, a0, cp, hmm, hrow⟩ := HRow.out hn0
    have HRw := Lib.hid hrow
    clear hd H1 H2 HK HG HI64 HGl HD HRow hrow
    generalize doorsOf t = m at *
    go_upto_region 5 with fail
    generalize hw2 : World.alloc _ _ = w2
    obtain ⟨e2, o2⟩ : Ext w1 w2 ∧ OwnP (Value.int .i64) 2 w1.heap.size w2 (.slice (some ⟨w1.heap.size, 0, none⟩) 0 0) [] := by
      subst hw2
      exact ⟨Ext.alloc _ _, OwnP.empty (Nat.le_refl _)⟩
    clear hw2 c0 c1 c2 c3 c4 c5
    go_wp2_with fail
    go_loopw [7, 8] (fun s7 s8 wr => ∃ k : Nat, k ≤ m ∧ s8 = .int .i64 k ∧ OwnP (Value.int .i64) 2 w1.heap.size wr s7 (gT k) ∧ Ext w1 wr) (fun _ s8 _ => m - (intOf s8).toNat)
    case atStart => exact ⟨0, Nat.zero_le _, rfl, by rw [H0.out]; exact o2, e2⟩
    case round =>
      clear o2 e2
      obtain ⟨k, hk, rfl, own, ew⟩ := hrel
      have etw := et.trans ew
      have hrw := HRw.out wr etw
      obtain ⟨c0, c1, c2, c3, c4, c5⟩ := HSy.out.ext ew
      by_cases hlt : k < m
      · have HKk := Lib.hid (fun (w' : World) (e : Ext wr w') => HK'.out w' (etw.trans e) k hlt)
        have HGk := Lib.hid (fun (w' : World) (e : Ext wr w') (vl : Value) (zl : Zone) (g : RowsR zl w' vl (ls.getD k [])) => HG'.out w' (etw.trans e) k hlt vl zl g)
        have HSk := Lib.hid (HS.out k)
        have hgl := HGl'.out k
        have hsl := HSl.out k
        generalize gN k = gk at *
        generalize gT k = up at *
        have HCel : Hid (∀ w', Ext w1 w' → w'.cell? ⟨w.heap.size, 0, none⟩ = some (.int .i64 mk.c) ∧ w'.cell? ⟨w.heap.size, 1, none⟩ = some (.int .i64 mk.d) ∧ w'.cell? ⟨w.heap.size, 2, none⟩ = some (.int .i64 mk.s) ∧ w'.cell? ⟨w.heap.size, 3, none⟩ = some (.int .i64 mk.m) ∧ w'.cell? ⟨w.heap.size, 4, none⟩ = some (.int .i64 mk.l) ∧ w'.cell? ⟨w.heap.size, 5, none⟩ = some (.slice (some ⟨b, off, none⟩) n cap)) := fun w' e => by
          have q := HSy.out.ext e
          exact ⟨q.c0, q.c1, q.c2, q.c3, q.c4, q.c5⟩
        have hgI : I64 (gk : Int) := by unfold I64; omega
        have HOwn := Lib.hid own
        have hsz1 : w1.heap.size ≤ wr.heap.size := ew.size
        have HN : Hid (up.length + [(gk : Int)].length ≤ 1099511627776) := by show _ ≤ _; rw [List.length_singleton]; omega
        have er := Ext.refl wr
        obtain ⟨av, nv, cv, rfl, -⟩ := OwnP.shape own
        clear own hsl HK' HG'
        go_wp2_with fail
        go_region_held3 (fun w' => w'.cell? ⟨w.heap.size, 0, none⟩ = some (.int .i64 mk.c) ∧ w'.cell? ⟨w.heap.size, 1, none⟩ = some (.int .i64 mk.d) ∧ w'.cell? ⟨w.heap.size, 2, none⟩ = some (.int .i64 mk.s) ∧ w'.cell? ⟨w.heap.size, 3, none⟩ = some (.int .i64 mk.m) ∧ w'.cell? ⟨w.heap.size, 4, none⟩ = some (.int .i64 mk.l) ∧ w'.cell? ⟨w.heap.size, 5, none⟩ = some (.slice (some ⟨b, off, none⟩) n cap)) (first | exact HCel.out _ (by with_reducible assumption) | exact HCel.out _ (ew.trans (by repeat (first | exact Ext.refl _ | assumption | (refine Ext.trans ?_ (Ext.alloc _ _)) | (refine Ext.trans ?_ (Ext.drew _)) | (refine Ext.trans ?_ (by assumption)))))) (first | (go_at_call 98; (with_reducible refine (HKk.out _ (by repeat (first | exact Ext.refl _ | assumption | (refine Ext.trans ?_ (Ext.alloc _ _)) | (refine Ext.trans ?_ (Ext.drew _)) | (refine Ext.trans ?_ (by assumption))))).mono ?_); rintro e w7 hr7; obtain ⟨r7, rfl, ⟨x7, rfl, hx7⟩, e7⟩ := ret_ext hr7; clear hr7; obtain ⟨xa, xn, xc, rfl, -⟩ := SliceR.shape hx7; have e77 : Ext wr w7 := (by repeat (first | exact Ext.refl _ | assumption | (refine Ext.trans ?_ (Ext.alloc _ _)) | (refine Ext.trans ?_ (Ext.drew _)) | (refine Ext.trans ?_ (by assumption))))) | (go_at_call 97; (with_reducible refine (HGk.out _ e77 _ _ hx7).mono ?_); rintro e w8 hr8; obtain ⟨r8, rfl, ⟨L8, hl8, hR8⟩, e8⟩ := ret_ext hr8; clear hr8; obtain ⟨a8, n8, k8, rfl, hn8, -⟩ := SliceR.shape hR8; obtain rfl : n8 = gk := hn8.trans hl8; have e88 : Ext wr w8 := e77.trans e8; clear hR8 hn8 hl8) | (refine step_append_of (by rfl) _ _ 41 (by rfl) (by rfl) (by rfl) (fun ty => run_appendP (f := Value.int .i64) (B := w1.heap.size) (xs := up) (ys := [(n8 : Int)]) (E := IntR) 41 ty 0 8 Tryz.underlying41 Tryz.infoI64 rfl (fun _ => rfl) (HOwn.out.ext (e88.trans (Ext.alloc _ _))) (fun h => h.1) (ints_one _ (n8 : Int) 2 hgI) HN.out (by decide) (Nat.le_trans hsz1 (Ext.size (e88.trans (Ext.alloc _ _))))) ?_; intro v10 w10 h10; obtain ⟨o10, -, b10⟩ := h10; have e10 : Ext w1 w10 := Below.trans (ew.trans (e88.trans (Ext.alloc _ _))) b10) | fail)
        all_goals (go_wp2_with fail; go_roundw)
        any_goals (simp [intOf]; omega)
        all_goals exact ⟨k + 1, by omega, by go_num, by rw [HSk.out]; exact o10, e10⟩
      · have hkm : k = m := by omega
        subst hkm
        have HR : Hid (res = (gT k, 0)) := by show _ = _; rw [HH.out, HA.out]
        have HI2 : Hid (∀ x ∈ gT k, I64 x) := by rw [HA.out]; exact HI'
        obtain ⟨av, nv, cv, rfl, -⟩ := OwnP.shape own
        have o3 : OwnP (Value.int .i64) 2 w.heap.size wr (.slice av nv cv) (gT k) := own.lower et.size
        have HO3 := Lib.hid o3
        clear own o3
        go_wp2_with fail
        go_ret2
        exact ⟨_, rfl, IntsCode_own HR.out HO3.out HI2.out, etw⟩
  · have HH := Lib.hid (H1.out hd)
    have hb0 : (dc != 0) = true := by rw [bne_iff_ne]; exact hd
    clear hd H1 H2 HK HG HI64 HGl HD HRow
    go_wp2_with fail
    go_ret2
    exact ⟨_, rfl, IntsCode_nil HH.out, et⟩
end Go.Proofs.YthgmojggpjnckaaGreat
