/- Proved: FindDesign, the reference. -/
import Derived.Test.YtkeikjedbfomnaaGreatDoorChecked
import Derived.Deep.RegionHeld3
import Derived.Test.YtkeikjedbfomnaaGreatDoorUSearchSpec
import Derived.Test.YtkeikjedbfomnaaGreatDoorUPkB
import Derived.Test.YtkeikjedbfomnaaGreatDoorUPkE
namespace Go.Proofs.YtkeikjedbfomnaaGreatDoor
open Go.ChangeShapes Go.WideShapes Go.ChangeAt Go.RowKit
set_option linter.unusedVariables false

/-- what a search for designs finds -/
def searchS (mk : MK) (t : List (List Int)) (limit most : Int) : SS := (fromS mk t limit most t.length [] ⟨0, false, []⟩).2
def searchC (mk : MK) (t : List (List Int)) (limit : Int) : Int := if isSystem mk t = true then (if inB limit 0 4000 = true then 0 else 2) else 1
theorem searchC_sys {mk : MK} {t : List (List Int)} {limit : Int} (h : isSystem mk t = false) : searchC mk t limit = 1 := by unfold searchC; rw [if_neg (by rw [h]; decide)]
theorem searchC_lim {mk : MK} {t : List (List Int)} {limit : Int} (h : isSystem mk t = true) (h2 : inB limit 0 4000 = false) : searchC mk t limit = 2 := by unfold searchC; rw [if_pos h, if_neg (by rw [h2]; decide)]
theorem searchC_ok {mk : MK} {t : List (List Int)} {limit : Int} (h : isSystem mk t = true) (h2 : inB limit 0 4000 = true) : searchC mk t limit = 0 := by unfold searchC; rw [if_pos h, if_pos h2]
theorem searchC_zero {mk : MK} {t : List (List Int)} {limit : Int} (h : searchC mk t limit = 0) : isSystem mk t = true ∧ 0 ≤ limit ∧ limit ≤ 4000 := by
  unfold searchC at h
  split at h
  · split at h
    · rename_i h1 h2
      exact ⟨h1, inB_iff.1 h2⟩
    · omega
  · omega
theorem sys_mkOk {mk : MK} {t : List (List Int)} (h : isSystem mk t = true) : MkOk mk := by
  unfold isSystem at h
  exact mkOk (Bool.and_eq_true_iff.1 h).1
theorem searchS_ok {mk : MK} {t : List (List Int)} {limit most : Int} (h : isSystem mk t = true) (hl : 0 ≤ limit) : SOk mk t limit (searchS mk t limit most) :=
  fromS_ok (sys_mkOk h) t.length [] ⟨0, false, []⟩ (by simp) (by simp) (fun h0 => by
    have := (sysOk h).len
    omega) (Int.le_refl _) hl (by simp) (by
    have := (sysOk h).len
    rw [if_neg (by omega)]; simp)
theorem IntsR.shrink {z : Zone} {w : World} {v : Value} {xs : List Int} (h : IntsR z w v xs) : IntsR ⟨z.lo, min z.hi w.heap.size, false⟩ w v xs := by
  obtain ⟨a, cap, rfl, h1, h2, h3, h4⟩ := h
  refine ⟨a, cap, rfl, h1, h2, h3, fun ad had hp => ?_⟩
  obtain ⟨k1, k2, k3, k4, Z, k5, k6, k7⟩ := h4 ad had hp
  refine ⟨k1, ⟨k2.1, by have := k2.2; show ad.block < min z.hi w.heap.size; omega⟩, k3, (fun h => by cases h), fun _ => ⟨0, 0, true⟩, fun i hi => ⟨fun k hk => absurd hk.2 (Nat.not_lt_zero _), fun _ => rfl⟩, (fun h => by cases h), fun i hi => ?_⟩
  obtain ⟨u, c1, c2⟩ := k7 i hi
  exact ⟨u, c1, c2⟩
theorem RowsA.of_rows {z : Zone} {w : World} {v : Value} {t : List (List Int)} (h : RowsR z w v t) : RowsA (fun k => k < w.heap.size) w v t := by
  obtain ⟨a, cap, rfl, h1, h2, h3, h4⟩ := h
  have hp : 0 < t.length → ∃ ad, a = some ad := fun hp => by
    cases a with
    | none => rw [(h3 rfl).1] at hp; simp at hp
    | some ad => exact ⟨ad, rfl⟩
  by_cases h0 : 0 < t.length
  · obtain ⟨ad, rfl⟩ := hp h0
    obtain ⟨k1, k2, k3, k4, Z, k5, k6, k7⟩ := h4 ad rfl h0
    refine ⟨_, cap, fun j => ⟨(Z j).lo, min (Z j).hi w.heap.size, false⟩, rfl, h1, h2, h3, fun j hj => ?_⟩
    obtain ⟨u, c1, c2⟩ := k7 j hj
    obtain ⟨a', n', c', rfl, -⟩ := SliceR.shape c2
    refine ⟨ad, (a', n', c'), rfl, k1, k3, k3, ?_, fun k hk => ?_, rfl, c2.shrink⟩
    · obtain ⟨b, o, s⟩ := ad
      simp only at k1; subst k1
      rw [Addr.add_lit]; exact c1
    · have : k < min (Z j).hi w.heap.size := hk.2
      omega
  · exact ⟨a, cap, fun _ => ⟨0, 0, false⟩, rfl, h1, h2, h3, fun j hj => by omega⟩

set_option maxRecDepth 20000 in
set_option maxHeartbeats 1000000 in
theorem l17Code_c (w : World) (mk : MK) (v : Value) (z : Zone) (t : List (List Int)) (h : RowsR z w v t) (limit : Int) (hl : I64 limit) :
    Calls Tryz.prog 100 #[sysV mk v, .int .i64 limit] w (Ret w fun r _ => r = .int .i64 (searchC mk t limit)) := by
  have H1 : Hid (isSystem mk t = false → searchC mk t limit = 1) := searchC_sys
  have H2 : Hid (isSystem mk t = true → inB limit 0 4000 = false → searchC mk t limit = 2) := searchC_lim
  have H3 : Hid (isSystem mk t = true → inB limit 0 4000 = true → searchC mk t limit = 0) := searchC_ok
  have HC1 := Lib.hid (fun (w' : World) (e : Ext w w') => IsSystemSpec_c w' mk v z t (stable_rows.ext h e))
  generalize searchC mk t limit = res at *
  generalize isSystem mk t = q at *
  obtain ⟨a, n, cap, rfl, -⟩ := SliceR.shape h
  clear h
  unfold sysV at *
  go_enter Tryz.func100, Tryz.ntmps100
  go_wp2_with fail
  generalize hw0 : World.alloc _ _ = w0
  obtain ⟨e0, S0⟩ := sys_box hw0
  clear hw0 S0
  refine Calls.mono (HC1.out w0 e0) ?_
  rintro e w1 hr
  obtain ⟨r, rfl, rfl, e1⟩ := ret_ext hr
  clear hr HC1
  have et := e0.trans e1
  cases q with
  | false =>
    have HH := Lib.hid (H1.out rfl)
    go_wp2_with fail
    go_ret
    exact ⟨_, rfl, by rw [HH.out]; rfl, et⟩
  | true =>
    have hcall := l01In_c w1 limit 0 4000
    have H2' := Lib.hid (H2.out rfl)
    have H3' := Lib.hid (H3.out rfl)
    clear H1 H2 H3
    generalize inB limit 0 4000 = q2 at *
    go_wp2_with fail
    refine Calls.mono hcall ?_
    rintro e w2 hr
    obtain ⟨rfl, hd, e2⟩ := retq_ext hr
    clear hr hcall
    cases q2 with
    | false =>
      have HH := Lib.hid (H2'.out rfl)
      go_wp2_with fail
      go_ret
      exact ⟨_, rfl, by rw [HH.out]; rfl, et.trans e2⟩
    | true =>
      have HH := Lib.hid (H3'.out rfl)
      go_wp2_with fail
      go_ret
      exact ⟨_, rfl, by rw [HH.out]; rfl, et.trans e2⟩

theorem srch_new {w w0 : World} {mk : MK} {v : Value} {limit most : Int} {ty ty' : TypeId} {z : Zone} {t : List (List Int)} (h : RowsR z w v t)
    (hw : (w.alloc (.cells #[.int .i64 mk.c, .int .i64 mk.d, .int .i64 mk.s, .int .i64 mk.m, .int .i64 mk.l, v] ty)).alloc (.cells #[.int .i64 mk.c, .int .i64 mk.d, .int .i64 mk.s, .int .i64 mk.m, .int .i64 mk.l, v, .int .i64 limit, .int .i64 most, .int .i64 0, .bool false, .slice none 0 0] ty') = w0) :
    Ext w w0 ∧ SrchAt (fun k => k < w.heap.size) (w.heap.size + 1) mk v limit most ⟨0, false, []⟩ (.slice none 0 0) w0 ∧ RowsA (fun k => k < w.heap.size) w0 v t := by
  subst hw
  have e : Ext w ((w.alloc (.cells #[.int .i64 mk.c, .int .i64 mk.d, .int .i64 mk.s, .int .i64 mk.m, .int .i64 mk.l, v] ty)).alloc (.cells #[.int .i64 mk.c, .int .i64 mk.d, .int .i64 mk.s, .int .i64 mk.m, .int .i64 mk.l, v, .int .i64 limit, .int .i64 most, .int .i64 0, .bool false, .slice none 0 0] ty')) := (Ext.alloc _ _).trans (Ext.alloc _ _)
  have hg := heap_alloc_new (w.alloc (.cells #[.int .i64 mk.c, .int .i64 mk.d, .int .i64 mk.s, .int .i64 mk.m, .int .i64 mk.l, v] ty)) (.cells #[.int .i64 mk.c, .int .i64 mk.d, .int .i64 mk.s, .int .i64 mk.m, .int .i64 mk.l, v, .int .i64 limit, .int .i64 most, .int .i64 0, .bool false, .slice none 0 0] ty')
  rw [World.size_alloc] at hg
  refine ⟨e, ⟨⟨?_, ?_, ?_, ?_, ?_, ?_⟩, ?_, ?_, ?_, ?_, ?_, frozen_of_row _ _ _ _ _ hg, frozen_of_row _ _ _ _ _ hg, frozen_of_row _ _ _ _ _ hg, ?_, fun k hk => ⟨by omega, fun e => by cases e⟩, (fun e => by cases e), fun k hk => Nat.lt_of_lt_of_le hk e.size⟩, (RowsA.of_rows h).ext e⟩
  any_goals (rw [cell_of_row _ _ _ _ _ (0, 0) hg]; rfl)
  exact ⟨[], rfl, OwnP.none, fun i hi => by simp at hi⟩

set_option maxRecDepth 20000 in
set_option maxHeartbeats 1000000 in
theorem l17Run_c (w : World) (mk : MK) (v : Value) (z : Zone) (t : List (List Int)) (h : RowsR z w v t) (hs : isSystem mk t = true) (limit most : Int) (hl0 : 0 ≤ limit) (hl1 : limit ≤ 4000) (hm : 0 < most) (hmi : I64 most) :
    Calls Tryz.prog 102 #[sysV mk v, .slice none 0 0, .int .i64 most, .int .i64 limit] w (Ret w fun r w' => ∃ (g : Nat) (A : Nat → Prop) (vf : Value), r = .pointer (some ⟨g, 0, none⟩) ∧ SrchAt A g mk v limit most (searchS mk t limit most) vf w' ∧ w.heap.size ≤ g) := by
  have ok := sysOk hs
  have HC := Lib.hid (fun (g : Nat) (w' : World) (A : Nat → Prop) (vf : Value) (hS : SrchAt A g mk v limit most ⟨0, false, []⟩ vf w') (hT : RowsA A w' v t) => l17From_c mk (sys_mkOk hs) v t ok limit most hl1 hl0 hmi g t.length w' A ⟨0, false, []⟩ vf (.slice none 0 0) [] hS hT RowsA.nil (by simp) (by simp) (Int.le_refl _) hl0 (by simp) (by
    have := ok.len
    rw [if_neg (by omega)]; simp) (fun h0 => by have := ok.len; omega))
  have HN := Lib.hid (fun (w0 : World) (ty ty' : TypeId) => srch_new (w0 := w0) (ty := ty) (ty' := ty') (mk := mk) (limit := limit) (most := most) h)
  have HE : Hid (searchS mk t limit most = (fromS mk t limit most t.length [] ⟨0, false, []⟩).2) := rfl
  obtain ⟨a, n, cap, rfl, -⟩ := SliceR.shape h
  clear h ok hs
  obtain ⟨fr, hfr⟩ : ∃ fr, fr = fromS mk t limit most t.length [] ⟨0, false, []⟩ := ⟨_, rfl⟩
  rw [← hfr] at HE HC
  clear hfr
  obtain ⟨fb, st⟩ := fr
  unfold sysV at *
  go_enter Tryz.func102, Tryz.ntmps102
  go_wp2_with fail
  generalize hw0 : World.alloc (World.alloc _ _) _ = w0
  obtain ⟨e0, hS0, hT0⟩ := HN.out w0 _ _ hw0
  clear hw0 HN
  refine Calls.mono (HC.out _ w0 _ _ hS0 hT0) ?_
  rintro e w1 ⟨rfl, A', vf', hS', -, hF, -⟩
  have HS' := Lib.hid hS'
  have HF := Lib.hid hF
  clear hS' hF hS0 hT0 HC
  go_wp2_with fail
  go_ret
  refine ⟨_, rfl, ⟨w.heap.size + 1, A', vf', rfl, by rw [HE.out]; exact HS'.out, Nat.le_succ _⟩, ?_⟩
  have h0 := e0.size
  exact ⟨HF.out.os.trans e0.os, HF.out.tape.trans e0.tape, HF.out.output.trans e0.output, Nat.le_trans h0 HF.out.size, fun k hk => (HF.out.block k (by omega) (fun q => q.elim (fun q => by omega) (fun q => by cases q))).trans (Below.block e0 k hk)⟩

/-- the first design of a search -/
def firstS (st : SS) : (List (List Int) × Int) × Int := match st.found with
  | x :: _ => ((x, st.tries), 0)
  | [] => if st.over = true then (([], 0), 3) else (([], 0), 4)
def FindR (w : World) (x : (List (List Int) × Int) × Int) (r : Value) (w' : World) : Prop := ∃ u, r = .tuple #[u, .int .i64 x.1.2, .int .i64 x.2] ∧ RowsR (.new w w') w' u x.1.1
set_option maxRecDepth 20000 in
set_option maxHeartbeats 1000000 in
theorem l17First_c (w : World) (g : Nat) (A : Nat → Prop) (mk : MK) (v : Value) (limit most : Int) (st : SS) (vf : Value) (hS : SrchAt A g mk v limit most st vf w) {t : List (List Int)} (hok : SOk mk t limit st) (ht : SysOk mk t) :
    Calls Tryz.prog 101 #[.pointer (some ⟨g, 0, none⟩)] w (Ret w (FindR w (firstS st))) := by
  obtain ⟨tries, over, found⟩ := st
  obtain ⟨us, hul, hup, huf⟩ := hS.found
  have c8 := hS.c8
  have c9 := hS.c9
  have c10 := hS.c10
  simp only at hul hup huf c8 c9
  obtain ⟨b, n, cap, rfl, hn, -, hel⟩ := hup.shape
  cases found with
  | nil =>
    have hn0 : n = 0 := by simpa [hul] using hn
    subst hn0
    clear hS hup huf hel hn
    cases over with
    | true =>
      go_enter Tryz.func101, Tryz.ntmps101
      go_wp2_with fail
      go_ret3
      exact ⟨_, rfl, ⟨_, rfl, SliceR.nil _ _ _⟩, Ext.refl _⟩
    | false =>
      go_enter Tryz.func101, Tryz.ntmps101
      go_wp2_with fail
      go_ret3
      exact ⟨_, rfl, ⟨_, rfl, SliceR.nil _ _ _⟩, Ext.refl _⟩
  | cons x rest =>
    have hul' : us.length = rest.length + 1 := by simpa using hul
    obtain ⟨gb, rfl, -, hgb, hc0, -⟩ := hel 0 (by omega)
    have hx := huf 0 (by simp) (by omega)
    simp only [List.getElem_cons_zero] at hx
    have hgood := hok.cuts x (by simp)
    have hl10 := ht.len
    have hkl : ∀ k, k < x.length → (x.getD k []).length ≤ 1000 := fun k hk => by
      have e : x.getD k [] = x[k] := by simp [hk]
      rw [e]
      have := (hgood.key _ (List.getElem_mem hk)).len
      have := ht.mk1
      omega
    generalize us[0] = u0 at *
    obtain ⟨ax, nx, cx⟩ := u0
    rw [slV_mk] at hc0 hx
    have HC := Lib.hid (fun (w' : World) (e : Ext w w') => l15Lists_c w' _ _ x (stable_rows.ext hx.rows e) (by rw [hgood.len]; omega) hkl)
    have HCel : Hid (∀ w', Ext w w' → w'.cell? ⟨g, 8, none⟩ = some (.int .i64 tries) ∧ w'.cell? ⟨g, 10, none⟩ = some (.slice (some ⟨gb, 0, none⟩) n cap) ∧ w'.cell? ⟨gb, 0, none⟩ = some (.slice ax nx cx)) := fun w' e => ⟨e.cell c8, e.cell c10, e.cell hc0⟩
    have hn0 : 0 < n := by omega
    clear hS hup huf hel hn hul hul' hok hgood hl10 hkl hx ht
    go_enter Tryz.func101, Tryz.ntmps101
    go_wp2_with fail
    first | (go_region_held3 (fun w' => w'.cell? ⟨g, 8, none⟩ = some (.int .i64 tries) ∧ w'.cell? ⟨g, 10, none⟩ = some (.slice (some ⟨gb, 0, none⟩) n cap) ∧ w'.cell? ⟨gb, 0, none⟩ = some (.slice ax nx cx)) (exact HCel.out _ (by repeat (first | exact Ext.refl _ | assumption | (refine Ext.trans ?_ (Ext.alloc _ _)) | (refine Ext.trans ?_ (Ext.drew _)) | (refine Ext.trans ?_ (by assumption))))) (first | (go_at_call 137; (with_reducible refine (HC.out _ (by repeat (first | exact Ext.refl _ | assumption | (refine Ext.trans ?_ (Ext.alloc _ _)) | (refine Ext.trans ?_ (Ext.drew _)) | (refine Ext.trans ?_ (by assumption))))).mono ?_); rintro e w7 hr7; obtain ⟨r7, rfl, o7, e7⟩ := ret_ext hr7; clear hr7; obtain ⟨a7, n7, k7, rfl, -⟩ := OwnR.shape o7; have e77 : Ext w w7 := (by repeat (first | exact Ext.refl _ | assumption | (refine Ext.trans ?_ (Ext.alloc _ _)) | (refine Ext.trans ?_ (Ext.drew _)) | (refine Ext.trans ?_ (by assumption)))); have H7 : RowsR (.new w w7) w7 (.slice a7 n7 k7) x := by exact stable_rows.sub (OwnR.rows o7) ⟨fun k hk => ⟨Nat.le_trans (Ext.size (by repeat (first | exact Ext.refl _ | assumption | (refine Ext.trans ?_ (Ext.alloc _ _)) | (refine Ext.trans ?_ (Ext.drew _)) | (refine Ext.trans ?_ (by assumption))))) hk.1, hk.2⟩, fun h => h⟩) | fail)) | fail
    have H7' := Lib.hid H7
    clear o7
    go_wp2_with fail
    go_ret3
    exact ⟨_, rfl, ⟨_, rfl, H7'.out⟩, e77⟩
def findD (mk : MK) (t : List (List Int)) (limit : Int) : (List (List Int) × Int) × Int := if searchC mk t limit ≠ 0 then (([], 0), searchC mk t limit) else firstS (searchS mk t limit 1)
theorem findD_bad {mk : MK} {t : List (List Int)} {limit : Int} (h : searchC mk t limit ≠ 0) : findD mk t limit = (([], 0), searchC mk t limit) := by unfold findD; rw [if_pos h]
theorem findD_ok {mk : MK} {t : List (List Int)} {limit : Int} (h : searchC mk t limit = 0) : findD mk t limit = firstS (searchS mk t limit 1) := by unfold findD; rw [if_neg (by omega)]
theorem FindR.back {w w1 w' : World} {x : (List (List Int) × Int) × Int} {r : Value} (h : FindR w1 x r w') (e : Ext w w1) : FindR w x r w' := by
  obtain ⟨u, rfl, h⟩ := h
  exact ⟨u, rfl, stable_rows.sub h ⟨fun k hk => ⟨Nat.le_trans e.size hk.1, hk.2⟩, fun _ => rfl⟩⟩
set_option maxRecDepth 20000 in
set_option maxHeartbeats 1000000 in
theorem FindDesignSpec_c (w : World) (mk : MK) (v : Value) (z : Zone) (t : List (List Int)) (h : RowsR z w v t) (limit : Int) (hl : I64 limit) :
    Calls Tryz.prog 62 #[sysV mk v, .int .i64 limit] w (Ret w (FindR w (findD mk t limit))) := by
  have H1 : Hid (searchC mk t limit ≠ 0 → findD mk t limit = (([], 0), searchC mk t limit)) := findD_bad
  have H2 : Hid (searchC mk t limit = 0 → findD mk t limit = firstS (searchS mk t limit 1)) := findD_ok
  have HC1 := Lib.hid (fun (w' : World) (e : Ext w w') => l17Code_c w' mk v z t (stable_rows.ext h e) limit hl)
  have HC2 := Lib.hid (fun (h0 : searchC mk t limit = 0) (w' : World) (e : Ext w w') => l17Run_c w' mk v z t (stable_rows.ext h e) (searchC_zero h0).1 limit 1 (searchC_zero h0).2.1 (searchC_zero h0).2.2 (by omega) (by unfold I64; omega))
  have HC3 := Lib.hid (fun (h0 : searchC mk t limit = 0) (w' : World) (g : Nat) (A : Nat → Prop) (vf : Value) (hS : SrchAt A g mk v limit 1 (searchS mk t limit 1) vf w') => l17First_c w' g A mk v limit 1 _ vf hS (searchS_ok (searchC_zero h0).1 (searchC_zero h0).2.1) (sysOk (searchC_zero h0).1))
  generalize findD mk t limit = res at *
  generalize searchC mk t limit = rc at *
  generalize searchS mk t limit 1 = st at *
  obtain ⟨a, n, cap, rfl, -⟩ := SliceR.shape h
  clear h
  unfold sysV at *
  go_enter Tryz.func62, Tryz.ntmps62
  go_wp2_with fail
  generalize hw0 : World.alloc _ _ = w0
  obtain ⟨e0, S0⟩ := sys_box hw0
  clear hw0
  refine Calls.mono (HC1.out w0 e0) ?_
  rintro e w1 hr
  obtain ⟨r, rfl, rfl, e1⟩ := ret_ext hr
  clear hr HC1
  have et := e0.trans e1
  obtain ⟨c0, c1, c2, c3, c4, c5⟩ := S0.ext e1
  clear S0
  by_cases hd : rc = 0
  · have HH := Lib.hid (H2.out hd)
    have hcall := HC2.out hd w1 et
    have HC3' := Lib.hid (HC3.out hd)
    have hb0 : (rc != 0) = false := by rw [hd]; rfl
    clear hd H1 H2 HC2 HC3
    go_wp2_with fail
    refine Calls.mono hcall ?_
    rintro e w2 hr
    obtain ⟨r, rfl, ⟨g, A, vf, rfl, hS, -⟩, e2⟩ := ret_ext hr
    clear hr hcall
    have hcall := HC3'.out w2 g A vf hS
    clear hS HC3' c0 c1 c2 c3 c4 c5
    have HE := Lib.hid (et.trans e2)
    go_wp2_with fail
    refine Calls.mono hcall ?_
    rintro e w3 hr
    obtain ⟨r, rfl, hf, e3⟩ := ret_ext hr
    have HF := Lib.hid (hf.back HE.out)
    obtain ⟨u, rfl, -⟩ := hf
    clear hr hcall
    go_wp2_with fail
    go_ret3
    exact ⟨_, rfl, by rw [HH.out]; exact HF.out, HE.out.trans e3⟩
  · have HH := Lib.hid (H1.out hd)
    have hb0 : (rc != 0) = true := by rw [bne_iff_ne]; exact hd
    clear hd H1 H2 HC2 HC3
    go_wp2_with fail
    go_ret3
    exact ⟨_, rfl, by rw [HH.out]; exact ⟨_, rfl, SliceR.nil _ _ _⟩, et⟩
end Go.Proofs.YtkeikjedbfomnaaGreatDoor
