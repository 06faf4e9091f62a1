/- Proved: the table of ghosts, the program. -/
import Derived.Test.YthgmojggpjnckaaGreatChecked
import Derived.Deep.RegionHeld3
import Derived.Laws.EntriesVeiled
import Derived.Test.YthgmojggpjnckaaGreatUGhostEach
import Derived.Test.YthgmojggpjnckaaGreatUPkD
import Derived.Test.YthgmojggpjnckaaGreatUPkL
import Derived.Test.YthgmojggpjnckaaGreatUPkE
namespace Go.Proofs.YthgmojggpjnckaaGreat
open Go.ChangeShapes Go.WideShapes Go.ChangeAt Go.RowKit
set_option linter.unusedVariables false

theorem visitOut {b g n : Nat} {ls : List (List (List Int))} {cuts : List (List Int)} {w4 : World} {F0 : Nat → Prop} {c : Nat} (hn : ls.length = n) (h12 : n ≤ 12) (hlk : ∀ d, d < ls.length → (ls.getD d []).length = c)
    {b4 b5 b6 : Nat} {u vl : Value} {y zl : Zone} (hc : RowsR y w4 u cuts) (hL : LocksR zl w4 vl ls) (c4 : w4.cell? ⟨b4, 0, none⟩ = some u) (c5 : w4.cell? ⟨b5, 0, none⟩ = some (.func (.func 96) #[] #[.pointer (some ⟨b, 0, none⟩)])) (c6 : w4.cell? ⟨b6, 0, none⟩ = some vl)
    (hy : ∀ k, y.Has k → ¬ F0 k) (hzl : ∀ k, zl.Has k → ¬ F0 k) (n4 : ¬ F0 b4) (n5 : ¬ F0 b5) (n6 : ¬ F0 b6) :
    VisitK 128 #[.pointer (some ⟨b4, 0, none⟩), .pointer (some ⟨b5, 0, none⟩), .pointer (some ⟨b6, 0, none⟩)] w4 F0 (GAt b g n) (fun s k => if (!hasL cuts k) = true then ghostStep ls s k else s) (fun s k => !(!hasL cuts k) || ghostMore s k) (fun k => k.length = c) where
  goes := Tryz.goesOutsider1
  keep := fun h hk hs => h.keep hk hs
  fresh := fun h => h.lt
  call := by
    intro F s W v z key hI hF K hk _ hok
    have q4 := World.block_lt_of_cell? _ _ c4
    have q5 := World.block_lt_of_cell? _ _ c5
    have q6 := World.block_lt_of_cell? _ _ c6
    have hno : ∀ j, j < w4.heap.size → ¬ F0 j → ¬ F j := fun j hj hn hf => (hF j hf).elim hn (fun q => by omega)
    refine (outsider1_c W hI hn h12 (K.read stable_rows hc hy) (K.read stable_locks hL hzl) (K.cell n4 c4) (K.cell n5 c5) (K.cell n6 c6) (hno b4 q4 n4) (hno b5 q5 n5) (hno b6 q6 n6) v z key hk (fun d hd => by rw [hlk d hd, hok])).mono ?_
    rintro e w' ⟨rfl, hG, hFr⟩
    exact ⟨by unfold ghostMore; rw [Bool.or_true], F, hG, fun k hk => .inl hk, hFr⟩

set_option maxRecDepth 20000 in
set_option maxHeartbeats 2000000 in
theorem eachOutsider_c {b g n : Nat} {F0 : Nat → Prop} {s : List Int} (w : World) (mk : MK) (v : Value) (z : Zone) (t : List (List Int)) (h : RowsR z w v t) (u : Value) (y : Zone) (cuts : List (List Int)) (hc : RowsR y w u cuts) (ok : PartOk mk t cuts) (okm : MkOk mk) (hn : doorsOf t = n) (hI : GAt b g n F0 s w) (hy : ∀ k, y.Has k → ¬ F0 k) :
    Calls Tryz.prog 95 #[sysV mk v, u, .func (.func 96) #[] #[.pointer (some ⟨b, 0, none⟩)]] w (EachEnd (GAt b g n) F0 w (visits (ghostStep (locks mk t cuts)) ghostMore s ((allK mk).filter fun k => !hasL cuts k)).1) := by
  have hfr := hI.lt
  have hnf : ∀ k, w.heap.size ≤ k → ¬ F0 k := fun k hk hf => by have := hfr k hf; omega
  have hll := locks_len mk t cuts
  have hdr := ok.doors
  have HC1 := Lib.hid (fun (w' : World) (e : Ext w w') => partLocks_c w' mk v z t (stable_rows.ext h e) u y cuts (stable_rows.ext hc e) ok)
  have HV := Lib.hid (fun (w4 : World) (e4 : Ext w w4) (b4 b5 b6 : Nat) (vl : Value) (zl : Zone) (hL : LocksR zl w4 vl (locks mk t cuts)) (c4 : w4.cell? ⟨b4, 0, none⟩ = some u) (c5 : w4.cell? ⟨b5, 0, none⟩ = some (.func (.func 96) #[] #[.pointer (some ⟨b, 0, none⟩)])) (c6 : w4.cell? ⟨b6, 0, none⟩ = some vl) (hzl : ∀ k, zl.Has k → ¬ F0 k) (k4 : w.heap.size ≤ b4) (k5 : w.heap.size ≤ b5) (k6 : w.heap.size ≤ b6) =>
    eachKeyK_c (visitOut (g := g) (F0 := F0) (c := mk.c.toNat) (by rw [hll, hn]) (by omega) (fun d hd => lock_len (by rw [← hll]; exact hd)) (stable_rows.ext hc e4) hL c4 c5 c6 hy hzl (hnf b4 k4) (hnf b5 k5) (hnf b6 k6)) mk okm (fun k hk => (allK_mem hk).1) s (hI.keep (fun k hk => Below.block e4 k (hfr k hk)) e4.size))
  have HVF := Lib.hid (visits_filter (step := ghostStep (locks mk t cuts)) (more := ghostMore) (p := fun k => !hasL cuts k) (allK mk) s)
  have HNF := Lib.hid hnf
  obtain ⟨a, n1, cap, rfl, -⟩ := SliceR.shape h
  obtain ⟨a2, n2, cap2, rfl, -⟩ := SliceR.shape hc
  clear h hc ok hfr hnf hI hy hll hdr hn
  have hGo := Tryz.goesOutsider1
  unfold Goes at hGo
  unfold sysV MK.v at *
  go_enter Tryz.func95, Tryz.ntmps95
  go_wp2_with fail
  generalize hw0 : World.alloc (World.alloc (World.alloc _ _) _) _ = w0
  obtain ⟨e0, S0, c4, c5⟩ : Ext w w0 ∧ SysAt w0 w.heap.size mk (.slice a n1 cap) ∧ w0.cell? ⟨w.heap.size + 1, 0, none⟩ = some (.slice a2 n2 cap2) ∧ w0.cell? ⟨w.heap.size + 1 + 1, 0, none⟩ = some (.func (.func 96) #[] #[.pointer (some ⟨b, 0, none⟩)]) := by
    subst hw0
    refine ⟨((Ext.alloc _ _).trans (Ext.alloc _ _)).trans (Ext.alloc _ _), ⟨?_, ?_, ?_, ?_, ?_, ?_⟩, ?_, ?_⟩
    all_goals (clear HC1 HV HVF HNF; go_simp; done)
  clear hw0
  have HS := Lib.hid S0
  have H4 := Lib.hid c4
  have H5 := Lib.hid c5
  obtain ⟨c0, c1, c2, c3, cc4, cc5⟩ := S0
  go_wp2_with fail
  refine Calls.mono (HC1.out w0 e0) ?_
  rintro e w1 hr
  obtain ⟨r, rfl, hL, e1⟩ := ret_ext hr
  clear hr c0 c1 c2 c3 c4 c5 cc4 cc5
  have et1 := e0.trans e1
  have HL := Lib.hid hL
  obtain ⟨la, ln, lc, rfl, -⟩ := SliceR.shape hL
  clear hL
  go_upto_region 2 with fail
  generalize hw4 : World.alloc w1 _ = w4
  obtain ⟨e4, c6⟩ : Ext w1 w4 ∧ w4.cell? ⟨w1.heap.size, 0, none⟩ = some (.slice la ln lc) := by
    subst hw4
    exact ⟨Ext.alloc _ _, by go_simp⟩
  clear hw4
  have e14 := e1.trans e4
  have et4 := et1.trans e4
  obtain ⟨c0, c1, c2, c3, cc4, cc5⟩ := HS.out.ext e14
  have c4 := e14.cell H4.out
  have c5 := e14.cell H5.out
  have hcall := HV.out w4 et4 (w.heap.size + 1) (w.heap.size + 1 + 1) w1.heap.size _ _ (stable_locks.ext HL.out e4) c4 c5 c6 (fun k hk => HNF.out k (Nat.le_trans e0.size hk.1)) (by omega) (by omega) et1.size
  rw [HVF.out] at hcall
  clear c4 c5 c6 HV HVF HC1 HL
  go_wp2_with fail
  refine Calls.mono hcall ?_
  rintro e w5 ⟨rfl, F5, i5, g5, f5⟩
  have HR : Hid (EachEnd (GAt b g n) F0 w (visits (ghostStep (locks mk t cuts)) ghostMore s ((allK mk).filter fun k => !hasL cuts k)).1 (.returned (.tuple #[])) w5) := ⟨rfl, F5, i5, fun k hk => (g5 k hk).elim .inl (fun q => .inr (Nat.le_trans et4.size q)), Frame.trans (Frame.of_ext (F := F0) et4) f5 (fun i hi _ => hi)⟩
  clear hcall i5 g5 f5 c0 c1 c2 c3 cc4 cc5
  go_wp2_with fail
  go_end0
  exact HR.out

theorem ghost_new {w2 w3 : World} {g n : Nat} (hg : g < w2.heap.size) (h3 : w3 = w2.alloc (.cells #[.slice (some ⟨g, 0, none⟩) n n] 41)) (ho : OwnP (Value.int .i64) 2 0 w2 (.slice (some ⟨g, 0, none⟩) n n) (List.replicate n 0)) :
    GAt w2.heap.size g n (fun k => k = w2.heap.size ∨ k = g) (List.replicate n 0) w3 := by
  subst h3
  have hs : (w2.alloc (.cells #[.slice (some ⟨g, 0, none⟩) n n] 41)).heap.size = w2.heap.size + 1 := by simp
  refine ⟨by simp, ho.alloc _, fun x hx => by rw [List.eq_of_mem_replicate hx]; unfold I64; omega, ⟨.inl rfl, .inr rfl, by omega⟩, fun k hk => ?_⟩
  rcases hk with hk | hk <;> omega

set_option maxRecDepth 20000 in
set_option maxHeartbeats 2000000 in
theorem GhostTable_c (w : World) (mk : MK) (v : Value) (z : Zone) (t : List (List Int)) (h : RowsR z w v t) (u : Value) (y : Zone) (cuts : List (List Int)) (hc : RowsR y w u cuts) (hyw : y.hi ≤ w.heap.size) :
    Calls Tryz.prog 42 #[sysV mk v, u] w (Ret w (IntsCode w (ghostTab mk t cuts))) := by
  have H1 : Hid (designCode mk t cuts ≠ 0 → ghostTab mk t cuts = ([], designCode mk t cuts)) := ghostTab_bad
  have H2 : Hid (designCode mk t cuts = 0 → ghostTab mk t cuts = (ghosts mk t cuts, 0)) := ghostTab_ok
  have HC1 := Lib.hid (fun (w' : World) (e : Ext w w') => designCode_c w' mk v z t (stable_rows.ext h e) u y cuts (stable_rows.ext hc e))
  have HE : Hid (designCode mk t cuts = 0 → ∀ (w3 : World) (b g : Nat) (e : Ext w w3), w.heap.size ≤ b → w.heap.size ≤ g → GAt b g (doorsOf t) (fun k => k = b ∨ k = g) (List.replicate (doorsOf t) 0) w3 → Calls Tryz.prog 95 #[sysV mk v, u, .func (.func 96) #[] #[.pointer (some ⟨b, 0, none⟩)]] w3 (EachEnd (GAt b g (doorsOf t)) (fun k => k = b ∨ k = g) w3 (ghosts mk t cuts))) := fun h0 w3 b g e hb hg hI => by
    have ok := designCode_zero h0
    have okm := mkOk (sysMaker ok.sys)
    have := eachOutsider_c w3 mk v z t (stable_rows.ext h e) u y cuts (stable_rows.ext hc e) ok.toPartOk okm rfl hI (fun k hk hF => by have := hk.2; rcases hF with q | q <;> omega)
    have hl := locks_len mk t cuts
    have h8 := allK_length okm
    have h9 := List.length_filter_le (fun k => !hasL cuts k) (allK mk)
    rw [← hl, ← cntOf_nil, visits_ghost _ [] (by simp; omega), List.nil_append, cntOf_ghosts, hl] at this
    exact this
  have HD : Hid (designCode mk t cuts = 0 → (1 ≤ t.length ∧ t.length ≤ 10) ∧ 1 ≤ doorsOf t ∧ doorsOf t ≤ 12) := fun h => ⟨(designCode_zero h).len, (designCode_zero h).doors⟩
  generalize ghostTab mk t cuts = res at *
  generalize ghosts mk t cuts = gs at *
  generalize designCode mk t cuts = dc at *
  obtain ⟨a, n, cap, rfl, hn, -⟩ := SliceR.shape h
  obtain ⟨a2, n2, cap2, rfl, -⟩ := SliceR.shape hc
  have HRow : Hid (0 < n → ∃ b off, a = some ⟨b, off, none⟩ ∧ ∃ a0 cp, doorsOf t ≤ 9223372036854775807 ∧ ∀ w', Ext w w' → w'.cell? ⟨b, off, none⟩ = some (.slice a0 (doorsOf t) cp)) := fun hn0 => by
    obtain ⟨b, off, rfl, a0, m, cp, hm0, hmm, -, hc0, -⟩ := rows_at h hn0
    have e : m = doorsOf t := hm0
    subst e
    exact ⟨b, off, rfl, a0, cp, hmm, fun w' e => hc0 w' e⟩
  have Hn := Lib.hid hn
  clear h hc hn hyw
  have hGo := Tryz.goesGhost1
  unfold Goes at hGo
  unfold sysV at *
  go_enter Tryz.func42, Tryz.ntmps42
  go_wp2_with fail
  generalize hw0 : World.alloc _ _ = w0
  obtain ⟨e0, S0⟩ := sys_box hw0
  clear hw0
  refine Calls.mono (HC1.out w0 e0) ?_
  rintro e w1 hr
  obtain ⟨r, rfl, rfl, e1⟩ := ret_ext hr
  clear hr HC1
  have et := e0.trans e1
  have HSy := Lib.hid (S0.ext e1)
  clear S0
  obtain ⟨c0, c1, c2, c3, c4, c5⟩ := HSy.out
  by_cases hd : dc = 0
  · have HH := Lib.hid (H2.out hd)
    have hb0 : (dc != 0) = false := by rw [hd]; rfl
    have HE' := Lib.hid (HE.out hd)
    obtain ⟨hdl, hdd⟩ := HD.out hd
    have hn0 : 0 < n := by rw [Hn.out]; omega
    obtain ⟨b, off, rfl, a0, cp, hmm, hrow⟩ := HRow.out hn0
    have HRw := Lib.hid hrow
    have hrw := hrow w1 et
    clear hd H1 H2 HE HD HRow hrow
    generalize doorsOf t = m at *
    go_upto_region 5 with (at_make; refine wpList_makeP rfl _ _ 41 rfl 2 w1.heap.size (Value.int .i64) 0 8 Tryz.underlying41 Tryz.infoI64 rfl m rfl rfl (by omega) (by omega) (Nat.le_refl _) ?_; intro w2 o2 e2 hs2)
    have hI := ghost_new (w2 := w2) (g := w1.heap.size) (n := m) (by omega) rfl (o2.lower (Nat.zero_le _))
    have e3 : Ext w2 (w2.alloc (.cells #[.slice (some ⟨w1.heap.size, 0, none⟩) m m] 41)) := Ext.alloc _ _
    generalize hw3 : w2.alloc _ = w3 at hI e3 ⊢
    have e13 : Ext w1 w3 := Ext.trans e2 e3
    have hcall := HE'.out w3 w2.heap.size w1.heap.size (et.trans e13) (by have := et.size; omega) et.size hI
    rw [hs2] at hcall
    clear hs2 hw3 c0 c1 c2 c3 c4 c5 hrw hI o2
    obtain ⟨c0, c1, c2, c3, c4, c5⟩ := HSy.out.ext e13
    go_wp2_with fail
    refine Calls.mono hcall ?_
    rintro e w4 ⟨rfl, F', i4, g4, f4⟩
    have hc4 := i4.cell
    have hse := et.size
    have HX : Hid (Ext w w4) := (Frame.trans (Frame.of_ext (F := fun k => k = w1.heap.size + 1 ∨ k = w1.heap.size) (et.trans e13)) f4 (fun i hi _ => hi)).below (B := w.heap.size) (fun k hk => by rcases hk with hk | hk <;> omega) (Nat.le_refl _)
    have HO : Hid (OwnP (Value.int .i64) 2 w.heap.size w4 (.slice (some ⟨w1.heap.size, 0, none⟩) m m) gs) := i4.own.raise (fun k hk => by
      have h1 : w1.heap.size = k := by injection hk
      omega)
    have HI := Lib.hid i4.i64
    clear hcall i4 g4 f4 c0 c1 c2 c3 c4 c5
    go_wp2_with fail
    go_ret2
    exact ⟨_, rfl, IntsCode_own HH.out HO.out HI.out, HX.out⟩
  · have HH := Lib.hid (H1.out hd)
    have hb0 : (dc != 0) = true := by rw [bne_iff_ne]; exact hd
    clear hd H1 H2 HE HD HRow
    go_wp2_with fail
    go_ret2
    exact ⟨_, rfl, IntsCode_nil HH.out, et⟩
end Go.Proofs.YthgmojggpjnckaaGreat
