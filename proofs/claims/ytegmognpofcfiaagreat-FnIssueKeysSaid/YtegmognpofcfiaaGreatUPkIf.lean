/- Proved: the key that changes the fewest doors (plain); DoorsOpened, the program; the keys that can be issued, and the easiest of them (plain). -/
import Derived.Test.YtegmognpofcfiaaGreatChecked
import Derived.Test.YtegmognpofcfiaaGreatUIssueLaw
import Derived.Test.YtegmognpofcfiaaGreatUChanged
import Derived.Test.YtegmognpofcfiaaGreatUEachLaw
namespace Go.Proofs.YtegmognpofcfiaaGreat
open Go.ChangeShapes Go.WideShapes Go.ChangeAt Go.RowKit
set_option linter.unusedVariables false

def easStep (f : List Int → Nat) (s : Option (List Int)) (k : List Int) : Option (List Int) := match s with
  | none => some k
  | some b => if f k < f b then some k else some b
def easL (f : List Int → Nat) (L : List (List Int)) : Option (List Int) := L.foldl (easStep f) none
theorem easL_snoc (f : List Int → Nat) (L : List (List Int)) (k : List Int) : easL f (L ++ [k]) = easStep f (easL f L) k := by unfold easL; rw [List.foldl_append]; rfl
theorem easL_none {f : List Int → Nat} : ∀ {L : List (List Int)}, easL f L = none ↔ L = [] := by
  intro L
  constructor
  · intro h
    rcases List.eq_nil_or_concat L with e | ⟨L', k, e⟩
    · exact e
    · rw [e, List.concat_eq_append, easL_snoc] at h
      unfold easStep at h
      split at h
      · cases h
      · split at h <;> cases h
  · rintro rfl; rfl
theorem visits_all {σ : Type} {step : σ → List Int → σ} : ∀ (L : List (List Int)) (s : σ), (visits step (fun _ _ => true) s L).1 = L.foldl step s
  | [], s => rfl
  | k :: L, s => by
    have e1 : visits step (fun _ _ => true) s (k :: L) = visits step (fun _ _ => true) (step s k) L := rfl
    rw [e1, visits_all L]; rfl
/-- how many doors a key changes -/
def changes (mk : MK) (t cuts : List (List Int)) (row key : List Int) : Nat := (changedB (locks mk t cuts) row key (doorsOf t)).length
def easiest (mk : MK) (t cuts : List (List Int)) (row : List Int) : List Int × Int × Int :=
  if rowCode mk t cuts row [] ≠ 0 then ([], 0, rowCode mk t cuts row []) else match easL (changes mk t cuts row) ((allK mk).filter (stays mk (t ++ [row]) cuts)) with
  | none => ([], 0, 4)
  | some b => (b, (changes mk t cuts row b : Int), 0)
theorem easiest_bad {mk : MK} {t cuts : List (List Int)} {row : List Int} (h : rowCode mk t cuts row [] ≠ 0) : easiest mk t cuts row = ([], 0, rowCode mk t cuts row []) := by unfold easiest; rw [if_pos h]
theorem easiest_none {mk : MK} {t cuts : List (List Int)} {row : List Int} (h : rowCode mk t cuts row [] = 0) (h2 : easL (changes mk t cuts row) ((allK mk).filter (stays mk (t ++ [row]) cuts)) = none) : easiest mk t cuts row = ([], 0, 4) := by unfold easiest; rw [if_neg (by omega), h2]
theorem easiest_some {mk : MK} {t cuts : List (List Int)} {row b : List Int} (h : rowCode mk t cuts row [] = 0) (h2 : easL (changes mk t cuts row) ((allK mk).filter (stays mk (t ++ [row]) cuts)) = some b) : easiest mk t cuts row = (b, (changes mk t cuts row b : Int), 0) := by unfold easiest; rw [if_neg (by omega), h2]
theorem changes_le (mk : MK) (t cuts : List (List Int)) (row key : List Int) : changes mk t cuts row key ≤ doorsOf t := upto_length _ _
theorem easFold_mem {f : List Int → Nat} : ∀ (L : List (List Int)) (s : Option (List Int)) {b : List Int}, L.foldl (easStep f) s = some b → s = some b ∨ b ∈ L
  | [], s, b, h => .inl h
  | k :: L, s, b, h => by
    rw [List.foldl_cons] at h
    rcases easFold_mem L _ h with h | h
    · unfold easStep at h
      split at h
      · injection h with h; exact .inr (by rw [h]; exact List.mem_cons_self ..)
      · split at h
        · injection h with h; exact .inr (by rw [h]; exact List.mem_cons_self ..)
        · exact .inl h
    · exact .inr (List.mem_cons_of_mem _ h)
theorem easL_mem {f : List Int → Nat} {L : List (List Int)} {b : List Int} (h : easL f L = some b) : b ∈ L := (easFold_mem L none h).elim (fun h => by cases h) id
/-- all candidates -/
theorem candL_all {mk : MK} (ok : MkOk mk) {p : List Int → Bool} : candL mk p 1000000 = (allK mk).filter p := by
  unfold candL
  rw [List.take_of_length_le]
  have h1 := List.length_filter_le p (allK mk)
  have h2 := allK_length ok
  have : (1000000 : Int).toNat = 1000000 := rfl
  omega

open Go.ChangeShapes Go.WideShapes Go.ChangeAt Go.RowKit
set_option linter.unusedVariables false

def openP (ls : List (List (List Int))) (key : List Int) (d : Int) : Bool := opensB (ls.getD d.toNat []) key
def openedB (ls : List (List (List Int))) (key : List Int) (n : Nat) : List Int := upto (openP ls key) n
def openedOf (mk : MK) (t cuts : List (List Int)) (key : List Int) : List Int × Int := if designCode mk t cuts ≠ 0 then ([], designCode mk t cuts) else if isKeyB mk key = true then (openedB (locks mk t cuts) key (doorsOf t), 0) else ([], 2)
theorem openedOf_bad {mk : MK} {t cuts : List (List Int)} {key : List Int} (h : designCode mk t cuts ≠ 0) : openedOf mk t cuts key = ([], designCode mk t cuts) := by unfold openedOf; rw [if_pos h]
theorem openedOf_key {mk : MK} {t cuts : List (List Int)} {key : List Int} (h : designCode mk t cuts = 0) (hk : isKeyB mk key = false) : openedOf mk t cuts key = ([], 2) := by unfold openedOf; rw [if_neg (by omega), if_neg (by rw [hk]; decide)]
theorem openedOf_ok {mk : MK} {t cuts : List (List Int)} {key : List Int} (h : designCode mk t cuts = 0) (hk : isKeyB mk key = true) : openedOf mk t cuts key = (openedB (locks mk t cuts) key (doorsOf t), 0) := by unfold openedOf; rw [if_neg (by omega), if_pos hk]
theorem opened_i64 {ls : List (List (List Int))} {key : List Int} {n : Nat} (h : n ≤ 12) : ∀ x ∈ openedB ls key n, I64 x := upto_i64 (by omega)
theorem rowCode_isKey {mk : MK} {t cuts : List (List Int)} {row key : List Int} (h : rowCode mk t cuts row [key] = 0) : isKeyB mk key = true := by
  by_cases h1 : designCode mk t cuts = 0
  · cases h2 : (rowOk t row && areKeysB mk [key]) with
    | false => rw [rowCode_range h1 h2] at h; omega
    | true =>
      have := (Bool.and_eq_true_iff.1 h2).2
      unfold areKeysB at this
      simpa using this
  · rw [rowCode_bad h1] at h; exact absurd h h1
theorem design_m {mk : MK} {t cuts : List (List Int)} (h : designCode mk t cuts = 0) : 0 ≤ mk.m := by
  have hs := (designCode_zero h).sys
  unfold isSystem at hs
  have := (isMaker_iff.1 (Bool.and_eq_true_iff.1 hs).1).2.2.2.1.1
  omega
theorem rowCode_code {mk : MK} {t cuts : List (List Int)} {row : List Int} {keys : List (List Int)} (h : rowCode mk t cuts row keys = 0) : designCode mk t cuts = 0 := by
  by_cases h1 : designCode mk t cuts = 0
  · exact h1
  · rw [rowCode_bad h1] at h; exact absurd h h1

set_option maxRecDepth 20000 in
set_option maxHeartbeats 1000000 in
theorem doorsOpened_c (w : World) (v : Value) (z : Zone) (ls : List (List (List Int))) (h : LocksR z w v ls) (v3 : Value) (z3 : Zone) (key : List Int) (hk : IntsR z3 w v3 key) (h12 : ls.length ≤ 12) (hlk : ∀ d, d < ls.length → (ls.getD d []).length = key.length) :
    Calls Tryz.prog 109 #[v, v3] w (Ret w fun r w' => OwnP (Value.int .i64) 2 w.heap.size w' r (openedB ls key ls.length)) := by
  have HO := Lib.hid (fun (w' : World) (e : Ext w w') (v : Value) (z : Zone) (l : List (List Int)) (h : RowsR z w' v l) (hl : key.length ≤ l.length) => opens_c w' v z l h v3 z3 key (stable_ints.ext hk e) hl)
  have HP : Hid (∀ d : Nat, openP ls key (d : Int) = opensB (ls.getD d []) key) := fun d => rfl
  have HU1 := Lib.hid (fun (k : Nat) (h : openP ls key k = true) => upto_yes h)
  have HU2 := Lib.hid (fun (k : Nat) (h : openP ls key k = false) => upto_no h)
  have HUL := Lib.hid (fun (k : Nat) => upto_length (openP ls key) k)
  have H0 : Hid (upto (openP ls key) 0 = []) := rfl
  have HE : Hid (openedB ls key ls.length = upto (openP ls key) ls.length) := rfl
  generalize openedB ls key ls.length = res at *
  generalize upto (openP ls key) = uT at *
  generalize openP ls key = p at *
  obtain ⟨a, n, cap, rfl, hn, hmax, -⟩ := SliceR.shape h
  obtain ⟨a3, n3, cap3, rfl, -⟩ := SliceR.shape hk
  have HLA := Lib.hid (fun (k : Nat) (hk : k < n) => locks_at h hk)
  have Hn : Hid (n = ls.length) := hn
  have HLK := Lib.hid hlk
  have hn12 : n ≤ 12 := by omega
  clear hn h hk h12 hlk
  go_enter Tryz.func109, Tryz.ntmps109
  go_wp2_with fail
  generalize hw1 : World.alloc _ _ = w1
  obtain ⟨e1, o1⟩ : Ext w w1 ∧ OwnP (Value.int .i64) 2 w.heap.size w1 (.slice (some ⟨w.heap.size, 0, none⟩) 0 0) [] := by
    subst hw1
    exact ⟨Ext.alloc _ _, OwnP.empty (Nat.le_refl _)⟩
  clear hw1
  go_loopw [5, 6, 7, 11] (fun s5 _ _ s11 wr => ∃ k : Nat, k ≤ n ∧ s11 = .int .i64 k ∧ OwnP (Value.int .i64) 2 w.heap.size wr s5 (uT k) ∧ Ext w wr) (fun _ _ _ s11 _ => n - (intOf s11).toNat)
  case atStart => exact ⟨0, Nat.zero_le _, rfl, by rw [H0.out]; exact o1, e1⟩
  case round =>
    obtain ⟨k, hk, rfl, own, ew⟩ := hrel
    have hsz := ew.size
    by_cases hlt : k < n
    · obtain ⟨bl, ol, rfl, b3, m3, k3, hm3, hcl, yl, -, hyl⟩ := HLA.out k hlt
      have hcl' := hcl wr ew
      have hcall := fun (wx : World) (ex : Ext wr wx) => HO.out wx (ew.trans ex) _ _ _ (hyl wx (ew.trans ex)) (by rw [HLK.out k (by rw [← Hn.out]; exact hlt)]; exact Nat.le_refl _)
      have HCl := Lib.hid hcall
      have HPk := Lib.hid (HP.out k)
      have HU1k := Lib.hid (HU1.out k)
      have HU2k := Lib.hid (HU2.out k)
      have hul := HUL.out k
      clear hcl hyl hm3 hcall
      generalize opensB (ls.getD k []) key = q at *
      generalize hup : uT k = up at *
      clear hup
      go_wp2_with fail
      generalize hwx : World.alloc wr _ = wx
      have ex : Ext wr wx := by rw [← hwx]; exact Ext.alloc _ _
      clear hwx
      refine Calls.mono (HCl.out wx ex) ?_
      rintro e w7 hr
      obtain ⟨r, rfl, rfl, e7'⟩ := ret_ext hr
      have e7 := ex.trans e7'
      clear hr ex e7'
      have o7 := own.ext e7
      have z7 := e7.size
      clear own
      cases q with
      | false =>
        have HV := Lib.hid (HU2k.out HPk.out)
        go_wp2_with fail
        go_roundw
        case rel => exact ⟨k+1, by omega, by go_num, by rw [HV.out]; exact o7, ew.trans e7⟩
        case measure => simp [intOf]; omega
      | true =>
        have HV := Lib.hid (HU1k.out HPk.out)
        go_wp2_with (at_builtin; (refine wpList_append1 (f := Value.int .i64) (e := 2) (B := w.heap.size) (xs := up) rfl _ _ 29 rfl 0 8 Tryz.underlying29 Tryz.infoI64 rfl (fun _ => rfl) rfl o7 (k : Int) rfl (by omega) (by omega) (by omega) ?_); intro v8 w8 hown8 hg8 hb8)
        go_roundw
        case rel => exact ⟨k+1, by omega, by go_num, by rw [HV.out]; exact hown8, (ew.trans e7).to' hb8⟩
        case measure => simp [intOf]; omega
    · have HV : Hid (uT k = res) := by show _ = _; rw [HE.out, ← Hn.out]; congr 1; omega
      go_wp2_with fail
      go_ret
      exact ⟨_, rfl, by rw [← HV.out]; exact own, ew⟩

set_option maxRecDepth 20000 in
set_option maxHeartbeats 1000000 in
theorem DoorsOpened_c (w : World) (mk : MK) (v : Value) (z : Zone) (t : List (List Int)) (h : RowsR z w v t) (u : Value) (y : Zone) (cuts : List (List Int)) (hc : RowsR y w u cuts) (v4 : Value) (z4 : Zone) (key : List Int) (hk : IntsR z4 w v4 key) :
    Calls Tryz.prog 25 #[sysV mk v, u, v4] w (Ret w (IntsCode w (openedOf mk t cuts key))) := by
  have H1 : Hid (designCode mk t cuts ≠ 0 → openedOf mk t cuts key = ([], designCode mk t cuts)) := openedOf_bad
  have H2 : Hid (designCode mk t cuts = 0 → isKeyB mk key = false → openedOf mk t cuts key = ([], 2)) := openedOf_key
  have H3 : Hid (designCode mk t cuts = 0 → isKeyB mk key = true → openedOf mk t cuts key = (openedB (locks mk t cuts) key (doorsOf t), 0)) := openedOf_ok
  have HC1 := Lib.hid (fun (w' : World) (e : Ext w w') => designCode_c w' mk v z t (stable_rows.ext h e) u y cuts (stable_rows.ext hc e))
  have HCK := Lib.hid (fun (h0 : designCode mk t cuts = 0) (w' : World) (e : Ext w w') => isKey_c w' mk (designCode_zero h0).mk2 (design_m h0) v4 z4 key (stable_ints.ext hk e))
  have HC2 := Lib.hid (fun (h0 : designCode mk t cuts = 0) (w' : World) (e : Ext w w') => partLocks_c w' mk v z t (stable_rows.ext h e) u y cuts (stable_rows.ext hc e) (designCode_zero h0).toPartOk)
  have HC3 : Hid (designCode mk t cuts = 0 → isKeyB mk key = true → ∀ (w' : World) (x : Value) (zx : Zone), Ext w w' → LocksR zx w' x (locks mk t cuts) → Calls Tryz.prog 109 #[x, v4] w' (Ret w' fun r w'' => OwnP (Value.int .i64) 2 w'.heap.size w'' r (openedB (locks mk t cuts) key (doorsOf t)))) := fun h0 hkb w' x zx e g => by
    have ok := designCode_zero h0
    have hl := locks_len mk t cuts
    have hkl := (keyOk hkb).len
    have := doorsOpened_c w' x zx _ g v4 z4 key (stable_ints.ext hk e) (by rw [hl]; exact ok.doors.2) (fun d hd => by rw [hl] at hd; rw [lock_len hd]; omega)
    rwa [hl] at this
  have HI : Hid (designCode mk t cuts = 0 → ∀ x ∈ openedB (locks mk t cuts) key (doorsOf t), I64 x) := fun h0 => opened_i64 (designCode_zero h0).doors.2
  generalize openedOf mk t cuts key = res at *
  generalize isKeyB mk key = kb at *
  generalize designCode mk t cuts = rc at *
  obtain ⟨a, n, cap, rfl, -⟩ := SliceR.shape h
  obtain ⟨a2, n2, cap2, rfl, -⟩ := SliceR.shape hc
  obtain ⟨a4, n4, cap4, rfl, -⟩ := SliceR.shape hk
  clear h hc hk
  unfold sysV MK.v at *
  go_enter Tryz.func25, Tryz.ntmps25
  go_wp2_with fail
  generalize hwb : World.alloc w _ = w0
  obtain ⟨e0, Sb⟩ := sys_box hwb
  clear hwb
  have HS := Lib.hid Sb
  clear Sb
  refine Calls.mono (HC1.out w0 e0) ?_
  rintro e w1 hr
  obtain ⟨r, rfl, rfl, e1⟩ := ret_ext hr
  clear hr
  have et := e0.trans e1
  obtain ⟨c0, c1, c2, c3, c4, c5⟩ := HS.out.all e1
  by_cases hd : rc = 0
  · have hb : (rc != 0) = false := by rw [hd]; rfl
    have hcall := HCK.out hd w1 et
    have H2' := Lib.hid (H2.out hd)
    have H3' := Lib.hid (H3.out hd)
    have HI' := Lib.hid (HI.out hd)
    have HC2' := Lib.hid (HC2.out hd)
    have HC3' := Lib.hid (HC3.out hd)
    clear hd H1 H2 H3 HI HCK HC1 HC2 HC3
    go_wp2_with fail
    refine Calls.mono hcall ?_
    rintro e w2 hr
    obtain ⟨r, rfl, rfl, e2⟩ := ret_ext hr
    clear hr hcall c0 c1 c2 c3 c4 c5
    have et2 := et.trans e2
    obtain ⟨c0, c1, c2, c3, c4, c5⟩ := HS.out.all (e1.trans e2)
    cases kb with
    | false =>
      have HH := Lib.hid (H2'.out rfl)
      go_wp2_with fail
      go_ret2
      exact ⟨_, rfl, IntsCode_nil HH.out, et2⟩
    | true =>
      have HH := Lib.hid (H3'.out rfl)
      have hcall := HC2'.out w2 et2
      have HC4 := Lib.hid (HC3'.out rfl)
      go_wp2_with fail
      refine Calls.mono hcall ?_
      rintro e w3 hr
      obtain ⟨r, rfl, hL, e3⟩ := ret_ext hr
      clear hr hcall
      have et3 := et2.trans e3
      have hcall := HC4.out w3 _ _ et3 hL
      obtain ⟨la, ln, lc, rfl, -⟩ := SliceR.shape hL
      clear hL
      generalize openedB (locks mk t cuts) key (doorsOf t) = cb at *
      go_wp2_with fail
      refine Calls.mono hcall ?_
      rintro e w4 hr
      obtain ⟨r, rfl, o3, e4⟩ := ret_ext hr
      clear hr hcall
      obtain ⟨oa, on, oc, rfl, -⟩ := o3.shape
      have o3' := OwnP.grow (c := w4) o3 et3 (Ext.refl _)
      go_wp2_with fail
      go_ret2
      exact ⟨_, rfl, IntsCode_own HH.out o3' HI'.out, et3.trans e4⟩
  · have hb : (rc != 0) = true := by rw [bne_iff_ne]; exact hd
    have HH := Lib.hid (H1.out hd)
    clear hd H1 H2 H3 HI
    go_wp2_with fail
    go_ret2
    exact ⟨_, rfl, IntsCode_nil HH.out, et⟩

open Go.ChangeShapes Go.WideShapes Go.ChangeAt Go.RowKit
set_option linter.unusedVariables false

theorem keysR_in {mk : MK} {D : Nat} : ∀ (r : Nat) {pre k : List Int}, k ∈ keysR mk D r pre → begins mk k = true ∧ mk.l ≤ (kinds k : Int)
  | 0, pre, k, h => by
    rw [keysR_zero] at h
    split at h
    · split at h
      · rename_i h1 h2
        rw [List.mem_singleton.1 h]; exact ⟨h1, h2⟩
      · cases h
    · cases h
  | r + 1, pre, k, h => by
    rw [keysR_succ] at h
    split at h
    · unfold sweep at h
      obtain ⟨d, -, hd⟩ := List.mem_flatMap.1 h
      exact keysR_in r hd
    · cases h
theorem allK_isKey {mk : MK} (ok : MkOk mk) {k : List Int} (h : k ∈ allK mk) : isKeyB mk k = true := by
  obtain ⟨hb, hk⟩ := keysR_in mk.c.toNat h
  obtain ⟨h1, h2⟩ := allK_mem h
  have hc := ok.c6
  have hd := ok.d8
  have hcut : cutsOk mk k = true := by
    unfold cutsOk
    rw [Bool.and_eq_true, decide_eq_true_iff]
    refine ⟨?_, by omega⟩
    unfold allB
    rw [List.all_eq_true]
    intro x hx
    have := h2 x hx
    unfold inB
    rw [Bool.and_eq_true, decide_eq_true_iff, decide_eq_true_iff]
    omega
  unfold begins at hb
  obtain ⟨hf, hm⟩ := Bool.and_eq_true_iff.1 hb
  have hm := of_decide_eq_true hm
  unfold isKeyB keyFault
  rw [decide_eq_true_iff, if_neg (by omega), if_neg (by rw [hcut]; decide), if_neg (by simpa using hf), if_neg (by omega), if_neg (by omega)]
theorem rowCode_one {mk : MK} {t cuts : List (List Int)} {row b : List Int} (h : rowCode mk t cuts row [] = 0) (hb : isKeyB mk b = true) : rowCode mk t cuts row [b] = 0 := by
  have h1 := rowCode_code h
  cases h2 : (rowOk t row && areKeysB mk []) with
  | false => rw [rowCode_range h1 h2] at h; omega
  | true =>
    have h3 : (rowOk t row && areKeysB mk [b]) = true := by
      have := (Bool.and_eq_true_iff.1 h2).1
      rw [this, Bool.true_and]
      unfold areKeysB
      simp [hb]
    rw [rowCode_ok h1 h2] at h
    rw [rowCode_ok h1 h3]
    exact h
theorem easFold_le {f : List Int → Nat} : ∀ (L : List (List Int)) (s : Option (List Int)) {b : List Int}, L.foldl (easStep f) s = some b → (∀ l ∈ L, f b ≤ f l) ∧ ∀ s0, s = some s0 → f b ≤ f s0
  | [], s, b, h => ⟨fun l hl => (by cases hl), fun s0 h0 => by rw [List.foldl_nil] at h; rw [h] at h0; injection h0 with h0; rw [h0]; exact Nat.le_refl _⟩
  | k :: L, s, b, h => by
    rw [List.foldl_cons] at h
    obtain ⟨h1, h2⟩ := easFold_le L _ h
    have h3 : f b ≤ f k ∧ ∀ s0, s = some s0 → f b ≤ f s0 := by
      cases s with
      | none =>
        have := h2 k rfl
        exact ⟨this, fun s0 h0 => by cases h0⟩
      | some s1 =>
        unfold easStep at h2
        simp only at h2
        by_cases e : f k < f s1
        · rw [if_pos e] at h2
          have := h2 k rfl
          exact ⟨this, fun s0 h0 => by injection h0 with h0; rw [← h0]; omega⟩
        · rw [if_neg e] at h2
          have := h2 s1 rfl
          exact ⟨by omega, fun s0 h0 => by injection h0 with h0; rw [← h0]; exact this⟩
    exact ⟨fun l hl => (List.mem_cons.1 hl).elim (fun e => by rw [e]; exact h3.1) (h1 l), h3.2⟩
theorem changed_one {mk : MK} {t cuts : List (List Int)} {row b : List Int} (h : rowCode mk t cuts row [] = 0) (hb : isKeyB mk b = true) : changedOf mk t cuts row b = (changedB (locks mk t cuts) row b (doorsOf t), 0) := changedOf_ok (rowCode_one h hb)
theorem easy_facts {mk : MK} {t cuts : List (List Int)} {row k : List Int} {n : Int} (h : easiest mk t cuts row = (k, n, 0)) : ∃ c, changedOf mk t cuts row k = (c, 0) ∧ (c.length : Int) = n := by
  by_cases hr : rowCode mk t cuts row [] = 0
  · cases he : easL (changes mk t cuts row) ((allK mk).filter (stays mk (t ++ [row]) cuts)) with
    | none => rw [easiest_none hr he] at h; injection h with _ h; injection h with _ h; cases h
    | some b =>
      rw [easiest_some hr he] at h
      injection h with h1 h2
      injection h2 with h2 _
      subst h1
      have hm := (List.mem_filter.1 (easL_mem he)).1
      have ok := designOk_mk (rowCode_zero hr).toDesignOk
      exact ⟨_, changed_one hr (allK_isKey ok hm), h2⟩
  · rw [easiest_bad hr] at h
    injection h with _ h; injection h with _ h
    exact absurd h hr
theorem issue_facts {mk : MK} {t cuts L : List (List Int)} {row : List Int} {most : Int} (h : issueKeys mk t cuts row most = (L, 0)) (l : List Int) (hl : l ∈ L) : canIssue mk t cuts row l = (true, 0) ∧ ∃ c, changedOf mk t cuts row l = (c, 0) ∧ (easiest mk t cuts row).2.2 = 0 ∧ (easiest mk t cuts row).2.1 ≤ (c.length : Int) := by
  by_cases hd : designCode mk t cuts = 0
  · cases hm : inB most 0 300 with
    | false => rw [issueKeys_most hd hm] at h; injection h with _ h; cases h
    | true =>
      by_cases hr : rowCode mk t cuts row [] = 0
      · rw [issueKeys_ok hd hm hr] at h
        injection h with h _
        rw [← h] at hl
        unfold candL at hl
        have hf := List.mem_of_mem_take hl
        obtain ⟨ha, hs⟩ := List.mem_filter.1 hf
        have ok := designOk_mk (rowCode_zero hr).toDesignOk
        have hk := allK_isKey ok ha
        refine ⟨by rw [canIssue_ok (rowCode_one hr hk), hs], _, changed_one hr hk, ?_⟩
        cases he : easL (changes mk t cuts row) ((allK mk).filter (stays mk (t ++ [row]) cuts)) with
        | none => rw [easL_none.1 he] at hf; cases hf
        | some b =>
          rw [easiest_some hr he]
          have := (easFold_le _ none he).1 l hf
          unfold changes at this ⊢
          exact ⟨rfl, by simp only; omega⟩
      · rw [issueKeys_row hd hm hr] at h
        injection h with _ h
        exact absurd h hr
  · rw [issueKeys_bad hd] at h; injection h with _ h; cases h
end Go.Proofs.YtegmognpofcfiaaGreat
