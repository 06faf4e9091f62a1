/- Proved: whether lists are keys of a maker, and the code of a system and its cuts, program and reference. -/
import Derived.Test.YtgagjibjnaappaaChecked
import Derived.Deep.RegionHeld3
import Derived.Test.YtgagjibjnaappaaUKeyImpl
import Derived.Test.YtgagjibjnaappaaUIsSystem
import Derived.Test.YtgagjibjnaappaaUFuncsRows
namespace Go.Proofs.Ytgagjibjnaappaa
open Go.ChangeShapes Go.WideShapes Go.ChangeAt Go.RowKit
set_option linter.unusedVariables false

/-- a maker by value lies in block b -/
def MkAt (w : World) (b : Nat) (mk : MK) : Prop := w.cell? ⟨b, 0, none⟩ = some (.int .i64 mk.c) ∧ w.cell? ⟨b, 1, none⟩ = some (.int .i64 mk.d) ∧ w.cell? ⟨b, 2, none⟩ = some (.int .i64 mk.s) ∧ w.cell? ⟨b, 3, none⟩ = some (.int .i64 mk.m) ∧ w.cell? ⟨b, 4, none⟩ = some (.int .i64 mk.l)
theorem mk_box {w w0 : World} {mk : MK} {t : TypeId} (h : w.alloc (.cells #[.int .i64 mk.c, .int .i64 mk.d, .int .i64 mk.s, .int .i64 mk.m, .int .i64 mk.l] t) = w0) : Ext w w0 ∧ MkAt w0 w.heap.size mk := by
  subst h
  exact ⟨Ext.alloc _ _, by simp, by simp, by simp, by simp, by simp⟩
theorem MkAt.ext {w w' : World} {b : Nat} {mk : MK} (h : MkAt w b mk) (e : Ext w w') : MkAt w' b mk := ⟨e.cell h.1, e.cell h.2.1, e.cell h.2.2.1, e.cell h.2.2.2.1, e.cell h.2.2.2.2⟩

theorem Try.goesAreKeys1 : Goes Try.prog 135 := goes_of Try.func135 (by kernel_rfl) (by kernel_rfl)

set_option maxRecDepth 20000 in
theorem areKeys1_c (w : World) (mk : MK) (hd8 : 2 ≤ mk.d ∧ mk.d ≤ 8) (hm0 : 0 ≤ mk.m) (b : Nat) (hM : MkAt w b mk) (v : Value) (z : Zone) (xs : List Int) (h : IntsR z w v xs) :
    Calls Try.prog 135 #[v, .pointer (some ⟨b, 0, none⟩)] w (Ret w fun r _ => r = .bool (!isKeyB mk xs)) := by
  have hcall := isKey_c w mk hd8 hm0 v z xs h
  generalize isKeyB mk xs = q at *
  obtain ⟨a, n, cap, rfl, -⟩ := SliceR.shape h
  obtain ⟨c0, c1, c2, c3, c4⟩ := hM
  unfold MK.v at hcall
  clear h
  go_enter Try.func135, Try.ntmps135
  go_wp2_with fail
  refine Calls.mono hcall ?_
  rintro e w1 hr
  obtain ⟨r, rfl, rfl, e1⟩ := ret_ext hr
  go_wp2_with fail
  go_ret
  exact ⟨.bool (!q), rfl, rfl, e1⟩

set_option maxRecDepth 20000 in
theorem areKeys_c (w : World) (mk : MK) (hd8 : 2 ≤ mk.d ∧ mk.d ≤ 8) (hm0 : 0 ≤ mk.m) (v : Value) (z : Zone) (xss : List (List Int)) (h : RowsR z w v xss) :
    Calls Try.prog 101 #[mk.v, v] w (Ret w fun r _ => r = .bool (areKeysB mk xss)) := by
  have HC : Hid (∀ (w0 : World), Ext w w0 → MkAt w0 w.heap.size mk → Calls Try.prog 134 #[v, .func (.func 135) #[] #[.pointer (some ⟨w.heap.size, 0, none⟩)]] w0 (Ret w0 fun r _ => r = .bool (!areKeysB mk xss))) := fun w0 e0 hM => by
    have := ContainsFuncRows_c w0 v z xss (stable_rows.ext h e0) _ Try.goesAreKeys1 #[.pointer (some ⟨w.heap.size, 0, none⟩)] (fun x => !isKeyB mk x) (fun i hi w1 u hb hu => areKeys1_c w1 mk hd8 hm0 _ (hM.ext hb) u _ _ hu)
    have e : xss.any (fun x => !isKeyB mk x) = !areKeysB mk xss := by
      unfold areKeysB
      rw [List.any_eq_not_all_not]
      simp
    rw [e] at this
    exact this
  generalize areKeysB mk xss = q at *
  obtain ⟨a, n, cap, rfl, -⟩ := SliceR.shape h
  unfold MK.v
  clear h
  go_enter Try.func101, Try.ntmps101
  go_wp2_with fail
  generalize hw0 : World.alloc _ _ = w0
  obtain ⟨e0, S0⟩ := mk_box hw0
  clear hw0
  have hcall := HC.out w0 e0 S0
  refine Calls.mono hcall ?_
  rintro e w1 hr
  obtain ⟨r, rfl, rfl, e1⟩ := ret_ext hr
  go_wp2_with fail
  go_ret
  exact ⟨.bool q, rfl, rfl, e0.trans e1⟩

set_option maxRecDepth 20000 in
set_option maxHeartbeats 1000000 in
theorem l04Keys_c (w : World) (mk : MK) (hd8 : 2 ≤ mk.d ∧ mk.d ≤ 8) (v : Value) (z : Zone) (xss : List (List Int)) (h : RowsR z w v xss) :
    Calls Try.prog 153 #[mk.v, v] w (Ret w fun r _ => r = .bool (areKeysB mk xss && decide (xss.length ≤ 300))) := by
  have HC := Lib.hid (fun (w' : World) (u : Value) (y : Zone) (xs : List Int) (g : IntsR y w' u xs) => l02Fault_c w' mk hd8 u y xs g)
  obtain ⟨a, n, cap, rfl, hn, hmax, -⟩ := SliceR.shape h
  have HT := Lib.hid (fun (k : Nat) (hk : k < n) => rows_at h hk)
  have Hn := Lib.hid hn
  have HB : Hid (∀ k, k < n → isKeyB mk (xss.getD k []) = false → areKeysB mk xss = false) := fun k hk hb => by
    have hk' : k < xss.length := by omega
    unfold areKeysB; rw [List.all_eq_false]
    exact ⟨xss[k], List.getElem_mem hk', by have e : xss.getD k [] = xss[k] := by simp [hk']
                                            rw [e] at hb; rw [hb]; decide⟩
  have HG : Hid ((∀ k, k < n → isKeyB mk (xss.getD k []) = true) → areKeysB mk xss = true) := fun hb => by
    unfold areKeysB; rw [List.all_eq_true]; intro x hx
    obtain ⟨i, hi, rfl⟩ := List.getElem_of_mem hx
    have := hb i (by omega)
    simpa [hi] using this
  generalize areKeysB mk xss = q at *
  clear hn h
  unfold MK.v at *
  go_enter Try.func153, Try.ntmps153
  go_wp2_with fail
  generalize hw0 : World.alloc _ _ = w0
  obtain ⟨e0, S0⟩ := mk_box hw0
  clear hw0
  have HS := Lib.hid S0
  clear S0
  go_loopw [5] (fun s wr => ∃ k : Nat, k ≤ n ∧ s = .int .i64 k ∧ (∀ j, j < k → isKeyB mk (xss.getD j []) = true) ∧ Ext w0 wr) (fun s _ => n - (intOf s).toNat)
  case atStart => exact ⟨0, Nat.zero_le _, rfl, by simp, Ext.refl _⟩
  case round =>
    obtain ⟨k, hk, rfl, hall, ew⟩ := hrel
    have Hall := Lib.hid hall
    clear hall
    have et := e0.trans ew
    obtain ⟨c0, c1, c2, c3, c4⟩ := HS.out.ext ew
    by_cases hlt : k < n
    · obtain ⟨b, off, rfl, a1, n1, k1, hn1, hm1, -, hc, ⟨y, -, hy⟩, -⟩ := HT.out k hlt
      have HK : Hid (∀ w', Ext wr w' → w'.cell? ⟨w.heap.size, 0, none⟩ = some (.int .i64 mk.c) ∧ w'.cell? ⟨w.heap.size, 1, none⟩ = some (.int .i64 mk.d) ∧ w'.cell? ⟨w.heap.size, 2, none⟩ = some (.int .i64 mk.s) ∧ w'.cell? ⟨w.heap.size, 3, none⟩ = some (.int .i64 mk.m) ∧ w'.cell? ⟨w.heap.size, 4, none⟩ = some (.int .i64 mk.l) ∧ w'.cell? ⟨b, off + k, none⟩ = some (.slice a1 n1 k1)) := fun w' e => ⟨e.cell c0, e.cell c1, e.cell c2, e.cell c3, e.cell c4, hc w' (et.trans e)⟩
      replace hc := hc wr et
      have HC' := Lib.hid (fun (w' : World) (e : Ext w w') => HC.out w' _ y _ (hy w' e))
      have Hno := Lib.hid (HB.out k hlt)
      have Hgo : Hid (isKeyB mk (xss.getD k []) = true → ∀ j, j < k + 1 → isKeyB mk (xss.getD j []) = true) := fun h j hj => by
        by_cases e : j = k
        · rw [e]; exact h
        · exact Hall.out j (by omega)
      unfold isKeyB at *
      clear hy hn1 HB
      generalize keyFault mk (xss.getD k []) = kf at *
      by_cases hf : kf = 0
      · have HH := Lib.hid (Hgo.out (decide_eq_true hf))
        have hb : (kf != 0) = false := by simpa using hf
        clear hf Hno Hgo
        go_wp2_with fail
        go_region_held3 (fun w' => w'.cell? ⟨w.heap.size, 0, none⟩ = some (.int .i64 mk.c) ∧ w'.cell? ⟨w.heap.size, 1, none⟩ = some (.int .i64 mk.d) ∧ w'.cell? ⟨w.heap.size, 2, none⟩ = some (.int .i64 mk.s) ∧ w'.cell? ⟨w.heap.size, 3, none⟩ = some (.int .i64 mk.m) ∧ w'.cell? ⟨w.heap.size, 4, none⟩ = some (.int .i64 mk.l) ∧ w'.cell? ⟨b, off + k, none⟩ = some (.slice a1 n1 k1)) (exact HK.out _ (by repeat (first | exact Ext.refl _ | assumption | (refine Ext.trans ?_ (Ext.alloc _ _)) | (refine Ext.trans ?_ (Ext.drew _)) | (refine Ext.trans ?_ (by assumption))))) (first | (go_at_call 97; (with_reducible refine (HC'.out _ (by repeat (first | exact Ext.refl _ | assumption | (refine Ext.trans ?_ (Ext.alloc _ _)) | (refine Ext.trans ?_ (Ext.drew _)) | (refine Ext.trans ?_ (by assumption))))).mono ?_); rintro e w7 hr7; obtain ⟨r7, rfl, rfl, e7⟩ := ret_ext hr7; clear hr7; have eX := Ext.trans (Ext.drew wr) e7))
        go_wp2_with fail
        go_roundw
        case rel => exact ⟨k+1, by omega, by go_num, HH.out, ew.trans eX⟩
        case measure => simp [intOf]; omega
      · have HH := Lib.hid (Hno.out (decide_eq_false hf))
        have hb : (kf != 0) = true := by simpa using hf
        clear hf Hno Hgo
        go_wp2_with fail
        go_region_held3 (fun w' => w'.cell? ⟨w.heap.size, 0, none⟩ = some (.int .i64 mk.c) ∧ w'.cell? ⟨w.heap.size, 1, none⟩ = some (.int .i64 mk.d) ∧ w'.cell? ⟨w.heap.size, 2, none⟩ = some (.int .i64 mk.s) ∧ w'.cell? ⟨w.heap.size, 3, none⟩ = some (.int .i64 mk.m) ∧ w'.cell? ⟨w.heap.size, 4, none⟩ = some (.int .i64 mk.l) ∧ w'.cell? ⟨b, off + k, none⟩ = some (.slice a1 n1 k1)) (exact HK.out _ (by repeat (first | exact Ext.refl _ | assumption | (refine Ext.trans ?_ (Ext.alloc _ _)) | (refine Ext.trans ?_ (Ext.drew _)) | (refine Ext.trans ?_ (by assumption))))) (first | (go_at_call 97; (with_reducible refine (HC'.out _ (by repeat (first | exact Ext.refl _ | assumption | (refine Ext.trans ?_ (Ext.alloc _ _)) | (refine Ext.trans ?_ (Ext.drew _)) | (refine Ext.trans ?_ (by assumption))))).mono ?_); rintro e w7 hr7; obtain ⟨r7, rfl, rfl, e7⟩ := ret_ext hr7; clear hr7; have eX := Ext.trans (Ext.drew wr) e7))
        go_wp2_with fail
        go_ret
        exact ⟨.bool false, rfl, congrArg Value.bool (by rw [HH.out]; rfl), et.trans eX⟩
    · have hkn : k = n := by omega
      have HQ : Hid (q = true) := HG.out (fun j hj => Hall.out j (by omega))
      go_wp2_with fail
      go_ret
      exact ⟨.bool (decide ((n : Int) ≤ 300)), rfl, congrArg Value.bool (by rw [HQ.out, Bool.true_and]; exact decide_eq_decide.2 (by rw [Hn.out]; omega)), et⟩

/-- the code of a system and its cuts -/
def sysCode (mk : MK) (t cuts : List (List Int)) : Int := if isSystem mk t = false then 1 else if (decide (cuts.length = t.length) && areKeysB mk cuts) = false then 2 else 0
theorem sysCode_no {mk : MK} {t cuts : List (List Int)} (h : isSystem mk t = false) : sysCode mk t cuts = 1 := by unfold sysCode; rw [if_pos h]
theorem sysCode_len {mk : MK} {t cuts : List (List Int)} (h : isSystem mk t = true) (h2 : cuts.length ≠ t.length) : sysCode mk t cuts = 2 := by unfold sysCode; rw [if_neg (by rw [h]; decide), decide_eq_false h2, Bool.false_and, if_pos rfl]
theorem sysCode_key {mk : MK} {t cuts : List (List Int)} (h : isSystem mk t = true) (h2 : cuts.length = t.length) : sysCode mk t cuts = if areKeysB mk cuts = true then 0 else 2 := by
  unfold sysCode; rw [if_neg (by rw [h]; decide), decide_eq_true h2, Bool.true_and]
  cases areKeysB mk cuts <;> rfl
theorem sysMaker {mk : MK} {t : List (List Int)} (h : isSystem mk t = true) : isMaker mk = true := by
  unfold isSystem at h; exact (Bool.and_eq_true_iff.1 h).1

set_option maxRecDepth 20000 in
set_option maxHeartbeats 1000000 in
theorem cutsCode_c (w : World) (mk : MK) (v : Value) (z : Zone) (t : List (List Int)) (h : RowsR z w v t) (u : Value) (y : Zone) (cuts : List (List Int)) (hc : RowsR y w u cuts) :
    Calls Try.prog 106 #[sysV mk v, u] w (Ret w fun r _ => r = .int .i64 (sysCode mk t cuts)) := by
  have H1 : Hid (isSystem mk t = false → sysCode mk t cuts = 1) := sysCode_no
  have H2 : Hid (isSystem mk t = true → cuts.length ≠ t.length → sysCode mk t cuts = 2) := sysCode_len
  have H3 : Hid (isSystem mk t = true → cuts.length = t.length → sysCode mk t cuts = if areKeysB mk cuts = true then 0 else 2) := sysCode_key
  have HM : Hid (isSystem mk t = true → (2 ≤ mk.d ∧ mk.d ≤ 8) ∧ 0 ≤ mk.m) := fun h => by
    obtain ⟨-, a, -, b, -⟩ := isMaker_iff.1 (sysMaker h)
    exact ⟨a, by omega⟩
  generalize sysCode mk t cuts = res at *
  have HC1 := Lib.hid (fun (w' : World) (e : Ext w w') => IsSystem_c w' mk v z t (stable_rows.ext h e))
  have HC2 := Lib.hid (fun (w' : World) (e : Ext w w') (h1 : 2 ≤ mk.d ∧ mk.d ≤ 8) (h2 : 0 ≤ mk.m) => areKeys_c w' mk h1 h2 u y cuts (stable_rows.ext hc e))
  generalize isSystem mk t = q at *
  generalize areKeysB mk cuts = qk at *
  obtain ⟨a, n, cap, rfl, hn, hmax, -⟩ := SliceR.shape h
  obtain ⟨a2, n2, cap2, rfl, hn2, hmax2, -⟩ := SliceR.shape hc
  have Hn := Lib.hid hn
  have Hn2 := Lib.hid hn2
  clear hn hn2 h hc
  unfold sysV MK.v at *
  go_enter Try.func106, Try.ntmps106
  go_wp2_with fail
  generalize hw0 : World.alloc _ _ = w0
  obtain ⟨e0, S0⟩ := sys_box hw0
  clear hw0
  have HS := Lib.hid S0
  clear S0
  refine Calls.mono (HC1.out w0 e0) ?_
  rintro e w1 hr
  obtain ⟨r, rfl, rfl, e1⟩ := ret_ext hr
  clear hr
  have et := e0.trans e1
  obtain ⟨c0, c1, c2, c3, c4, c5⟩ := HS.out.all e1
  cases q with
  | false =>
    have HH := Lib.hid (H1.out rfl)
    go_wp2_with fail
    go_ret
    exact ⟨.int .i64 1, rfl, congrArg (Value.int .i64) HH.out.symm, et⟩
  | true =>
    by_cases hl : n2 = n
    · have hb : ((n2 : Int) != (n : Int)) = false := by rw [hl]; simp
      have HH := Lib.hid (H3.out rfl (by rw [← Hn.out, ← Hn2.out]; exact hl))
      obtain ⟨m1, m2⟩ := HM.out rfl
      have hcall := HC2.out w1 et m1 m2
      clear hl H1 H2 H3
      go_wp2_with fail
      refine Calls.mono hcall ?_
      rintro e w2 hr
      obtain ⟨r, rfl, rfl, e2⟩ := ret_ext hr
      clear hr hcall
      cases qk with
      | true =>
        go_wp2_with fail
        go_ret
        exact ⟨.int .i64 0, rfl, congrArg (Value.int .i64) (by rw [HH.out]; rfl), et.trans e2⟩
      | false =>
        go_wp2_with fail
        go_ret
        exact ⟨.int .i64 2, rfl, congrArg (Value.int .i64) (by rw [HH.out]; rfl), et.trans e2⟩
    · have hb : ((n2 : Int) != (n : Int)) = true := by rw [bne_iff_ne]; omega
      have HH := Lib.hid (H2.out rfl (by rw [← Hn.out, ← Hn2.out]; exact hl))
      clear hl H1 H2 H3
      go_wp2_with fail
      go_ret
      exact ⟨.int .i64 2, rfl, congrArg (Value.int .i64) HH.out.symm, et⟩

set_option maxRecDepth 20000 in
set_option maxHeartbeats 1000000 in
theorem l15Cuts_c (w : World) (mk : MK) (hd8 : 2 ≤ mk.d ∧ mk.d ≤ 8) (v : Value) (z : Zone) (t : List (List Int)) (h : RowsR z w v t) (ht : t.length ≤ 10) (u : Value) (y : Zone) (cuts : List (List Int)) (hc : RowsR y w u cuts) :
    Calls Try.prog 138 #[sysV mk v, u] w (Ret w fun r _ => r = .bool (decide (cuts.length = t.length) && areKeysB mk cuts)) := by
  have HC2 := Lib.hid (fun (w' : World) (e : Ext w w') => l04Keys_c w' mk hd8 u y cuts (stable_rows.ext hc e))
  generalize areKeysB mk cuts = qk at *
  obtain ⟨a, n, cap, rfl, hn, hmax, -⟩ := SliceR.shape h
  obtain ⟨a2, n2, cap2, rfl, hn2, hmax2, -⟩ := SliceR.shape hc
  have Hn := Lib.hid hn
  have Hn2 := Lib.hid hn2
  rw [← hn] at ht
  clear hn hn2 h hc
  unfold sysV MK.v at *
  go_enter Try.func138, Try.ntmps138
  by_cases hl : n2 = n
  · have hb : ((n2 : Int) == (n : Int)) = true := by rw [hl]; simp
    have H1 : Hid (decide (cuts.length = t.length) = true) := by show _ = _; rw [← Hn.out, ← Hn2.out]; exact decide_eq_true hl
    have H2 : Hid (decide (cuts.length ≤ 300) = true) := by show _ = _; rw [← Hn2.out]; exact decide_eq_true (by omega)
    clear hl
    go_wp2_with fail
    generalize hw0 : World.alloc _ _ = w0
    obtain ⟨e0, S0⟩ := sys_box hw0
    clear hw0
    refine Calls.mono (HC2.out w0 e0) ?_
    rintro e w1 hr
    obtain ⟨r, rfl, rfl, e1⟩ := ret_ext hr
    rw [H2.out, Bool.and_true]
    clear hr
    go_wp2_with fail
    go_ret
    exact ⟨.bool qk, rfl, congrArg Value.bool (by rw [H1.out]; rfl), e0.trans e1⟩
  · have hb : ((n2 : Int) == (n : Int)) = false := by rw [beq_eq_false_iff_ne]; omega
    have H1 : Hid (decide (cuts.length = t.length) = false) := by show _ = _; rw [← Hn.out, ← Hn2.out]; exact decide_eq_false hl
    clear hl
    go_wp2_with fail
    go_ret
    exact ⟨.bool false, rfl, congrArg Value.bool (by rw [H1.out]; rfl), Ext.alloc _ _⟩

set_option maxRecDepth 20000 in
set_option maxHeartbeats 1000000 in
theorem l15Code_c (w : World) (mk : MK) (v : Value) (z : Zone) (t : List (List Int)) (h : RowsR z w v t) (u : Value) (y : Zone) (cuts : List (List Int)) (hc : RowsR y w u cuts) :
    Calls Try.prog 103 #[sysV mk v, u] w (Ret w fun r _ => r = .int .i64 (sysCode mk t cuts)) := by
  have H1 : Hid (isSystem mk t = false → sysCode mk t cuts = 1) := sysCode_no
  have H2 : Hid (isSystem mk t = true → sysCode mk t cuts = if (decide (cuts.length = t.length) && areKeysB mk cuts) = false then 2 else 0) := fun h => by unfold sysCode; rw [if_neg (by rw [h]; decide)]
  have HM : Hid (isSystem mk t = true → (2 ≤ mk.d ∧ mk.d ≤ 8) ∧ t.length ≤ 10) := fun h => ⟨(sysOk h).mk2, (sysOk h).len.2⟩
  generalize sysCode mk t cuts = res at *
  have HC1 := Lib.hid (fun (w' : World) (e : Ext w w') => IsSystemSpec_c w' mk v z t (stable_rows.ext h e))
  have HC2 := Lib.hid (fun (w' : World) (e : Ext w w') (h1 : 2 ≤ mk.d ∧ mk.d ≤ 8) (h2 : t.length ≤ 10) => l15Cuts_c w' mk h1 v z t (stable_rows.ext h e) h2 u y cuts (stable_rows.ext hc e))
  generalize isSystem mk t = q at *
  generalize (decide (cuts.length = t.length) && areKeysB mk cuts) = qk at *
  obtain ⟨a, n, cap, rfl, -⟩ := SliceR.shape h
  obtain ⟨a2, n2, cap2, rfl, -⟩ := SliceR.shape hc
  clear h hc
  unfold sysV at *
  go_enter Try.func103, Try.ntmps103
  go_wp2_with fail
  generalize hw0 : World.alloc _ _ = w0
  obtain ⟨e0, S0⟩ := sys_box hw0
  clear hw0
  have HS := Lib.hid S0
  clear S0
  refine Calls.mono (HC1.out w0 e0) ?_
  rintro e w1 hr
  obtain ⟨r, rfl, rfl, e1⟩ := ret_ext hr
  clear hr
  have et := e0.trans e1
  obtain ⟨c0, c1, c2, c3, c4, c5⟩ := HS.out.all e1
  cases q with
  | false =>
    have HH := Lib.hid (H1.out rfl)
    go_wp2_with fail
    go_ret
    exact ⟨.int .i64 1, rfl, congrArg (Value.int .i64) HH.out.symm, et⟩
  | true =>
    have HH := Lib.hid (H2.out rfl)
    obtain ⟨m1, m2⟩ := HM.out rfl
    have hcall := HC2.out w1 et m1 m2
    clear H1 H2
    go_wp2_with fail
    refine Calls.mono hcall ?_
    rintro e w2 hr
    obtain ⟨r, rfl, rfl, e2⟩ := ret_ext hr
    clear hr hcall
    cases qk with
    | true =>
      go_wp2_with fail
      go_ret
      exact ⟨.int .i64 0, rfl, congrArg (Value.int .i64) (by rw [HH.out]; rfl), et.trans e2⟩
    | false =>
      go_wp2_with fail
      go_ret
      exact ⟨.int .i64 2, rfl, congrArg (Value.int .i64) (by rw [HH.out]; rfl), et.trans e2⟩
end Go.Proofs.Ytgagjibjnaappaa
