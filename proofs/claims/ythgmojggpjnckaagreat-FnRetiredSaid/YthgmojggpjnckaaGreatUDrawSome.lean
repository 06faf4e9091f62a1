/- Proved: cuts of any maker that a draw gives: l02Some, some readable list. -/
import Derived.Test.YthgmojggpjnckaaGreatChecked
import Derived.Deep.RegionHeld3
import Derived.Test.YthgmojggpjnckaaGreatUPkDc
namespace Go.Proofs.YthgmojggpjnckaaGreat
open Go.ChangeShapes Go.WideShapes Go.ChangeAt Go.RowKit
set_option linter.unusedVariables false

/-- some bool -/
def AnyB (r : Value) : Prop := ∃ b, r = .bool b
def Small9 (l : List Int) : Prop := ∀ i, i < l.length → 0 ≤ l.getD i 0 ∧ l.getD i 0 ≤ 100
theorem Small9.snoc {pre : List Int} (h : Small9 pre) {d : Nat} (hd : d ≤ 100) : Small9 (pre ++ [(d : Int)]) := by
  intro i hi
  rw [List.length_append, List.length_singleton] at hi
  by_cases e : i < pre.length
  · have := h i e
    rw [List.getD_eq_getElem?_getD, List.getElem?_append_left e, ← List.getD_eq_getElem?_getD]
    exact this
  · have : i = pre.length := by omega
    subst this
    simp
    omega
theorem Small9.take {l : List Int} (h : Small9 l) (i : Nat) : Small9 (l.take i) := by
  intro j hj
  rw [List.length_take] at hj
  rw [getD_take l 0 (by omega)]
  exact h j (by omega)

set_option maxRecDepth 20000 in
set_option maxHeartbeats 1000000 in
theorem l02Begins_w (w : World) (mk : MK) (v : Value) (z : Zone) (xs : List Int) (h : IntsR z w v xs) (hs : Small9 xs) :
    Calls Tryz.prog 148 #[mk.v, v] w (Ret w fun r _ => AnyB r) := by
  have HSm := Lib.hid hs
  obtain ⟨c, d, s, m, l⟩ := mk
  unfold MK.v at *
  simp only
  obtain ⟨a, n, cap, rfl, hn, hmax, -, -, -, hel⟩ := IntsR.shape h
  clear h hs
  have Hn := Lib.hid hn
  have Hel := Lib.hid hel
  clear hn hel
  go_enter Tryz.func148, Tryz.ntmps148
  go_wp2_with fail
  generalize hw0 : World.alloc _ _ = w0
  obtain ⟨e0, S0⟩ := mk_box (mk := ⟨c, d, s, m, l⟩) hw0
  clear hw0
  have HS := Lib.hid S0
  obtain ⟨c0, c1, c2, c3, c4⟩ := S0
  go_wp2_with fail
  clear c0 c1 c2 c3 c4
  go_loopw [5, 6] (fun s5 s6 wr => ∃ i r : Nat, i ≤ n ∧ r ≤ i ∧ s6 = .int .i64 i ∧ s5 = .int .i64 (r : Nat) ∧ Drew w0 wr) (fun _ s6 _ => n - (intOf s6).toNat)
  case atStart => exact ⟨0, 0, Nat.zero_le _, Nat.le_refl _, rfl, rfl, Drew.refl _⟩
  case round =>
    obtain ⟨i, r, hi, hri, rfl, rfl, hd⟩ := hrel
    obtain ⟨c0, c1, c2, c3, c4⟩ := HS.out.ext (Ext.ofDrew hd)
    by_cases hlt : i < n
    · obtain ⟨b, off, rfl, hc, hx, hprev⟩ := Hel.out i hlt
      replace hc := e0.cell hc
      replace hc := (hd.cell _).trans hc
      have hxin := HSm.out i (by have := Hn.out; omega)
      by_cases hi0 : i = 0
      · subst hi0
        have hr0 : r = 0 := by omega
        subst hr0
        clear hprev
        generalize xs.getD 0 0 = x at *
        obtain ⟨b1, hb1⟩ : ∃ b1, decide (m < 1) = b1 := ⟨_, rfl⟩
        cases b1 with
        | false =>
          go_wp2_with fail
          go_quiet (fail)
          go_wp2_with fail
          go_quiet (fail)
          go_wp2_with fail
          go_roundw
          case rel => exact ⟨1, 1, by omega, by omega, by go_num, by go_num, by first | exact hd.drewN _ | exact (hd.drewN _).drewN _⟩
          case measure => simp [intOf]; omega
        | true =>
          go_wp2_with fail
          go_quiet (fail)
          go_wp2_with fail
          go_quiet (fail)
          go_wp2_with fail
          go_ret
          exact ⟨_, rfl, ⟨_, rfl⟩, e0.trans (Ext.ofDrew (by first | exact hd.drewN _ | exact (hd.drewN _).drewN _))⟩
      · obtain ⟨hc', hx'⟩ := hprev (by omega)
        replace hc' := (hd.cell _).trans (e0.cell hc')
        have hyin := HSm.out (i-1) (by have := Hn.out; omega)
        have hwi : IntKind.i64.wrap ((i : Int) - 1) = ((i - 1 : Nat) : Int) := by rw [IntWalk.i64_in _ (by omega)]; omega
        have hgt : decide (0 < i) = true := decide_eq_true (by omega)
        clear hprev hx hx'
        generalize xs.getD i 0 = x at *
        generalize xs.getD (i-1) 0 = y at *
        have hwxy : IntKind.i64.wrap (x - y) = x - y := IntWalk.i64_in _ (by omega)
        have hin1 : i - 1 < n := by omega
        have hin2 : ((i - 1 : Nat) : Int) < (n : Int) := by omega
        obtain ⟨b2, hb2⟩ : ∃ b2, decide (s < ((x - y).natAbs : Int)) = b2 := ⟨_, rfl⟩
        obtain ⟨bq, hbq⟩ : ∃ bq, (x != y) = bq := ⟨_, rfl⟩
        cases bq with
        | false =>
          obtain ⟨b1, hb1⟩ : ∃ b1, decide (m < (r : Int) + 1) = b1 := ⟨_, rfl⟩
          cases b1 with
          | false =>
            cases b2 with
            | false =>
              go_wp2_with fail
              go_quiet (fail)
              go_wp2_with fail
              generalize hwq : World.drewN wr _ = wq
              have hdq : Drew wr wq := by rw [← hwq]; exact (Drew.refl _).drewN _
              replace hc := (hdq.cell _).trans hc
              replace hc' := (hdq.cell _).trans hc'
              replace hd := hd.trans hdq
              clear c0 c1 c2 c3 c4 hwq
              obtain ⟨c0, c1, c2, c3, c4⟩ := HS.out.ext (Ext.ofDrew hd)
              go_quiet ((go_at_call 172; exact RetQ.quiet (l01Abs_c _ _ (by omega) (by omega))))
              go_wp2_with fail
              go_roundw
              case rel => exact ⟨i+1, r + 1, by omega, by omega, by go_num, by go_num, by first | exact hd.drewN _ | exact (hd.drewN _).drewN _⟩
              case measure => simp [intOf]; omega
            | true =>
              go_wp2_with fail
              go_quiet (fail)
              go_wp2_with fail
              generalize hwq : World.drewN wr _ = wq
              have hdq : Drew wr wq := by rw [← hwq]; exact (Drew.refl _).drewN _
              replace hc := (hdq.cell _).trans hc
              replace hc' := (hdq.cell _).trans hc'
              replace hd := hd.trans hdq
              clear c0 c1 c2 c3 c4 hwq
              obtain ⟨c0, c1, c2, c3, c4⟩ := HS.out.ext (Ext.ofDrew hd)
              go_quiet ((go_at_call 172; exact RetQ.quiet (l01Abs_c _ _ (by omega) (by omega))))
              go_wp2_with fail
              go_ret
              exact ⟨_, rfl, ⟨_, rfl⟩, e0.trans (Ext.ofDrew (by first | exact hd.drewN _ | exact (hd.drewN _).drewN _))⟩
          | true =>
            cases b2 with
            | false =>
              go_wp2_with fail
              go_quiet (fail)
              go_wp2_with fail
              generalize hwq : World.drewN wr _ = wq
              have hdq : Drew wr wq := by rw [← hwq]; exact (Drew.refl _).drewN _
              replace hc := (hdq.cell _).trans hc
              replace hc' := (hdq.cell _).trans hc'
              replace hd := hd.trans hdq
              clear c0 c1 c2 c3 c4 hwq
              obtain ⟨c0, c1, c2, c3, c4⟩ := HS.out.ext (Ext.ofDrew hd)
              go_quiet ((go_at_call 172; exact RetQ.quiet (l01Abs_c _ _ (by omega) (by omega))))
              go_wp2_with fail
              go_ret
              exact ⟨_, rfl, ⟨_, rfl⟩, e0.trans (Ext.ofDrew (by first | exact hd.drewN _ | exact (hd.drewN _).drewN _))⟩
            | true =>
              go_wp2_with fail
              go_quiet (fail)
              go_wp2_with fail
              generalize hwq : World.drewN wr _ = wq
              have hdq : Drew wr wq := by rw [← hwq]; exact (Drew.refl _).drewN _
              replace hc := (hdq.cell _).trans hc
              replace hc' := (hdq.cell _).trans hc'
              replace hd := hd.trans hdq
              clear c0 c1 c2 c3 c4 hwq
              obtain ⟨c0, c1, c2, c3, c4⟩ := HS.out.ext (Ext.ofDrew hd)
              go_quiet ((go_at_call 172; exact RetQ.quiet (l01Abs_c _ _ (by omega) (by omega))))
              go_wp2_with fail
              go_ret
              exact ⟨_, rfl, ⟨_, rfl⟩, e0.trans (Ext.ofDrew (by first | exact hd.drewN _ | exact (hd.drewN _).drewN _))⟩
        | true =>
          obtain ⟨b1, hb1⟩ : ∃ b1, decide (m < 1) = b1 := ⟨_, rfl⟩
          cases b1 with
          | false =>
            cases b2 with
            | false =>
              go_wp2_with fail
              go_quiet (fail)
              go_wp2_with fail
              generalize hwq : World.drewN wr _ = wq
              have hdq : Drew wr wq := by rw [← hwq]; exact (Drew.refl _).drewN _
              replace hc := (hdq.cell _).trans hc
              replace hc' := (hdq.cell _).trans hc'
              replace hd := hd.trans hdq
              clear c0 c1 c2 c3 c4 hwq
              obtain ⟨c0, c1, c2, c3, c4⟩ := HS.out.ext (Ext.ofDrew hd)
              go_quiet ((go_at_call 172; exact RetQ.quiet (l01Abs_c _ _ (by omega) (by omega))))
              go_wp2_with fail
              go_roundw
              case rel => exact ⟨i+1, 1, by omega, by omega, by go_num, by go_num, by first | exact hd.drewN _ | exact (hd.drewN _).drewN _⟩
              case measure => simp [intOf]; omega
            | true =>
              go_wp2_with fail
              go_quiet (fail)
              go_wp2_with fail
              generalize hwq : World.drewN wr _ = wq
              have hdq : Drew wr wq := by rw [← hwq]; exact (Drew.refl _).drewN _
              replace hc := (hdq.cell _).trans hc
              replace hc' := (hdq.cell _).trans hc'
              replace hd := hd.trans hdq
              clear c0 c1 c2 c3 c4 hwq
              obtain ⟨c0, c1, c2, c3, c4⟩ := HS.out.ext (Ext.ofDrew hd)
              go_quiet ((go_at_call 172; exact RetQ.quiet (l01Abs_c _ _ (by omega) (by omega))))
              go_wp2_with fail
              go_ret
              exact ⟨_, rfl, ⟨_, rfl⟩, e0.trans (Ext.ofDrew (by first | exact hd.drewN _ | exact (hd.drewN _).drewN _))⟩
          | true =>
            cases b2 with
            | false =>
              go_wp2_with fail
              go_quiet (fail)
              go_wp2_with fail
              generalize hwq : World.drewN wr _ = wq
              have hdq : Drew wr wq := by rw [← hwq]; exact (Drew.refl _).drewN _
              replace hc := (hdq.cell _).trans hc
              replace hc' := (hdq.cell _).trans hc'
              replace hd := hd.trans hdq
              clear c0 c1 c2 c3 c4 hwq
              obtain ⟨c0, c1, c2, c3, c4⟩ := HS.out.ext (Ext.ofDrew hd)
              go_quiet ((go_at_call 172; exact RetQ.quiet (l01Abs_c _ _ (by omega) (by omega))))
              go_wp2_with fail
              go_ret
              exact ⟨_, rfl, ⟨_, rfl⟩, e0.trans (Ext.ofDrew (by first | exact hd.drewN _ | exact (hd.drewN _).drewN _))⟩
            | true =>
              go_wp2_with fail
              go_quiet (fail)
              go_wp2_with fail
              generalize hwq : World.drewN wr _ = wq
              have hdq : Drew wr wq := by rw [← hwq]; exact (Drew.refl _).drewN _
              replace hc := (hdq.cell _).trans hc
              replace hc' := (hdq.cell _).trans hc'
              replace hd := hd.trans hdq
              clear c0 c1 c2 c3 c4 hwq
              obtain ⟨c0, c1, c2, c3, c4⟩ := HS.out.ext (Ext.ofDrew hd)
              go_quiet ((go_at_call 172; exact RetQ.quiet (l01Abs_c _ _ (by omega) (by omega))))
              go_wp2_with fail
              go_ret
              exact ⟨_, rfl, ⟨_, rfl⟩, e0.trans (Ext.ofDrew (by first | exact hd.drewN _ | exact (hd.drewN _).drewN _))⟩
    · have hin : i = n := by omega
      go_wp2_with fail
      go_ret
      exact ⟨_, rfl, ⟨_, rfl⟩, e0.trans (Ext.ofDrew hd)⟩

/-- what a search for a key hands back, whatever the maker -/
def KeyAny (lo : Nat) (r : Value) (w' : World) : Prop := ∃ u b ks, r = .tuple #[u, .bool b] ∧ IntsR ⟨lo, w'.heap.size, true⟩ w' u ks

set_option maxRecDepth 20000 in
set_option maxHeartbeats 2000000 in
theorem l02First_w (mk : MK) (ok : MkR mk) : ∀ (r : Nat) (pre : List Int), pre.length + r = mk.c.toNat → ∀ (lo : Nat) (w : World) (v : Value) (z : Zone), IntsR z w v pre → lo ≤ w.heap.size → lo ≤ z.lo → z.hi ≤ w.heap.size → z.own = true → Small9 pre →
    Calls Tryz.prog 114 #[mk.v, v] w (Ret w fun r' w' => KeyAny lo r' w') := by
  intro r
  induction r with
  | zero =>
    intro pre hl lo w v z h hlw hz1 hz2 hz3 hs
    have HB := Lib.hid (fun (w' : World) (e : Ext w w') => l02Begins_w w' mk v z pre (stable_ints.ext h e) hs)
    have HK := Lib.hid (fun (w' : World) (e : Ext w w') => l02Kinds_c w' v z pre (stable_ints.ext h e))
    have HF : Hid (∀ w', Ext w w' → IntsR ⟨lo, w'.heap.size, true⟩ w' v pre) := fun w' e => stable_ints.sub (stable_ints.ext h e) ⟨fun k hk => ⟨Nat.le_trans hz1 hk.1, Nat.lt_of_lt_of_le hk.2 (Nat.le_trans hz2 e.size)⟩, fun _ => hz3⟩
    obtain ⟨⟨hc1, hc9⟩, ⟨hd1, hd9⟩, -⟩ := ok
    generalize kinds pre = kk at *
    obtain ⟨c, d, s, m, l⟩ := mk
    unfold MK.v at *
    simp only at hl hc1 hc9 hd1 hd9 HB ⊢
    obtain ⟨a, n, cap, rfl, hn, hmax, -⟩ := SliceR.shape h
    have hnc : (n : Int) = c := by omega
    have hb : ((n : Int) == c) = true := by rw [hnc]; simp
    clear h hs hn hl hnc hz1 hz2 hz3 hlw hc1 hc9 hd1 hd9
    go_enter Tryz.func114, Tryz.ntmps114
    go_wp2_with fail
    generalize hw0 : World.alloc _ _ = w0
    obtain ⟨e0, S0⟩ := mk_box (mk := ⟨c, d, s, m, l⟩) hw0
    clear hw0
    have HS := Lib.hid S0
    obtain ⟨c0, c1, c2, c3, c4⟩ := S0
    go_wp2_with fail
    refine Calls.mono (HB.out w0 e0) ?_
    rintro e w1 hr
    obtain ⟨_, rfl, hq, e1⟩ := ret_ext hr
    obtain ⟨q, rfl⟩ := hq
    clear hr c0 c1 c2 c3 c4
    obtain ⟨c0, c1, c2, c3, c4⟩ := HS.out.ext e1
    have et := e0.trans e1
    cases q with
    | false =>
      go_wp2_with fail
      go_ret2
      exact ⟨_, rfl, ⟨_, _, _, rfl, SliceR.nil _ _ _⟩, et⟩
    | true =>
      have HKQ := Lib.hid (fun (w' : World) (e : Ext w1 w') => HK.out w' (et.trans e))
      clear HK HB
      go_wp2_with fail
      go_quiet ((go_at_call 149; exact RetQ.quiet (HKQ.out _ (Ext.drewN _ _))))
      go_wp2_with fail
      go_ret2
      exact ⟨_, rfl, ⟨_, _, _, rfl, HF.out _ (et.trans (Ext.drewN _ _))⟩, et.trans (Ext.drewN _ _)⟩
  | succ r ih =>
    intro pre hl lo w v z h hlw hz1 hz2 hz3 hs
    have HB := Lib.hid (fun (w' : World) (e : Ext w w') => l02Begins_w w' mk v z pre (stable_ints.ext h e) hs)
    obtain ⟨⟨hc1, hc9⟩, ⟨hd1, hd9⟩, -⟩ := ok
    have HOw := Lib.hid (fun (w' : World) (e : Ext w w') => l01Own_c w' v z pre (stable_ints.ext h e) (by omega))
    have HIH := Lib.hid (fun (d : Nat) (h : d < mk.d.toNat) (w' : World) (u : Value) (y : Zone) (g : IntsR y w' u (pre ++ [(d : Int)])) (q0 : lo ≤ w'.heap.size) (q1 : lo ≤ y.lo) (q2 : y.hi ≤ w'.heap.size) (q3 : y.own = true) => ih (pre ++ [(d : Int)]) (by rw [List.length_append, List.length_singleton]; omega) lo w' u y g q0 q1 q2 q3 (hs.snoc (by omega)))
    have HMp := Lib.hid (IntsR.mem h)
    have Hrl : Hid (pre.length ≤ 9) := by show _ ≤ _; omega
    obtain ⟨c, dd, s, m, l⟩ := mk
    unfold MK.v at *
    simp only at hl hc1 hc9 hd1 hd9 HB HIH ⊢
    obtain ⟨D, rfl⟩ := Int.eq_ofNat_of_zero_le (by omega : 0 ≤ dd)
    simp only [Int.toNat_natCast] at HIH
    obtain ⟨a, n, cap, rfl, hn, hmax, -⟩ := SliceR.shape h
    have hb : ((n : Int) == c) = false := by rw [beq_eq_false_iff_ne]; omega
    clear h hs hn hl ih hz1 hz2 hz3
    have HLW := Lib.hid hlw
    clear hlw
    go_enter Tryz.func114, Tryz.ntmps114
    go_wp2_with fail
    generalize hw0 : World.alloc _ _ = w0
    obtain ⟨e0, S0⟩ := mk_box (mk := ⟨c, D, s, m, l⟩) hw0
    clear hw0
    have HS := Lib.hid S0
    obtain ⟨c0, c1, c2, c3, c4⟩ := S0
    go_wp2_with fail
    refine Calls.mono (HB.out w0 e0) ?_
    rintro e w1 hr
    obtain ⟨_, rfl, hq, e1⟩ := ret_ext hr
    obtain ⟨q, rfl⟩ := hq
    clear hr c0 c1 c2 c3 c4
    replace HS := Lib.hid (HS.out.ext e1)
    obtain ⟨c0, c1, c2, c3, c4⟩ := HS.out
    have et := e0.trans e1
    cases q with
    | false =>
      go_wp2_with fail
      go_ret2
      exact ⟨_, rfl, ⟨_, _, _, rfl, SliceR.nil _ _ _⟩, et⟩
    | true =>
      clear HB
      go_wp2_with fail
      clear c0 c1 c2 c3 c4
      go_loopw [6, 7, 8] (fun s6 _ _ wr => ∃ d : Nat, d ≤ D ∧ s6 = .int .i64 d ∧ Ext w1 wr) (fun s6 _ _ _ => D - (intOf s6).toNat)
      case atStart => exact ⟨0, Nat.zero_le _, rfl, Ext.refl _⟩
      case round =>
        obtain ⟨d, hd, rfl, ew⟩ := hrel
        have etw := et.trans ew
        have HLr : Hid (lo ≤ wr.heap.size) := Nat.le_trans HLW.out etw.size
        have HCel : Hid (∀ w', Ext wr w' → w'.cell? ⟨w.heap.size, 0, none⟩ = some (.int .i64 c) ∧ w'.cell? ⟨w.heap.size, 1, none⟩ = some (.int .i64 D) ∧ w'.cell? ⟨w.heap.size, 2, none⟩ = some (.int .i64 s) ∧ w'.cell? ⟨w.heap.size, 3, none⟩ = some (.int .i64 m) ∧ w'.cell? ⟨w.heap.size, 4, none⟩ = some (.int .i64 l)) := fun w' e => HS.out.ext (ew.trans e)
        obtain ⟨c0, c1, c2, c3, c4⟩ := HS.out.ext ew
        by_cases hlt : d < D
        · have HO := Lib.hid (fun (w' : World) (e : Ext wr w') => HOw.out w' (etw.trans e))
          have HId := Lib.hid (HIH.out d hlt)
          have hdI : I64 (d : Int) := by unfold I64; omega
          have HM : Hid (∀ x ∈ pre ++ [(d : Int)], I64 x) := fun x hx => by
            rcases List.mem_append.1 hx with h | h
            · exact HMp.out x h
            · rw [List.mem_singleton.1 h]; exact hdI
          have HI1 : Hid (∀ (w' : World) (u : Value) (y : Zone), IntsR y w' u (pre ++ [(d : Int)]) → wr.heap.size ≤ y.lo → y.hi ≤ w'.heap.size → y.own = true → wr.heap.size ≤ w'.heap.size → Calls Tryz.prog 114 #[.agg #[.int .i64 c, .int .i64 D, .int .i64 s, .int .i64 m, .int .i64 l], u] w' (Ret w' fun r' w'' => KeyAny lo r' w'')) := fun w' u y g q1 q2 q3 q4 => HId.out w' u y g (Nat.le_trans HLr.out q4) (Nat.le_trans HLr.out q1) q2 q3
          clear HId HIH
          go_wp2_with fail
          go_region_held3 (fun w' => w'.cell? ⟨w.heap.size, 0, none⟩ = some (.int .i64 c) ∧ w'.cell? ⟨w.heap.size, 1, none⟩ = some (.int .i64 D) ∧ w'.cell? ⟨w.heap.size, 2, none⟩ = some (.int .i64 s) ∧ w'.cell? ⟨w.heap.size, 3, none⟩ = some (.int .i64 m) ∧ w'.cell? ⟨w.heap.size, 4, none⟩ = some (.int .i64 l)) (exact HCel.out _ (by repeat (first | exact Ext.refl _ | assumption | (refine Ext.trans ?_ (Ext.alloc _ _)) | (refine Ext.trans ?_ (Ext.drew _)) | (refine Ext.trans ?_ (by assumption))))) (first | (go_at_call 78; (with_reducible refine (HO.out _ (by repeat (first | exact Ext.refl _ | assumption | (refine Ext.trans ?_ (Ext.alloc _ _)) | (refine Ext.trans ?_ (Ext.drew _)) | (refine Ext.trans ?_ (by assumption))))).mono ?_); rintro e w7 hr7; obtain ⟨r7, rfl, o7, e7⟩ := ret_ext hr7; clear hr7; have o7' := OwnP.lower (B' := wr.heap.size) o7 (Ext.size (by repeat (first | exact Ext.refl _ | assumption | (refine Ext.trans ?_ (Ext.alloc _ _)) | (refine Ext.trans ?_ (Ext.drew _)) | (refine Ext.trans ?_ (by assumption))))); obtain ⟨a7, n7, k7, rfl, -⟩ := OwnP.shape o7') | (refine step_append_of (by rfl) _ _ 41 (by rfl) (by rfl) (by rfl) (fun ty => run_appendR (f := Value.int .i64) (B := wr.heap.size) 41 ty 0 8 Tryz.underlying41 Tryz.infoI64 rfl (fun _ => rfl) (OwnP.ext o7' (by repeat (first | exact Ext.refl _ | assumption | (refine Ext.trans ?_ (Ext.alloc _ _)) | (refine Ext.trans ?_ (Ext.drew _)) | (refine Ext.trans ?_ (by assumption))))) (E := IntR) (fun h => h.1) (ys := [(d : Int)]) (by first | exact ints_one _ (d : Int) _ hdI | exact stable_ints.ext (ints_one _ (d : Int) _ hdI) (by repeat (first | exact Ext.refl _ | assumption | (refine Ext.trans ?_ (Ext.alloc _ _)) | (refine Ext.trans ?_ (Ext.drew _)) | (refine Ext.trans ?_ (by assumption))))) (by have := Hrl.out; rw [List.length_singleton]; omega) (by decide) (Ext.size (by repeat (first | exact Ext.refl _ | assumption | (refine Ext.trans ?_ (Ext.alloc _ _)) | (refine Ext.trans ?_ (Ext.drew _)) | (refine Ext.trans ?_ (by assumption)))))) ?_; intro v8 w8 h8; obtain ⟨o8, -, b8, -⟩ := h8; have e8 : Ext wr w8 := Ext.to' (a := wr) (by repeat (first | exact Ext.refl _ | assumption | (refine Ext.trans ?_ (Ext.alloc _ _)) | (refine Ext.trans ?_ (Ext.drew _)) | (refine Ext.trans ?_ (by assumption)))) b8; clear b8; have i8 := OwnP.ints o8 HM.out (Nat.le_refl _); obtain ⟨a8, n8, k8, rfl, -⟩ := OwnP.shape o8) | (go_at_call 114; refine (HI1.out _ _ _ (stable_ints.ext i8 (by repeat (first | exact Ext.refl _ | assumption | (refine Ext.trans ?_ (Ext.alloc _ _)) | (refine Ext.trans ?_ (Ext.drew _)) | (refine Ext.trans ?_ (by assumption))))) (Nat.le_refl _) (Ext.size (by repeat (first | exact Ext.refl _ | assumption | (refine Ext.trans ?_ (Ext.alloc _ _)) | (refine Ext.trans ?_ (Ext.drew _)) | (refine Ext.trans ?_ (by assumption))))) rfl (Ext.size (by repeat (first | exact Ext.refl _ | assumption | (refine Ext.trans ?_ (Ext.alloc _ _)) | (refine Ext.trans ?_ (Ext.drew _)) | (refine Ext.trans ?_ (by assumption)))))).mono ?_; rintro e w9 hr9; obtain ⟨r9, rfl, ⟨u9, b9, k9, rfl, i9⟩, e9⟩ := ret_ext hr9; clear hr9; have e99 : Ext wr w9 := (by repeat (first | exact Ext.refl _ | assumption | (refine Ext.trans ?_ (Ext.alloc _ _)) | (refine Ext.trans ?_ (Ext.drew _)) | (refine Ext.trans ?_ (by assumption))))) | fail)
          all_goals
            cases b9 with
            | true =>
              go_wp2_with fail
              go_ret2
              exact ⟨_, rfl, ⟨_, _, _, rfl, i9⟩, etw.trans e99⟩
            | false =>
              go_wp2_with fail
              go_roundw
              case measure => (simp [intOf]; omega)
              exact ⟨d + 1, by omega, by go_num, ew.trans e99⟩
        · go_wp2_with fail
          go_ret2
          exact ⟨_, rfl, ⟨_, _, _, rfl, SliceR.nil _ _ _⟩, etw⟩

set_option maxRecDepth 20000 in
set_option maxHeartbeats 2000000 in
theorem l02Next_w (mk : MK) (ok : MkR mk) (w : World) (v : Value) (z : Zone) (xs : List Int) (h : IntsR z w v xs) (hl : xs.length = mk.c.toNat) (hs : Small9 xs) :
    Calls Tryz.prog 113 #[mk.v, v] w (Ret w fun r' w' => KeyAny w.heap.size r' w') := by
  obtain ⟨⟨hc1, hc9⟩, ⟨hd1, hd9⟩, hs9⟩ := ok
  have HOw := Lib.hid (fun (i : Nat) (hi : i ≤ xs.length) (w' : World) (e : Ext w w') (a : Option Addr) (n cap : Nat) (hv : v = .slice a n cap) => l01Own_c w' (.slice a i cap) z (xs.take i) (SliceR.front (stable_ints.ext (hv ▸ h) e) i (by obtain ⟨a', n', c', he, hn, -⟩ := SliceR.shape h; rw [hv] at he; injection he with _ e2 _; omega)) (by rw [List.length_take]; omega))
  have HIH := Lib.hid (fun (i d : Nat) (hi : i < xs.length) (h : d < mk.d.toNat) (w' : World) (u : Value) (y : Zone) (g : IntsR y w' u (xs.take i ++ [(d : Int)])) (q0 : w.heap.size ≤ w'.heap.size) (q1 : w.heap.size ≤ y.lo) (q2 : y.hi ≤ w'.heap.size) (q3 : y.own = true) => l02First_w mk ⟨⟨hc1, hc9⟩, ⟨hd1, hd9⟩, hs9⟩ (xs.length - 1 - i) (xs.take i ++ [(d : Int)]) (by rw [List.length_append, List.length_singleton, List.length_take]; omega) w.heap.size w' u y g q0 q1 q2 q3 ((hs.take i).snoc (by omega)))
  have HMp := Lib.hid (IntsR.mem h)
  have HX : Hid (∀ i, i < xs.length → ∃ k : Nat, xs.getD i 0 = k ∧ k ≤ 100) := fun i hi => ⟨(xs.getD i 0).toNat, by have := hs i hi; omega, by have := hs i hi; omega⟩
  obtain ⟨c, dd, s, m, l⟩ := mk
  unfold MK.v at *
  simp only at hl hc1 hc9 hd1 hd9 HIH ⊢
  obtain ⟨D, rfl⟩ := Int.eq_ofNat_of_zero_le (by omega : 0 ≤ dd)
  simp only [Int.toNat_natCast] at HIH
  obtain ⟨a, n, cap, rfl, hn, hmax, -⟩ := SliceR.shape h
  replace HOw := Lib.hid (fun (i : Nat) (hi : i ≤ xs.length) (w' : World) (e : Ext w w') => HOw.out i hi w' e a n cap rfl)
  have hcap : n ≤ cap := by
    obtain ⟨a', n', cap', he, -, -, hh, -⟩ := SliceR.shape h
    injection he with e1 e2 e3
    omega
  have HE := Lib.hid (fun (k : Nat) (hk : k < n) => ints_at h hk)
  rw [← hn] at HIH HX HOw
  have hn6 : n ≤ 9 := by omega
  have hxl : Hid (xs.length = n) := hn.symm
  clear h hs hn hl
  go_enter Tryz.func113, Tryz.ntmps113
  go_wp2_with fail
  generalize hw0 : World.alloc _ _ = w0
  obtain ⟨e0, S0⟩ := mk_box (mk := ⟨c, D, s, m, l⟩) hw0
  clear hw0
  have HS := Lib.hid S0
  clear S0
  have hwn : IntKind.i64.wrap ((n : Int) - 1) = (n : Int) - 1 := IntWalk.i64_in _ (by omega)
  go_wp2_with fail
  go_loopw [6, 7, 8, 9] (fun s6 _ _ _ wr => ∃ i1 : Nat, i1 ≤ n ∧ s6 = .int .i64 ((i1 : Int) - 1) ∧ Ext w0 wr) (fun s6 _ _ _ _ => (intOf s6 + 1).toNat)
  case atStart => exact ⟨n, Nat.le_refl _, rfl, Ext.refl _⟩
  case round =>
    obtain ⟨i1, hi1, rfl, ew⟩ := hrel
    have etw := e0.trans ew
    cases i1 with
    | zero =>
      have hz : ((0 : Nat) : Int) - 1 = -1 := rfl
      rw [hz]
      go_wp2_with fail
      go_ret2
      exact ⟨_, rfl, ⟨_, _, _, rfl, SliceR.nil _ _ _⟩, etw⟩
    | succ i =>
      have hz : ((i + 1 : Nat) : Int) - 1 = (i : Int) := by omega
      rw [hz]
      have hin : i < n := by omega
      obtain ⟨b, off, rfl, -, hcx⟩ := HE.out i hin
      replace hcx := hcx wr etw
      obtain ⟨kd, hkd, hkD⟩ := HX.out i hin
      rw [hkd] at hcx
      clear hkd hz
      have hnn : ¬ ((i : Int) < 0) := by omega
      obtain ⟨wo, rfl⟩ : ∃ wo, wo = wr := ⟨_, rfl⟩
      go_wp2_with fail
      go_loopw [7, 8, 9] (fun s7 _ _ wr => ∃ d : Nat, d ≤ 200 ∧ s7 = .int .i64 d ∧ Ext w0 wr) (fun s7 _ _ _ => 300 - (intOf s7).toNat)
      case atStart => exact ⟨kd + 1, by omega, by go_num, ew⟩
      case round =>
        obtain ⟨d, hd, rfl, ewd⟩ := hrel
        have etd := e0.trans ewd
        have HLr : Hid (w.heap.size ≤ wr.heap.size) := etd.size
        have HCel : Hid (∀ w', Ext wr w' → w'.cell? ⟨w.heap.size, 0, none⟩ = some (.int .i64 c) ∧ w'.cell? ⟨w.heap.size, 1, none⟩ = some (.int .i64 D) ∧ w'.cell? ⟨w.heap.size, 2, none⟩ = some (.int .i64 s) ∧ w'.cell? ⟨w.heap.size, 3, none⟩ = some (.int .i64 m) ∧ w'.cell? ⟨w.heap.size, 4, none⟩ = some (.int .i64 l)) := fun w' e => HS.out.ext (ewd.trans e)
        obtain ⟨c0, c1, c2, c3, c4⟩ := HS.out.ext ewd
        by_cases hlt : d < D
        · have HO := Lib.hid (fun (w' : World) (e : Ext wr w') => HOw.out i (by omega) w' (etd.trans e))
          have HId := Lib.hid (HIH.out i d hin hlt)
          have hdI : I64 (d : Int) := by unfold I64; omega
          have HM : Hid (∀ x ∈ xs.take i ++ [(d : Int)], I64 x) := fun x hx => by
            rcases List.mem_append.1 hx with h | h
            · exact HMp.out x (List.mem_of_mem_take h)
            · rw [List.mem_singleton.1 h]; exact hdI
          have Hrl : Hid ((xs.take i).length ≤ 9) := by show _ ≤ _; rw [List.length_take]; have := hxl.out; omega
          have hic : i ≤ cap := by omega
          generalize xs.take i = pre at *
          have HI1 : Hid (∀ (w' : World) (u : Value) (y : Zone), IntsR y w' u (pre ++ [(d : Int)]) → wr.heap.size ≤ y.lo → y.hi ≤ w'.heap.size → y.own = true → wr.heap.size ≤ w'.heap.size → Calls Tryz.prog 114 #[.agg #[.int .i64 c, .int .i64 D, .int .i64 s, .int .i64 m, .int .i64 l], u] w' (Ret w' fun r' w'' => KeyAny w.heap.size r' w'')) := fun w' u y g q1 q2 q3 q4 => HId.out w' u y g (Nat.le_trans HLr.out q4) (Nat.le_trans HLr.out q1) q2 q3
          clear HId HIH
          go_wp2_with fail
          go_region_held3 (fun w' => w'.cell? ⟨w.heap.size, 0, none⟩ = some (.int .i64 c) ∧ w'.cell? ⟨w.heap.size, 1, none⟩ = some (.int .i64 D) ∧ w'.cell? ⟨w.heap.size, 2, none⟩ = some (.int .i64 s) ∧ w'.cell? ⟨w.heap.size, 3, none⟩ = some (.int .i64 m) ∧ w'.cell? ⟨w.heap.size, 4, none⟩ = some (.int .i64 l)) (exact HCel.out _ (by repeat (first | exact Ext.refl _ | assumption | (refine Ext.trans ?_ (Ext.alloc _ _)) | (refine Ext.trans ?_ (Ext.drew _)) | (refine Ext.trans ?_ (by assumption))))) (first | (go_at_call 78; (with_reducible refine (HO.out _ (by repeat (first | exact Ext.refl _ | assumption | (refine Ext.trans ?_ (Ext.alloc _ _)) | (refine Ext.trans ?_ (Ext.drew _)) | (refine Ext.trans ?_ (by assumption))))).mono ?_); rintro e w7 hr7; obtain ⟨r7, rfl, o7, e7⟩ := ret_ext hr7; clear hr7; have o7' := OwnP.lower (B' := wr.heap.size) o7 (Ext.size (by repeat (first | exact Ext.refl _ | assumption | (refine Ext.trans ?_ (Ext.alloc _ _)) | (refine Ext.trans ?_ (Ext.drew _)) | (refine Ext.trans ?_ (by assumption))))); obtain ⟨a7, n7, k7, rfl, -⟩ := OwnP.shape o7') | (refine step_append_of (by rfl) _ _ 41 (by rfl) (by rfl) (by rfl) (fun ty => run_appendR (f := Value.int .i64) (B := wr.heap.size) 41 ty 0 8 Tryz.underlying41 Tryz.infoI64 rfl (fun _ => rfl) (OwnP.ext o7' (by repeat (first | exact Ext.refl _ | assumption | (refine Ext.trans ?_ (Ext.alloc _ _)) | (refine Ext.trans ?_ (Ext.drew _)) | (refine Ext.trans ?_ (by assumption))))) (E := IntR) (fun h => h.1) (ys := [(d : Int)]) (by first | exact ints_one _ (d : Int) _ hdI | exact stable_ints.ext (ints_one _ (d : Int) _ hdI) (by repeat (first | exact Ext.refl _ | assumption | (refine Ext.trans ?_ (Ext.alloc _ _)) | (refine Ext.trans ?_ (Ext.drew _)) | (refine Ext.trans ?_ (by assumption))))) (by have := Hrl.out; rw [List.length_singleton]; omega) (by decide) (Ext.size (by repeat (first | exact Ext.refl _ | assumption | (refine Ext.trans ?_ (Ext.alloc _ _)) | (refine Ext.trans ?_ (Ext.drew _)) | (refine Ext.trans ?_ (by assumption)))))) ?_; intro v8 w8 h8; obtain ⟨o8, -, b8, -⟩ := h8; have e8 : Ext wr w8 := Ext.to' (a := wr) (by repeat (first | exact Ext.refl _ | assumption | (refine Ext.trans ?_ (Ext.alloc _ _)) | (refine Ext.trans ?_ (Ext.drew _)) | (refine Ext.trans ?_ (by assumption)))) b8; clear b8; have i8 := OwnP.ints o8 HM.out (Nat.le_refl _); obtain ⟨a8, n8, k8, rfl, -⟩ := OwnP.shape o8) | (go_at_call 114; refine (HI1.out _ _ _ (stable_ints.ext i8 (by repeat (first | exact Ext.refl _ | assumption | (refine Ext.trans ?_ (Ext.alloc _ _)) | (refine Ext.trans ?_ (Ext.drew _)) | (refine Ext.trans ?_ (by assumption))))) (Nat.le_refl _) (Ext.size (by repeat (first | exact Ext.refl _ | assumption | (refine Ext.trans ?_ (Ext.alloc _ _)) | (refine Ext.trans ?_ (Ext.drew _)) | (refine Ext.trans ?_ (by assumption))))) rfl (Ext.size (by repeat (first | exact Ext.refl _ | assumption | (refine Ext.trans ?_ (Ext.alloc _ _)) | (refine Ext.trans ?_ (Ext.drew _)) | (refine Ext.trans ?_ (by assumption)))))).mono ?_; rintro e w9 hr9; obtain ⟨r9, rfl, ⟨u9, b9, k9, rfl, i9⟩, e9⟩ := ret_ext hr9; clear hr9; have e99 : Ext wr w9 := (by repeat (first | exact Ext.refl _ | assumption | (refine Ext.trans ?_ (Ext.alloc _ _)) | (refine Ext.trans ?_ (Ext.drew _)) | (refine Ext.trans ?_ (by assumption))))) | fail)
          all_goals
            cases b9 with
            | true =>
              go_wp2_with fail
              go_ret2
              exact ⟨_, rfl, ⟨_, _, _, rfl, i9⟩, etd.trans e99⟩
            | false =>
              go_wp2_with fail
              go_roundw
              case measure => (simp [intOf]; omega)
              exact ⟨d + 1, by omega, by go_num, ewd.trans e99⟩
        · have hwi : IntKind.i64.wrap ((i : Int) - 1) = (i : Int) - 1 := IntWalk.i64_in _ (by omega)
          go_wp2_with fail
          go_roundw
          case rel => exact ⟨i, by omega, rfl, ewd⟩
          case measure => simp [intOf] <;> omega

set_option maxRecDepth 20000 in
set_option maxHeartbeats 4000000 in
theorem l02Some_w (w : World) (g : Nat) (h : Src g w) (mk : MK) (ok : MkR mk) : Calls Tryz.prog 75 #[.pointer (some ⟨g, 0, none⟩), mk.v] w (DrawR g w (DrawL w)) := by
  have hlt := h.lt
  have HNy : Hid (∀ (w' : World) (v : Value) (z : Zone) (xs : List Int), IntsR z w' v xs → xs.length = mk.c.toNat → (∀ i, i < xs.length → 0 ≤ xs.getD i 0 ∧ xs.getD i 0 ≤ 100) → Calls Tryz.prog 113 #[mk.v, v] w' (Ret w' fun r' w'' => KeyAny w'.heap.size r' w'')) := fun w' v z xs q hl hs => l02Next_w mk ok w' v z xs q hl hs
  have HF := Lib.hid (fun (w' : World) => l02First_w mk ok mk.c.toNat [] (by simp) w'.heap.size w' (.slice none 0 0) (.new w' w') (SliceR.nil _ _ _) (Nat.le_refl _) (Nat.le_refl _) (Nat.le_refl _) rfl (fun i hi => by simp at hi))
  obtain ⟨⟨hc1, hc9⟩, ⟨hd1, hd9⟩, -⟩ := ok
  obtain ⟨c, d, s, m, lm⟩ := mk
  simp only at hc1 hc9 hd1 hd9
  have hdw := (Dr.refl h).alloc (.cells #[.int .i64 c, .int .i64 d, .int .i64 s, .int .i64 m, .int .i64 lm] 25)
  have hbx := Box5.new w ⟨c, d, s, m, lm⟩ 25
  have hsz0 : (w.alloc (.cells #[.int .i64 c, .int .i64 d, .int .i64 s, .int .i64 m, .int .i64 lm] 25)).heap.size = w.heap.size + 1 := by simp
  unfold MK.v at *
  simp only at HNy HF ⊢
  clear h
  generalize hw0 : w.alloc (.cells #[.int .i64 c, .int .i64 d, .int .i64 s, .int .i64 m, .int .i64 lm] 25) = w0 at *
  have HB : Hid (∀ w', Dr g w0 w' → Box5 w.heap.size ⟨c, d, s, m, lm⟩ w') := fun w' hd => hbx.dr hd (by omega)
  have hr0 : Dr g w0 w0 := Dr.refl hdw.src
  have oi : OwnP (Value.int .i64) 2 w0.heap.size (w0.alloc (.cells #[] 2)) (.slice (some ⟨w.heap.size + 1, 0, none⟩) 0 0) [] := by rw [← hsz0]; exact OwnP.empty (Nat.le_refl _)
  have di : Dr g w0 (w0.alloc (.cells #[] 2)) := hr0.alloc _
  have hgr : g < w0.heap.size := by omega
  go_enter Tryz.func75, Tryz.ntmps75
  go_wp2_with fail
  generalize w0.alloc (.cells #[] 2) = w1 at *
  clear hw0 hbx
  go_loopw [5, 6] (fun s5 s6 wx => ∃ (k : Nat) (l : List Int), s6 = .int .i64 k ∧ (k : Int) ≤ c ∧ l.length = k ∧ OwnP (Value.int .i64) 2 w0.heap.size wx s5 l ∧ (∀ y ∈ l, 0 ≤ y ∧ y ≤ 100) ∧ Dr g w0 wx) (fun _ s6 _ => 9 - (intOf s6).toNat)
  case atStart => exact ⟨0, [], rfl, by omega, rfl, oi, by simp, di⟩
  case round =>
    obtain ⟨k, l, rfl, hk, hl, ho, hy, hdx⟩ := hrel
    clear oi di
    obtain ⟨⟨c0, c1, c2, c3, c4⟩, f0, f1, f2, f3, f4⟩ := (HB.out _ hdx).out
    simp only at c0 c1 c2 c3 c4
    have hsz := hdx.size
    have Hy := Lib.hid hy
    clear hy
    by_cases hlt2 : (k : Int) < c
    · have hcall := l01Next_c wr g hdx.src d (by unfold I64; omega)
      go_wp2_with fail
      refine Calls.mono hcall ?_
      rintro e w4 ⟨_, rfl, ⟨y, rfl, hy0, hy1⟩, hd4⟩
      clear hcall c0 c1 c2 c3 c4 f0 f1 f2 f3 f4
      replace ho := ho.dr hd4 hgr
      have hd5 := hdx.trans hd4
      have hs4 := hd4.size
      clear hd4 hdx
      go_wp2_with (at_builtin; (refine wpList_drawInt (g := g) (w0 := w0) rfl _ _ 41 rfl Tryz.underlying41 Tryz.infoI64 rfl ho y rfl (by omega) hd5 (Nat.le_refl _) (by omega) ?_); intro v6 w6 hown6 hd6 hs6)
      go_wp2_with fail
      exact ⟨⟨k + 1, l ++ [y], by go_num, by omega, by simp; omega, hown6, fun x hx => by
        rcases List.mem_append.1 hx with hx | hx
        · exact Hy.out x hx
        · rw [List.mem_singleton.1 hx]; omega, hd6⟩, by simp [intOf]; omega⟩
    · have hi := OwnP.ints ho (fun x hx => by have := Hy.out x hx; unfold I64; omega) (Nat.le_refl _)
      have hcall := HNy.out wr _ _ l hi (by omega) (fun i hi => by
        have e : l.getD i 0 = l[i] := by simp [hi]
        rw [e]; exact Hy.out _ (List.getElem_mem hi))
      obtain ⟨a5, n5, k5, rfl, -⟩ := OwnP.shape ho
      clear ho hi
      go_wp2_with fail
      refine Calls.mono hcall ?_
      rintro e w4 hr
      obtain ⟨r, rfl, hk4, e4⟩ := ret_ext hr
      clear hcall hr c0 c1 c2 c3 c4 f0 f1 f2 f3 f4
      obtain ⟨u, b, ks, rfl, hi⟩ := hk4
      have hd4 := hdx.below e4
      have HI := Lib.hid hi
      have hs4 := hd4.size
      clear hi
      obtain ⟨⟨c0, c1, c2, c3, c4⟩, f0, f1, f2, f3, f4⟩ := (HB.out _ hd4).out
      simp only at c0 c1 c2 c3 c4
      cases b with
      | true =>
        go_wp2_with fail
        go_ret
        exact ⟨_, rfl, ⟨_, stable_ints.sub HI.out ⟨fun k hk => ⟨by have := hk.1; simp only at this ⊢; omega, hk.2⟩, fun h => rfl⟩⟩, hdw.trans hd4⟩
      | false =>
        have hcall := HF.out w4
        go_wp2_with fail
        refine Calls.mono hcall ?_
        rintro e w5 hr
        obtain ⟨r, rfl, hk5, e5⟩ := ret_ext hr
        clear hcall hr
        obtain ⟨u5, b5, ks5, rfl, hi⟩ := hk5
        have hd5 := hd4.below e5
        have HI5 := Lib.hid hi
        clear hi c0 c1 c2 c3 c4 f0 f1 f2 f3 f4
        go_wp2_with fail
        go_ret
        exact ⟨_, rfl, ⟨_, stable_ints.sub HI5.out ⟨fun k hk => ⟨by have := hk.1; simp only at this ⊢; omega, hk.2⟩, fun h => rfl⟩⟩, hdw.trans hd5⟩
end Go.Proofs.YthgmojggpjnckaaGreat
