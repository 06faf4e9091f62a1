/- Proved: ShortRoute: program and reference compute the same, for all arguments. -/
import Derived.Test.YtoaoonmeoeifgaaChecked
import Derived.Test.YtoaoonmeoeifgaaURoutes
import Derived.Test.YtoaoonmeoeifgaaUMembers
namespace Go.Proofs.Ytoaoonmeoeifgaa
open Go.ChangeShapes Go.WideShapes Go.ChangeAt Go.RowKit
set_option linter.unusedVariables false

theorem cmpL_asymm {a b : List Int} (h : cmpL a b < 0) : ¬ cmpL b a < 0 := fun h' => by
  have := cmpL_trans h h'
  rw [cmpL_self] at this
  omega
theorem routesN_sorted {ds : List (List Int)} {op : List Int} {t : Int} (hop : op.Pairwise (· < ·)) : ∀ (n : Nat) (s : List Bool) (p : Int), (routesN ds op t n s p).Pairwise (fun a b => cmpL a b < 0)
  | 0, s, p => by unfold routesN; split <;> simp
  | n+1, s, p => by
    by_cases hp : p = t
    · rw [hp, routesN_end]; simp
    · rw [routesN_succ hp, List.flatMap, List.pairwise_flatten]
      constructor
      · intro l hl
        obtain ⟨d, _, rfl⟩ := List.mem_map.1 hl
        unfold routesBy
        split
        · rw [List.pairwise_map]
          exact (routesN_sorted hop n _ _).imp (fun {a b} h => by simpa [cmpL] using h)
        · simp
      · rw [List.pairwise_map]
        refine hop.imp (fun {d e} hde x hx y hy => ?_)
        unfold routesBy at hx hy
        split at hx
        · split at hy
          · obtain ⟨r, _, rfl⟩ := List.mem_map.1 hx
            obtain ⟨q, _, rfl⟩ := List.mem_map.1 hy
            simp only [cmpL]
            rw [if_pos hde]; decide
          · simp at hy
        · simp at hx
theorem routesN_ne {ds : List (List Int)} {op : List Int} {t p : Int} (hp : p ≠ t) : ∀ (n : Nat) (s : List Bool), ∀ r ∈ routesN ds op t n s p, 0 < r.length
  | 0, s => by rw [routesN_zero hp]; simp
  | n+1, s => by
    rw [routesN_succ hp]
    intro r hr
    obtain ⟨d, _, hr⟩ := List.mem_flatMap.1 hr
    unfold routesBy at hr
    split at hr
    · obtain ⟨q, _, rfl⟩ := List.mem_map.1 hr; simp
    · simp at hr
theorem rising_pairwise {op : List Int} {n : Int} (h : rising op n = true) : op.Pairwise (· < ·) := by
  rw [List.pairwise_iff_getElem]
  intro i j hi hj hij
  have step : ∀ d, ∀ k, k + d + 1 < op.length → op.getD k 0 < op.getD (k + d + 1) 0 := by
    intro d
    induction d with
    | zero =>
      intro k hk
      unfold rising at h
      rw [List.all_eq_true] at h
      have := h (k + 1) (List.mem_range.2 (by omega))
      unfold risingAt at this
      rw [decide_eq_true_iff] at this
      have := this.2.2 (by omega)
      simpa using this
    | succ d ih =>
      intro k hk
      have h1 := ih k (by omega)
      unfold rising at h
      rw [List.all_eq_true] at h
      have := h (k + d + 1 + 1) (List.mem_range.2 (by omega))
      unfold risingAt at this
      rw [decide_eq_true_iff] at this
      have := this.2.2 (by omega)
      simp only [Nat.add_sub_cancel] at this
      have e : k + (d + 1) + 1 = k + d + 1 + 1 := by omega
      rw [e]; omega
  have := step (j - i - 1) i (by omega)
  have e : i + (j - i - 1) + 1 = j := by omega
  rw [e] at this
  simpa [hi, hj] using this

/-- the best one of the first -/
def bestR (l : List (List Int)) (k : Nat) : Option (List Int) := bestOf (fun _ => true) (l.take k)
theorem bestR_succ {l : List (List Int)} {k : Nat} (hk : k < l.length) : bestR l (k+1) = bestStep (fun _ => true) (bestR l k) l[k] := by
  unfold bestR bestOf; rw [List.take_succ_eq_append_getElem hk, List.foldl_append]; rfl
theorem bestR_zero (l : List (List Int)) : bestR l 0 = none := rfl
theorem bestR_one {l : List (List Int)} (h : 0 < l.length) : bestR l 1 = some l[0] := by
  rw [bestR_succ h, bestR_zero]; rfl
theorem bestR_all (l : List (List Int)) : bestR l l.length = bestOf (fun _ => true) l := by unfold bestR; rw [List.take_length]
theorem bestR_mem {l : List (List Int)} {k : Nat} {b : List Int} (h : bestR l k = some b) : b ∈ l.take k := by
  have := bestOf_is (fun _ => true) (l.take k)
  unfold bestR at h
  rw [h] at this
  exact this.1
theorem bestR_short {l : List (List Int)} {k : Nat} {b : List Int} (hs : l.Pairwise (fun a b => cmpL a b < 0)) (hk : k < l.length) (h : bestR l k = some b) : bestR l (k+1) = if l[k].length < b.length then some l[k] else some b := by
  have hm := bestR_mem h
  have hlt : cmpL b l[k] < 0 := by
    obtain ⟨j, hj, rfl⟩ := List.getElem_of_mem hm
    rw [List.getElem_take]
    have hj' : j < k := by simp at hj; omega
    exact List.pairwise_iff_getElem.1 hs j k (by omega) hk hj'
  have e : lessL l[k] b = decide (l[k].length < b.length) := by
    unfold lessL; rw [decide_eq_false (cmpL_asymm hlt)]; simp
  rw [bestR_succ hk, h]
  unfold bestStep
  simp only [Bool.true_and, e, decide_eq_true_eq]

def shortRoute (x : Int × List (List Int)) (f t : Int) (op : List Int) : List Int × Int :=
  if routesCode x.1 x.2 f t op = 0 then (match bestOf (fun _ => true) (routesL x.1 x.2 f t op) with | none => ([], 4) | some b => (b, 0)) else ([], routesCode x.1 x.2 f t op)
theorem shortRoute_no {x : Int × List (List Int)} {f t : Int} {op : List Int} (h : routesCode x.1 x.2 f t op ≠ 0) : shortRoute x f t op = ([], routesCode x.1 x.2 f t op) := by unfold shortRoute; rw [if_neg h]
theorem shortRoute_some {x : Int × List (List Int)} {f t : Int} {op : List Int} (h : routesCode x.1 x.2 f t op = 0) {b : List Int} (hb : bestOf (fun _ => true) (routesL x.1 x.2 f t op) = some b) : shortRoute x f t op = (b, 0) := by unfold shortRoute; rw [if_pos h, hb]
theorem shortRoute_none {x : Int × List (List Int)} {f t : Int} {op : List Int} (h : routesCode x.1 x.2 f t op = 0) (hb : bestOf (fun _ => true) (routesL x.1 x.2 f t op) = none) : shortRoute x f t op = ([], 4) := by unfold shortRoute; rw [if_pos h, hb]
theorem shortRoute_length (x : Int × List (List Int)) (f t : Int) (op : List Int) : ((shortRoute x f t op).1.length : Int) ≤ 1048576 := by
  by_cases h : routesCode x.1 x.2 f t op = 0
  · cases hb : bestOf (fun _ => true) (routesL x.1 x.2 f t op) with
    | none => rw [shortRoute_none h hb]; simp
    | some b =>
      rw [shortRoute_some h hb]
      have := bestOf_is (fun _ => true) (routesL x.1 x.2 f t op)
      rw [hb] at this
      have := routesN_rlen _ _ _ b this.1
      have := (roomsOk_sides (routesCode_ok h).1).1
      simp only; omega
  · rw [shortRoute_no h]; simp

/-- element k of a list of lists that a call has made -/
theorem RowsR.at {w0 w1 w : World} {a : Option Addr} {n cap : Nat} {l : List (List Int)} (h : RowsR (.new w0 w1) w1 (.slice a n cap) l) (hd : Drew w1 w) (k : Nat) (hk : k < n) (hk' : k < l.length) :
    ∃ b off u, a = some ⟨b, off, none⟩ ∧ w.cell? ⟨b, off + k, none⟩ = some u ∧ IntsR (.new w0 w1) w u l[k] := by
  obtain ⟨a', n', cap', he, -, -, -, -, -, hel⟩ := SliceR.shape h
  injection he with e1 e2 e3
  subst e1; subst e2; subst e3
  obtain ⟨b, off, rfl, -, -, -, u, y, hc, hy, -, hu⟩ := hel k hk'
  exact ⟨b, off, u, rfl, (hd.cell _).trans hc, stable_ints.drew (stable_ints.sub hu hy) hd⟩
theorem IntsR.some_of_ne {z : Zone} {w : World} {v : Value} {xs : List Int} (h : IntsR z w v xs) (hx : 0 < xs.length) : ∃ b off n cap, v = .slice (some ⟨b, off, none⟩) n cap ∧ n = xs.length ∧ n ≤ 9223372036854775807 := by
  obtain ⟨a, n, cap, rfl, hn, hm, -, -, -, hel⟩ := SliceR.shape h
  obtain ⟨b, off, rfl, -⟩ := hel 0 hx
  exact ⟨b, off, n, cap, rfl, hn, hm⟩

set_option maxRecDepth 20000 in
set_option maxHeartbeats 2000000 in
theorem ShortRouteSpec_c (w : World) (v vd : Value) (z y : Zone) (x : Int × List (List Int)) (f t : Int) (hfi : I64 f) (op : List Int) (h : RoomsR z w v x) (hd : IntsR y w vd op) :
    Calls Try.prog 44 #[v, .int .i64 f, .int .i64 t, vd] w (Ret w fun r w' => IntsCode w (shortRoute x f t op) r w') := by
  have hC := fun (wq : World) (hb : Ext w wq) => l25Two_c wq v vd z y x f t op (stable_Rooms.ext h hb) (stable_ints.ext hd hb)
  have hL := fun (h1 : roomsOk x.1 x.2 = true) (h2 : rising op x.2.length = true) (h3 : 0 ≤ f) (h4 : f < x.1) (h5 : f ≠ t) (wq : World) (hb : Ext w wq) (vr : Value) (q : Zone) (hr : IntsR q wq vr [f]) => l25RoutesTop_c wq v vr vd z q y x op f t 1000000 (stable_Rooms.ext h hb) hr (stable_ints.ext hd hb) h1 h2 h3 h4 h5 (by omega)
  obtain ⟨c, ds⟩ := x
  obtain ⟨u, rfl, hc, hrr⟩ := h
  obtain ⟨a, n, cap, rfl, -⟩ := SliceR.shape hrr
  by_cases hk : routesCode c ds f t op = 0
  · have HS := Lib.hid (fun b => shortRoute_some (x := (c, ds)) hk (b := b))
    have HN := Lib.hid (shortRoute_none (x := (c, ds)) hk)
    obtain ⟨k1, k2, ⟨k3, k4⟩, -, k7⟩ := routesCode_ok hk
    replace hL := hL k1 k2 k3 k4 k7
    have hfew := routesL_few (t := t) k1 k2 k3 k4
    have HSo : Hid ((routesL c ds f t op).Pairwise (fun a b => cmpL a b < 0)) := routesN_sorted (rising_pairwise k2) _ _ _
    simp only at hC hL HS HN ⊢
    rw [hk] at hC
    rw [List.take_of_length_le (by omega)] at hL
    generalize shortRoute (c, ds) f t op = res at *
    generalize routesL c ds f t op = l at *
    clear hk k1 k2 k3 k4 k7 hrr hc hd
    have HL := Lib.hid hL; clear hL
    go_enter Try.func44, Try.ntmps44
    go_wp2_with fail
    have hbx := box2 w (.int .i64 c) (.slice a n cap) 40
    generalize hwa : World.alloc w (.cells #[.int .i64 c, .slice a n cap] 40) = wa at *
    obtain ⟨e0, q0, q1, hsz⟩ := hbx
    clear hwa hsz
    refine Calls.mono (hC _ e0) ?_
    rintro e w1 hr1
    obtain ⟨r, rfl, rfl, b1⟩ := ret_ext hr1
    clear hr1
    replace q0 := b1.cell q0
    replace q1 := b1.cell q1
    go_wp2_with fail
    refine Calls.mono (HL.out _ (by repeat (first | exact Ext.refl _ | assumption | (refine Ext.trans ?_ (Ext.alloc _ _)) | (refine Ext.trans ?_ (Ext.drew _)) | (refine Ext.trans ?_ (by assumption)))) _ _ (ints_one _ f 2 hfi)) ?_
    rintro e w2 hr2
    obtain ⟨r, rfl, r2, b2⟩ := ret_ext hr2
    clear hr2 q0 q1 HL hC
    have hbw : Ext w w2 := (by repeat (first | exact Ext.refl _ | assumption | (refine Ext.trans ?_ (Ext.alloc _ _)) | (refine Ext.trans ?_ (Ext.drew _)) | (refine Ext.trans ?_ (by assumption))))
    have hb1' : Ext w w1 := (by repeat (first | exact Ext.refl _ | assumption | (refine Ext.trans ?_ (Ext.alloc _ _)) | (refine Ext.trans ?_ (Ext.drew _)) | (refine Ext.trans ?_ (by assumption))))
    generalize hw1x : World.alloc w1 _ = w1x at *
    have hb1x : Ext w w1x := by rw [← hw1x]; exact hb1'.trans (Ext.alloc _ _)
    clear hw1x
    obtain ⟨al, nl, cl, rfl, hnl, hml, -⟩ := SliceR.shape r2
    have Hnl := Lib.hid hnl; clear hnl
    by_cases h0 : nl = 0
    · have HH := Lib.hid (HN.out (by have := Hnl.out; have : l = [] := List.eq_nil_of_length_eq_zero (by omega); rw [this]; rfl))
      subst h0
      clear HN HS
      go_wp2_with fail
      go_ret2
      exact ⟨_, rfl, IntsCode_nil HH.out, hbw⟩
    · have hl0 : 0 < l.length := by have := Hnl.out; omega
      have hb0 : ((nl : Int) == 0) = false := by rw [beq_eq_false_iff_ne]; omega
      obtain ⟨b, off, u0, rfl, hc0, hu0⟩ := RowsR.at r2 (Drew.refl _) 0 (by omega) hl0
      have H1 := Lib.hid (bestR_one hl0)
      have hl0' : (0 : Int) < nl := by omega
      generalize l[0] = x0 at *
      rw [Nat.add_zero] at hc0
      obtain ⟨a0, n0, c0, rfl, -⟩ := SliceR.shape hu0
      clear h0
      go_wp2_with fail
      go_loopw [12, 13] (fun o i wr => ∃ (k : Nat) (bb : List Int), 1 ≤ k ∧ k ≤ nl ∧ i = .int .i64 k ∧ bestR l k = some bb ∧ IntsR (.new w1x w2) wr o bb ∧ Drew w2 wr) (fun _ i _ => nl - (intOf i).toNat)
      case atStart => exact ⟨1, x0, Nat.le_refl _, by omega, rfl, H1.out, hu0, Drew.refl _⟩
      case round =>
        obtain ⟨k, bb, hk1, hkn, rfl, hbest, hbb, hd⟩ := hrel
        have Hbest := Lib.hid hbest; clear hbest
        by_cases hlt : k < nl
        · have l1 : k < l.length := by have := Hnl.out; omega
          have HB := Lib.hid (bestR_short HSo.out l1 Hbest.out)
          obtain ⟨b', off', uk, he, hck, huk⟩ := RowsR.at r2 hd k hlt l1
          injection he with he; injection he with he1 he2 _
          subst he1; subst he2
          generalize l[k] = xk at *
          obtain ⟨ak, nk, ck, rfl, hnk, hmk, -⟩ := SliceR.shape huk
          obtain ⟨ab, nb, cb, rfl, hnb, hmb, -⟩ := SliceR.shape hbb
          rw [← hnk, ← hnb] at HB
          clear hnk hnb
          by_cases hsh : nk < nb
          · have HB2 : Hid (bestR l (k+1) = some xk) := by show _ = _; rw [HB.out, if_pos hsh]
            clear HB
            go_wp2_with fail
            go_roundw
            case rel => exact ⟨k + 1, xk, by omega, by omega, by go_num, HB2.out, huk, hd⟩
            case measure => simp [intOf]; omega
          · have HB2 : Hid (bestR l (k+1) = some bb) := by show _ = _; rw [HB.out, if_neg hsh]
            clear HB
            go_wp2_with fail
            go_roundw
            case rel => exact ⟨k + 1, bb, by omega, by omega, by go_num, HB2.out, hbb, hd⟩
            case measure => simp [intOf]; omega
        · have hkl : k = l.length := by have := Hnl.out; omega
          have HH := Lib.hid (HS.out bb (by rw [← bestR_all, ← hkl]; exact Hbest.out))
          have hres : IntsR (.new w wr) wr u12 bb := stable_ints.sub hbb ⟨fun k hk => ⟨Nat.le_trans hb1x.size hk.1, Nat.lt_of_lt_of_le hk.2 (Ext.ofDrew hd).size⟩, fun _ => rfl⟩
          clear hkl HS HN H1
          go_wp2_with fail
          go_ret2
          exact ⟨_, rfl, IntsCode_mk HH.out hres, hbw.trans (Ext.ofDrew hd)⟩
  · have HH := Lib.hid (shortRoute_no (x := (c, ds)) hk)
    have hb : (routesCode c ds f t op != 0) = true := by rw [bne_iff_ne]; exact hk
    simp only at hC HH ⊢
    generalize shortRoute (c, ds) f t op = res at *
    generalize routesCode c ds f t op = k at *
    clear hk hL
    go_enter Try.func44, Try.ntmps44
    go_wp2_with fail
    refine Calls.mono (hC _ (Ext.alloc _ _)) ?_
    rintro e w1 hr1
    obtain ⟨r, rfl, rfl, b1⟩ := ret_ext hr1
    go_wp2_with fail
    go_ret2
    exact ⟨_, rfl, IntsCode_nil HH.out, (Ext.alloc _ _).trans b1⟩

/-- the best route so far; none: a slice that is nil -/
def BestS (z : Zone) (w : World) (v : Value) : Option (List Int) → Prop
  | none => v = .slice none 0 0
  | some b => IntsR z w v b ∧ 0 < b.length

set_option maxRecDepth 20000 in
set_option maxHeartbeats 2000000 in
theorem ShortRoute_c (w : World) (v vd : Value) (z y : Zone) (x : Int × List (List Int)) (f t : Int) (hfi : I64 f) (hti : I64 t) (op : List Int) (h : RoomsR z w v x) (hd : IntsR y w vd op) :
    Calls Try.prog 45 #[v, .int .i64 f, .int .i64 t, vd] w (Ret w fun r w' => IntsCode w (shortRoute x f t op) r w') := by
  have hC := fun (wq : World) (hb : Ext w wq) => routesCode_c wq v vd z y x f t hfi hti op (stable_Rooms.ext h hb) (stable_ints.ext hd hb)
  have hL := fun (h1 : roomsOk x.1 x.2 = true) (h2 : rising op x.2.length = true) (h3 : 0 ≤ f) (h4 : f < x.1) (wq : World) (hb : Ext w wq) => routesTo_c wq v vd z y x op f t 1000000000 (stable_Rooms.ext h hb) (stable_ints.ext hd hb) h1 h2 h3 h4 (by omega)
  obtain ⟨c, ds⟩ := x
  obtain ⟨u, rfl, hc, hrr⟩ := h
  obtain ⟨a, n, cap, rfl, -⟩ := SliceR.shape hrr
  by_cases hk : routesCode c ds f t op = 0
  · have HS := Lib.hid (fun b => shortRoute_some (x := (c, ds)) hk (b := b))
    have HN := Lib.hid (shortRoute_none (x := (c, ds)) hk)
    obtain ⟨k1, k2, ⟨k3, k4⟩, -, k7⟩ := routesCode_ok hk
    replace hL := hL k1 k2 k3 k4
    have hfew := routesL_few (t := t) k1 k2 k3 k4
    have HNe : Hid (∀ r ∈ routesL c ds f t op, 0 < r.length) := routesN_ne k7 _ _
    simp only at hC hL HS HN ⊢
    rw [hk] at hC
    rw [List.take_of_length_le (by omega)] at hL
    generalize shortRoute (c, ds) f t op = res at *
    generalize routesL c ds f t op = l at *
    clear hk k1 k2 k3 k4 k7 hrr hc hd
    have HL := Lib.hid hL; clear hL
    have heq : ∀ wq, (binOp .eql 23 (.slice none 0 0) (.slice none 0 0)).run Try.prog wq = .ok (.bool true) wq := fun wq => Lib.run_eql_slice_nil (P := Try.prog) wq 23 2 none 0 0 0 0 Try.underlying23
    go_enter Try.func45, Try.ntmps45
    go_wp2_with fail
    have hbx := box2 w (.int .i64 c) (.slice a n cap) 40
    generalize hwa : World.alloc w (.cells #[.int .i64 c, .slice a n cap] 40) = wa at *
    obtain ⟨e0, q0, q1, hsz⟩ := hbx
    clear hwa hsz
    refine Calls.mono (hC _ e0) ?_
    rintro e w1 hr1
    obtain ⟨r, rfl, rfl, b1⟩ := ret_ext hr1
    clear hr1
    replace q0 := b1.cell q0
    replace q1 := b1.cell q1
    go_wp2_with fail
    refine Calls.mono (HL.out _ (by repeat (first | exact Ext.refl _ | assumption | (refine Ext.trans ?_ (Ext.alloc _ _)) | (refine Ext.trans ?_ (Ext.drew _)) | (refine Ext.trans ?_ (by assumption))))) ?_
    rintro e w2 hr2
    obtain ⟨r, rfl, r2, b2⟩ := ret_ext hr2
    clear hr2 q0 q1 HL hC
    have hbw : Ext w w2 := (by repeat (first | exact Ext.refl _ | assumption | (refine Ext.trans ?_ (Ext.alloc _ _)) | (refine Ext.trans ?_ (Ext.drew _)) | (refine Ext.trans ?_ (by assumption))))
    have hb1' : Ext w w1 := (by repeat (first | exact Ext.refl _ | assumption | (refine Ext.trans ?_ (Ext.alloc _ _)) | (refine Ext.trans ?_ (Ext.drew _)) | (refine Ext.trans ?_ (by assumption))))
    obtain ⟨al, nl, cl, rfl, hnl, hml, -⟩ := SliceR.shape r2
    have Hnl := Lib.hid hnl; clear hnl
    go_wp2_with fail
    go_loopw [11, 28] (fun o i wr => ∃ k : Nat, k ≤ nl ∧ i = .int .i64 k ∧ BestS (.new w1 w2) wr o (bestR l k) ∧ Drew w2 wr) (fun _ i _ => nl - (intOf i).toNat)
    case atStart => exact ⟨0, Nat.zero_le _, rfl, rfl, Drew.refl _⟩
    case round =>
      obtain ⟨k, hkn, rfl, hbest, hd⟩ := hrel
      by_cases hlt : k < nl
      · have l1 : k < l.length := by have := Hnl.out; omega
        have HB := Lib.hid (bestR_succ l1)
        obtain ⟨b', off', uk, rfl, hck, huk⟩ := RowsR.at r2 hd k hlt l1
        have hxl := HNe.out _ (List.getElem_mem l1)
        generalize l[k] = xk at *
        obtain ⟨bk, ok, nk, ck, rfl, -, hmk⟩ := huk.some_of_ne hxl
        generalize hbo : bestR l k = bo at *
        cases bo with
        | none =>
          obtain rfl := hbest
          have HB2 : Hid (bestR l (k+1) = some xk) := Lib.hid (HB.out.trans rfl)
          clear HB hbo
          go_wp2_with fail
          go_roundw
          case rel => exact ⟨k + 1, by omega, by go_num, by rw [HB2.out]; exact ⟨huk, hxl⟩, hd⟩
          case measure => simp [intOf]; omega
        | some bb =>
          obtain ⟨hbb, hbl⟩ := hbest
          obtain ⟨bb', ob, nb, cb, rfl, -, hmb⟩ := hbb.some_of_ne hbl
          have HB2 : Hid (bestR l (k+1) = if lessL xk bb = true then some xk else some bb) := by show _ = _; rw [HB.out]; unfold bestStep; simp
          have heq2 := fun (wq : World) => Lib.run_eql_slice_nil (P := Try.prog) wq 23 2 (some ⟨bb', ob, none⟩) nb cb 0 0 Try.underlying23
          have hcall := fewerOrLess_c wr _ _ _ _ xk bb huk hbb
          generalize lessL xk bb = q at *
          clear HB hbo
          go_wp2_with fail
          refine Calls.mono hcall ?_
          rintro e w5 ⟨rfl, hd5⟩
          clear hcall
          cases q with
          | true =>
            have HB3 := Lib.hid (HB2.out.trans rfl)
            clear HB2
            go_wp2_with fail
            go_roundw
            case rel => exact ⟨k + 1, by omega, by go_num, by rw [HB3.out]; exact ⟨stable_ints.drew huk hd5, hxl⟩, hd.trans hd5⟩
            case measure => simp [intOf]; omega
          | false =>
            have HB3 : Hid (bestR l (k+1) = some bb) := Lib.hid (HB2.out.trans (by simp))
            clear HB2
            go_wp2_with fail
            go_roundw
            case rel => exact ⟨k + 1, by omega, by go_num, by rw [HB3.out]; exact ⟨stable_ints.drew hbb hd5, hbl⟩, hd.trans hd5⟩
            case measure => simp [intOf]; omega
      · have hkl : k = l.length := by have := Hnl.out; omega
        generalize hbo : bestR l k = bo at *
        rw [hkl, bestR_all] at hbo
        cases bo with
        | none =>
          obtain rfl := hbest
          have HH := Lib.hid (HN.out hbo)
          clear hkl HS HN hbo
          go_wp2_with fail
          go_ret2
          exact ⟨_, rfl, IntsCode_nil HH.out, hbw.trans (Ext.ofDrew hd)⟩
        | some bb =>
          obtain ⟨hbb, hbl⟩ := hbest
          obtain ⟨bb', ob, nb, cb, rfl, -, hmb⟩ := hbb.some_of_ne hbl
          have heq2 := fun (wq : World) => Lib.run_eql_slice_nil (P := Try.prog) wq 23 2 (some ⟨bb', ob, none⟩) nb cb 0 0 Try.underlying23
          have HH := Lib.hid (HS.out bb hbo)
          have hres : IntsR (.new w wr) wr (.slice (some ⟨bb', ob, none⟩) nb cb) bb := stable_ints.sub hbb ⟨fun k hk => ⟨Nat.le_trans hb1'.size hk.1, Nat.lt_of_lt_of_le hk.2 (Ext.ofDrew hd).size⟩, fun _ => rfl⟩
          clear hkl HS HN hbo
          go_wp2_with fail
          go_ret2
          exact ⟨_, rfl, IntsCode_mk HH.out hres, hbw.trans (Ext.ofDrew hd)⟩
  · have HH := Lib.hid (shortRoute_no (x := (c, ds)) hk)
    have hb : (routesCode c ds f t op != 0) = true := by rw [bne_iff_ne]; exact hk
    simp only at hC HH ⊢
    generalize shortRoute (c, ds) f t op = res at *
    generalize routesCode c ds f t op = k at *
    clear hk hL
    go_enter Try.func45, Try.ntmps45
    go_wp2_with fail
    refine Calls.mono (hC _ (Ext.alloc _ _)) ?_
    rintro e w1 hr1
    obtain ⟨r, rfl, rfl, b1⟩ := ret_ext hr1
    go_wp2_with fail
    go_ret2
    exact ⟨_, rfl, IntsCode_nil HH.out, (Ext.alloc _ _).trans b1⟩
end Go.Proofs.Ytoaoonmeoeifgaa
