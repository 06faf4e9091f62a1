/- Proved: the search for designs, the reference: spec.l17From. -/
import Derived.Test.YtkeikjedbfomnaaGreatDoorChecked
import Derived.Deep.RegionHeld3
import Derived.Deep.LoopGhost
import Derived.Test.YtkeikjedbfomnaaGreatDoorUSearch
namespace Go.Proofs.YtkeikjedbfomnaaGreatDoor
open Go.ChangeShapes Go.WideShapes Go.ChangeAt Go.RowKit
set_option linter.unusedVariables false

/-- what a search leaves -/
def FromR (A : Nat → Prop) (g : Nat) (mk : MK) (v : Value) (limit most : Int) (st : SS) (vf : Value) (w w' : World) : Prop :=
  ∃ (A' : Nat → Prop) (vf' : Value), SrchAt A' g mk v limit most st vf' w' ∧ (∀ k, A k → A' k) ∧ Frame (SF g vf) w w' ∧ ∀ k, vf'.ownBlock = some k → vf.ownBlock = some k ∨ w.heap.size ≤ k
theorem rowsA_frame {A A' : Nat → Prop} {w w' : World} {u vf : Value} {t : List (List Int)} {g : Nat} (h : RowsA A w u t) (hf : Frame (SF g vf) w w') (ho : ∀ k, A k → k ≠ g ∧ vf.ownBlock ≠ some k) (hA : ∀ k, A k → A' k) : RowsA A' w' u t :=
  (h.keep hf.size (fun k hk hl => hf.block k hl (fun q => q.elim (ho k hk).1 (ho k hk).2))).mono (fun k hk _ => hA k hk)
theorem SF.next {g : Nat} {vf vf' : Value} {w w' : World} (h : Frame (SF g vf) w w') (hv : ∀ k, vf'.ownBlock = some k → vf.ownBlock = some k ∨ w.heap.size ≤ k) {w'' : World} (k : Frame (SF g vf') w' w'') : Frame (SF g vf) w w'' :=
  h.trans k (fun i hi hl => hi.elim .inl (fun q => (hv i q).elim .inr (fun q => by omega)))
theorem stable_intsA {A : Nat → Prop} {w w' : World} {z : Zone} {u vf : Value} {k : List Int} {g : Nat} (h : IntsR z w u k) (hz : ∀ j, z.Has j → A j) (hf : Frame (SF g vf) w w') (ho : ∀ k, A k → k ≠ g ∧ vf.ownBlock ≠ some k) : IntsR z w' u k :=
  stable_ints.keep h (fun j hj hl => hf.block j hl (fun q => q.elim (ho j (hz j hj)).1 (ho j (hz j hj)).2))

/-- the state of one row's loop -/
structure FromAt (A : Nat → Prop) (g : Nat) (mk : MK) (v : Value) (t : List (List Int)) (cuts : List (List Int)) (u : Value) (limit most : Int) (f : List Int → SS → Bool × SS) (st0 : SS) (vf0 : Value) (w : World) (R : List (List Int)) (wr : World) (s7 s8 : Value) : Prop where
  ex : ∃ (D : List (List Int)) (A1 : Nat → Prop) (vf1 : Value) (st1 : SS), allK mk = D ++ R ∧ SrchAt A1 g mk v limit most st1 vf1 wr ∧ (∀ k, A k → A1 k) ∧ Frame (SF g vf0) w wr ∧ (∀ k, vf1.ownBlock = some k → vf0.ownBlock = some k ∨ w.heap.size ≤ k) ∧
    sweepS f limit (allK mk) st0 = sweepS f limit R st1 ∧ SOk mk t limit st1 ∧ RowsA A1 wr v t ∧ RowsA A1 wr u cuts ∧ (R = [] → s8 = .bool false) ∧ ∀ k R', R = k :: R' → s8 = .bool true ∧ ∃ z : Zone, IntsR z wr s7 k ∧ ∀ j, z.Has j → A1 j

theorem FromAt.go {A : Nat → Prop} {g : Nat} {mk : MK} {v : Value} {t cuts : List (List Int)} {u : Value} {limit most : Int} {f : List Int → SS → Bool × SS} {st0 : SS} {vf0 : Value} {w w2 w3 : World} {D R : List (List Int)} {A1 : Nat → Prop} {vf1 : Value} {st1 : SS} {r : Value}
    (ha : allK mk = D ++ R) (hS : SrchAt A1 g mk v limit most st1 vf1 w2) (hA : ∀ k, A k → A1 k) (hF : Frame (SF g vf0) w w2) (hv : ∀ k, vf1.ownBlock = some k → vf0.ownBlock = some k ∨ w.heap.size ≤ k) (hsw : sweepS f limit (allK mk) st0 = sweepS f limit R st1) (hok : SOk mk t limit st1) (hT : RowsA A1 w2 v t) (hU : RowsA A1 w2 u cuts)
    (e : Ext w2 w3) (hr : KeyRes w2.heap.size R r w3) : ∃ u' b, r = .tuple #[u', .bool b] ∧ FromAt A g mk v t cuts u limit most f st0 vf0 w R w3 u' (.bool b) := by
  have hS3 := hS.grow e
  have hT3 := (hT.ext e).mono (A' := fun k => A1 k ∨ (w2.heap.size ≤ k ∧ k < w3.heap.size)) (fun k hk _ => .inl hk)
  have hU3 := (hU.ext e).mono (A' := fun k => A1 k ∨ (w2.heap.size ≤ k ∧ k < w3.heap.size)) (fun k hk _ => .inl hk)
  have hF3 := frame_ext hF e
  cases R with
  | nil =>
    obtain ⟨u', ks, rfl, hi⟩ := hr.1 rfl
    exact ⟨u', false, rfl, D, _, vf1, st1, ha, hS3, fun k hk => .inl (hA k hk), hF3, hv, hsw, hok, hT3, hU3, fun _ => rfl, fun k R' h => by cases h⟩
  | cons k R' =>
    obtain ⟨u', rfl, hi⟩ := hr.2 k R' rfl
    refine ⟨u', true, rfl, D, _, vf1, st1, ha, hS3, fun k hk => .inl (hA k hk), hF3, hv, hsw, hok, hT3, hU3, (fun h => by cases h), fun k2 R2 h => ?_⟩
    injection h with h1 h2
    subst h1
    exact ⟨rfl, _, hi, fun j hj => .inr hj⟩

theorem SrchAt.num {A : Nat → Prop} {g : Nat} {mk : MK} {v : Value} {limit most : Int} {st : SS} {vf : Value} {w : World} (h : SrchAt A g mk v limit most st vf w) : ∃ a n c, vf = .slice a n c ∧ n = st.found.length := by
  obtain ⟨us, h1, h2, h3⟩ := h.found
  obtain ⟨a, n, c, rfl, hn, -⟩ := h2.shape
  exact ⟨a, n, c, rfl, by omega⟩

set_option maxRecDepth 20000 in
set_option maxHeartbeats 4000000 in
theorem l17From_c (mk : MK) (okm : MkOk mk) (v : Value) (t : List (List Int)) (ok : SysOk mk t) (limit most : Int) (hlim : limit ≤ 4000) (hlim0 : 0 ≤ limit) (hmost : I64 most) (g : Nat) : ∀ (n : Nat) (w : World) (A : Nat → Prop) (st : SS) (vf : Value) (u : Value) (cuts : List (List Int)),
    SrchAt A g mk v limit most st vf w → RowsA A w v t → RowsA A w u cuts → (∀ r ∈ cuts, KeyOk mk r) → cuts.length + n = t.length → 0 ≤ st.tries → st.tries ≤ limit → (∀ x ∈ st.found, Goods mk t x) → (st.found.length : Int) + (if n = 0 then 1 else 0) ≤ st.tries → (n = 0 → faults mk t cuts = 0) →
    Calls Tryz.prog 138 #[.pointer (some ⟨g, 0, none⟩), u, .slice none 0 0] w (fun e w' => e = .returned (.bool (fromS mk t limit most n cuts st).1) ∧ FromR A g mk v limit most (fromS mk t limit most n cuts st).2 vf w w') := by
  intro n
  induction n with
  | zero =>
    intro w A st vf u cuts hS hT hU hk hl h0 h1 hg hn hf
    rw [if_pos rfl] at hn
    obtain ⟨a1, n1, k1, rfl, hn1, -⟩ := SliceR.shape hT.rows
    obtain ⟨a2, n2, k2, rfl, hn2, -⟩ := SliceR.shape hU.rows
    have he : ((n2 : Int) == (n1 : Int)) = true := by rw [beq_iff_eq]; omega
    have HN : Hid (st.found.length ≤ 1000000) := by show _ ≤ _; omega
    have HS := Lib.hid hS
    have HU := Lib.hid hU
    have hlt := hS.lt
    have hgn : g ≠ w.heap.size := by omega
    obtain ⟨c0, c1, c2, c3, c4, c5⟩ := hS.sys
    have c10 := hS.c10
    clear hk hl h0 h1 hg hn hf hn1 hn2 hS hU hT ok okm
    go_enter Tryz.func138, Tryz.ntmps138
    go_wp2_with (at_builtin; (refine wpList_found HS.out rfl _ _ 141 rfl Tryz.underlying141 Tryz.infoRows rfl (a2, n2, k2) HU.out rfl HN.out ?_); intro v' w' d10 f10 hS' hF' hv'; obtain ⟨a', n', c', rfl, hn'⟩ := hS'.num; have Hn' := Lib.hid hn'; clear hn')
    have HS' := Lib.hid hS'
    have HF' := Lib.hid hF'
    have HV' := Lib.hid hv'
    have e7 := hS'.c7
    have e10 := hS'.c10
    clear hS' hF' hv' c0 c1 c2 c3 c4 c5 c10 d10 f10
    generalize w'.setCell ⟨g, 10, none⟩ (.slice a' n' c') = w2 at *
    have HD : Hid (decide (most ≤ (n' : Int)) = decide (most ≤ ((st.found.length + 1 : Nat) : Int))) := by show _ = _; rw [Hn'.out, List.length_append, List.length_singleton]
    go_quiet (fail)
    go_wp2_with fail
    go_ret
    exact ⟨by simp only [fromS]; rw [← HD.out]; rfl, A, _, HS'.out.ext (Ext.drewN _ _), fun _ h => h, frame_ext HF'.out (Ext.drewN _ _), HV'.out⟩
  | succ n ih =>
    intro w A st vf u cuts hS hT hU hk hl h0 h1 hg hn hf
    rw [if_neg (Nat.succ_ne_zero _)] at hn
    have hpo : PartOk mk t cuts := ⟨ok, by omega, hk⟩
    have hlen := ok.len
    have HF := Lib.hid (fun (w' : World) => l02First_c mk okm mk.c.toNat [] (by simp) w'.heap.size w' (.slice none 0 0) (.new w' w') (SliceR.nil _ _ _) (Nat.le_refl _) (Nat.le_refl _) (Nat.le_refl _) rfl (fun i hi => by simp at hi))
    have HN := Lib.hid (fun (A B' : List (List Int)) (k : List Int) (ha : allK mk = A ++ k :: B') (w' : World) (x : Value) (q : Zone) (g : IntsR q w' x k) => by
      obtain ⟨h1, h2, h3⟩ := allK_next ha
      have := l02Next_c mk okm w' x q k g h2 (fun i hi => by
        have e : k.getD i 0 = k[i] := by simp [hi]
        rw [e]
        have := h3 _ (List.getElem_mem hi)
        have := okm.d8
        omega)
      rw [h1] at this
      exact this)
    have HW := Lib.hid (fun (k : List Int) (w' : World) (A1 : Nat → Prop) (hc : RowsA A1 w' u cuts) (x : Value) (q : Zone) (g : IntsR q w' x k) (hz : ∀ j, q.Has j → A1 j ∧ j < w'.heap.size) => l16WithA_c w' u A1 cuts hc (by omega) x q k g hz)
    have HO := Lib.hid (fun (k : List Int) (hk : KeyOk mk k) (w' : World) (z : Zone) (h : RowsR z w' v t) (x : Value) (q : Zone) (g : RowsR q w' x (cuts ++ [k])) => l16Open_c w' mk v z t h x q (cuts ++ [k]) g (keyOk_snoc hpo (by omega) hk))
    have HI := Lib.hid (fun (k : List Int) (hko : KeyOk mk k) (hq : faults mk t (cuts ++ [k]) = 0) (w' : World) (A1 : Nat → Prop) (st1 : SS) (vf1 x : Value) (hS : SrchAt A1 g mk v limit most ⟨st1.tries + 1, st1.over, st1.found⟩ vf1 w') (hT : RowsA A1 w' v t) (hU : RowsA A1 w' x (cuts ++ [k])) (hs : SOk mk t limit st1) (hne : st1.tries ≠ limit) =>
      ih w' A1 ⟨st1.tries + 1, st1.over, st1.found⟩ vf1 x (cuts ++ [k]) hS hT hU (fun r hr => by
        rcases List.mem_append.1 hr with hr | hr
        · exact hk r hr
        · rw [List.mem_singleton.1 hr]; exact hko) (by simp; omega) (by have := hs.t0; show 0 ≤ st1.tries + 1; omega) (by have := hs.t1; show st1.tries + 1 ≤ limit; omega) hs.cuts (by have := hs.many; show (st1.found.length : Int) + _ ≤ st1.tries + 1; split <;> omega) (fun _ => hq))
    have HOK := Lib.hid (fun (k : List Int) (hko : k ∈ allK mk) (st1 : SS) (hs : SOk mk t limit st1) (hne : st1.tries ≠ limit) (hq : faults mk t (cuts ++ [k]) = 0) =>
      fromS_ok (most := most) okm n (cuts ++ [k]) ⟨st1.tries + 1, st1.over, st1.found⟩ (by simp; omega) (fun r hr => by
        rcases List.mem_append.1 hr with hr | hr
        · exact hk r hr
        · rw [List.mem_singleton.1 hr]; exact allK_key okm hko) (fun _ => hq) (by have := hs.t0; show 0 ≤ st1.tries + 1; omega) (by have := hs.t1; show st1.tries + 1 ≤ limit; omega) hs.cuts (by have := hs.many; show (st1.found.length : Int) + _ ≤ st1.tries + 1; split <;> omega))
    have HKey := Lib.hid (fun (k : List Int) (hk : k ∈ allK mk) => allK_key okm hk)
    have hS0 : SOk mk t limit st := ⟨h0, h1, hg, by omega⟩
    have HE : Hid (fromS mk t limit most (n + 1) cuts st = sweepS (fun k s => if faults mk t (cuts ++ [k]) = 0 then fromS mk t limit most n (cuts ++ [k]) s else (false, s)) limit (allK mk) st) := rfl
    have HFk : Hid (∀ k s, (fun k s => if faults mk t (cuts ++ [k]) = 0 then fromS mk t limit most n (cuts ++ [k]) s else (false, s)) k s = if faults mk t (cuts ++ [k]) = 0 then fromS mk t limit most n (cuts ++ [k]) s else (false, s)) := fun _ _ => rfl
    generalize hff : (fun k s => if faults mk t (cuts ++ [k]) = 0 then fromS mk t limit most n (cuts ++ [k]) s else (false, s)) = f at *
    rw [HE.out]
    clear HE hff ih
    obtain ⟨a1, n1, k1, rfl, hn1, -⟩ := SliceR.shape hT.rows
    obtain ⟨a2, n2, k2, rfl, hn2, -⟩ := SliceR.shape hU.rows
    have he : ((n2 : Int) == (n1 : Int)) = false := by rw [beq_eq_false_iff_ne]; omega
    obtain ⟨c0, c1, c2, c3, c4, c5⟩ := hS.sys
    have HS := Lib.hid hS
    have HT := Lib.hid hT
    have HU := Lib.hid hU
    have HS0 := Lib.hid hS0
    clear hk hl h0 h1 hg hn hf hn1 hn2 hS hU hT ok okm hpo hlen hS0
    have hcall := HF.out w
    unfold MK.v at *
    go_enter Tryz.func138, Tryz.ntmps138
    go_wp2_with fail
    refine Calls.mono hcall ?_
    rintro e w1 hr
    obtain ⟨r, rfl, hk1, e1⟩ := ret_ext hr
    clear hr hcall HF
    obtain ⟨u7, b8, rfl, hC⟩ := FromAt.go (f := f) (A := A) (vf0 := vf) (w := w) (D := []) rfl HS.out (fun _ h => h) (Frame.refl _ _) (fun _ h => .inl h) rfl HS0.out HT.out HU.out e1 hk1
    have HC := Lib.hid hC
    clear hC hk1 c0 c1 c2 c3 c4 c5 HS HT HU HS0
    go_wp2_with fail
    go_loopg [7, 8, 9] ((allK mk).length) (fun gk s7 s8 _ wr => ∃ R, gk = R.length ∧ FromAt A g mk (.slice a1 n1 k1) t cuts (.slice a2 n2 k2) limit most f st vf w R wr s7 s8)
    case atStart => exact ⟨_, rfl, HC.out⟩
    case round =>
      clear HC
      obtain ⟨R, hgk, ⟨D, A1, vf1, st1, ha, hS1, hA1, hF1, hv1, hsw, hok1, hT1, hU1, hR0, hR1⟩⟩ := hrel
      have HS1 := Lib.hid hS1
      have HT1 := Lib.hid hT1
      have HU1 := Lib.hid hU1
      have HA1 := Lib.hid hA1
      have HF1 := Lib.hid hF1
      have HV1 := Lib.hid hv1
      have HSw := Lib.hid hsw
      have HOk1 := Lib.hid hok1
      have Ha := Lib.hid ha
      have Hgk := Lib.hid hgk
      have hlt := hS1.lt
      obtain ⟨c0, c1, c2, c3, c4, c5⟩ := hS1.sys
      have c6 := hS1.c6
      have c8 := hS1.c8
      have c9 := hS1.c9
      have f8 := hS1.f8
      have f9 := hS1.f9
      have ht0 := hok1.t0
      have ht1 := hok1.t1
      clear hS1 hT1 hU1 hA1 hF1 hv1 hsw hok1 ha hgk
      cases R with
      | nil =>
        obtain rfl := hR0 rfl
        clear hR0 hR1
        go_wp2_with fail
        go_ret
        exact ⟨by rw [HSw.out]; rfl, A1, vf1, by rw [HSw.out]; exact HS1.out, HA1.out, HF1.out, HV1.out⟩
      | cons k R' =>
        obtain ⟨rfl, zk, hk7, hzk⟩ := hR1 k R' rfl
        have HK7 := Lib.hid hk7
        have HZk := Lib.hid hzk
        obtain ⟨ak, nk, ck, rfl, -⟩ := SliceR.shape hk7
        clear hR0 hR1 hk7 hzk
        by_cases hq : st1.tries = limit
        · have hb : (st1.tries == limit) = true := by rw [beq_iff_eq]; exact hq
          have HO1 := Lib.hid (sweepS_over (f := f) (k := k) (L := R') hq)
          have HSo := Lib.hid (fun m => (HS1.out.ext (Ext.drewN wr m)).over true)
          go_wp2_with fail
          go_quiet (fail)
          go_wp2_with fail
          go_ret
          exact ⟨by rw [HSw.out, HO1.out]; rfl, A1, vf1, by rw [HSw.out, HO1.out]; exact HSo.out _, HA1.out, frame_put (frame_ext HF1.out (Ext.drewN _ _)) (.inl rfl), HV1.out⟩
        · have hb : (st1.tries == limit) = false := by rw [beq_eq_false_iff_ne]; exact hq
          have hw : IntKind.i64.wrap (st1.tries + 1) = st1.tries + 1 := IntWalk.i64_in _ (by omega)
          have hko := HKey.out k (by rw [Ha.out]; simp)
          have HSt := Lib.hid (fun m => (HS1.out.ext (Ext.drewN wr m)).tries (st1.tries + 1))
          have HNe := Lib.hid hq
          clear hq ht0 ht1
          go_wp2_with fail
          go_quiet (fail)
          go_wp2_with fail
          have hfr : Frame (SF g vf1) wr ((wr.drewN nq).setCell ⟨g, 8, none⟩ (.int .i64 (st1.tries + 1))) := frame_put (Frame.of_ext (Ext.drewN wr nq)) (.inl rfl)
          have HS4 := Lib.hid (HSt.out nq)
          clear HSt c0 c1 c2 c3 c4 c5 c6 c8 c9 f8 f9
          generalize (wr.drewN nq).setCell ⟨g, 8, none⟩ (.int .i64 (st1.tries + 1)) = w4 at *
          have HT4 := Lib.hid (rowsA_frame (A' := A1) HT1.out hfr HS1.out.off (fun _ h => h))
          have HU4 := Lib.hid (rowsA_frame (A' := A1) HU1.out hfr HS1.out.off (fun _ h => h))
          have HK4 := Lib.hid (stable_intsA HK7.out HZk.out hfr HS1.out.off)
          have HF4 := Lib.hid (SF.next HF1.out HV1.out hfr)
          clear hfr HT1 HU1 HK7 HF1 HS1
          refine Calls.mono (HW.out k w4 A1 HU4.out _ zk HK4.out (fun j hj => ⟨HZk.out j hj, HS4.out.lim j (HZk.out j hj)⟩)) ?_
          rintro e w5 hr
          obtain ⟨r, rfl, o5, e5⟩ := ret_ext hr
          clear hr
          obtain ⟨A2, hA2⟩ : ∃ A2 : Nat → Prop, A2 = fun j => A1 j ∨ (w4.heap.size ≤ j ∧ j < w5.heap.size) := ⟨_, rfl⟩
          have hA12 : ∀ j, A1 j → A2 j := fun j hj => by rw [hA2]; exact .inl hj
          have HS5 : Hid (SrchAt A2 g mk (.slice a1 n1 k1) limit most ⟨st1.tries + 1, st1.over, st1.found⟩ vf1 w5) := by rw [hA2]; exact HS4.out.grow e5
          have HX5 : Hid (RowsA A2 w5 r (cuts ++ [k])) := by rw [hA2]; exact o5.mono (fun j hj hl => hj.elim .inl (fun q => .inr ⟨q, hl⟩))
          have HT5 := Lib.hid ((HT4.out.ext e5).mono (A' := A2) (fun j hj _ => hA12 j hj))
          have HU5 := Lib.hid ((HU4.out.ext e5).mono (A' := A2) (fun j hj _ => hA12 j hj))
          have HK5 := Lib.hid (stable_ints.ext HK4.out e5)
          have HF5 := Lib.hid (frame_ext HF4.out e5)
          have HA12 := Lib.hid hA12
          obtain ⟨a5, n5, k5, rfl, -⟩ := SliceR.shape o5.rows
          clear o5 e5 hA2 hA12 HT4 HU4 HK4 HF4 HS4
          obtain ⟨c0, c1, c2, c3, c4, c5⟩ := HS5.out.sys
          have hcall := HO.out k hko w5 _ HT5.out.rows _ _ HX5.out.rows
          unfold sysV at hcall
          cases hq : decide (faults mk t (cuts ++ [k]) = 0) with
          | false =>
            rw [hq] at hcall
            have HQ := Lib.hid (of_decide_eq_false hq)
            clear hq
            go_wp2_with fail
            refine Calls.mono hcall ?_
            rintro e w6 hr
            obtain ⟨r, rfl, rfl, e6⟩ := ret_ext hr
            clear hr hcall c0 c1 c2 c3 c4 c5
            have HFv : Hid (f k ⟨st1.tries + 1, st1.over, st1.found⟩ = (false, ⟨st1.tries + 1, st1.over, st1.found⟩)) := by show _ = _; rw [HFk.out, if_neg HQ.out]
            have hA' : ∀ j, A j → A2 j := fun j hj => HA12.out j (HA1.out j hj)
            have HSX := Lib.hid (HS5.out.ext e6)
            have HTX := Lib.hid (HT5.out.ext e6)
            have HUX := Lib.hid (HU5.out.ext e6)
            have HKX := Lib.hid (stable_ints.ext HK5.out e6)
            have HFX := Lib.hid (frame_ext HF5.out e6)
            have HVX := Lib.hid HV1.out
            have HWX := Lib.hid (HSw.out.trans ((sweepS_on (L := R') HNe.out (by rw [HFv.out])).trans (by rw [HFv.out])))
            have HOX := Lib.hid (⟨by have := HOk1.out.t0; show 0 ≤ st1.tries + 1; omega, by have := HOk1.out.t1; have := HNe.out; show st1.tries + 1 ≤ limit; omega, HOk1.out.cuts, by have := HOk1.out.many; show (st1.found.length : Int) ≤ st1.tries + 1; omega⟩ : SOk mk t limit ⟨st1.tries + 1, st1.over, st1.found⟩)
            obtain ⟨c0, c1, c2, c3, c4, c5⟩ := HSX.out.sys
            go_wp2_with fail
            refine Calls.mono (HN.out D R' k Ha.out w6 _ zk HKX.out) ?_
            rintro e w9 hr
            obtain ⟨r, rfl, hk9, e9⟩ := ret_ext hr
            clear hr
            obtain ⟨u9', b9', rfl, hC9⟩ := FromAt.go (f := f) (D := D ++ [k]) (R := R') (by rw [Ha.out]; simp) HSX.out hA' HFX.out HVX.out HWX.out HOX.out HTX.out HUX.out e9 hk9
            have HC9 := Lib.hid hC9
            clear hC9 hk9 c0 c1 c2 c3 c4 c5
            go_wp2_with fail
            go_roundg R'.length
            case measure => rw [Hgk.out]; simp
            case rel => exact ⟨R', rfl, HC9.out⟩
          | true =>
            rw [hq] at hcall
            have HQ := Lib.hid (of_decide_eq_true hq)
            have HOk2 := Lib.hid (HOK.out k (by rw [Ha.out]; simp) st1 HOk1.out HNe.out (of_decide_eq_true hq))
            clear hq
            have HFv : Hid (f k ⟨st1.tries + 1, st1.over, st1.found⟩ = fromS mk t limit most n (cuts ++ [k]) ⟨st1.tries + 1, st1.over, st1.found⟩) := by show _ = _; rw [HFk.out, if_pos HQ.out]
            go_wp2_with fail
            refine Calls.mono hcall ?_
            rintro e w6 hr
            obtain ⟨r, rfl, rfl, e6⟩ := ret_ext hr
            clear hr hcall c0 c1 c2 c3 c4 c5
            have hcall := HI.out k hko HQ.out w6 A2 st1 vf1 _ (HS5.out.ext e6) (HT5.out.ext e6) (HX5.out.ext e6) HOk1.out HNe.out
            obtain ⟨fr, hfr⟩ : ∃ fr, fr = fromS mk t limit most n (cuts ++ [k]) ⟨st1.tries + 1, st1.over, st1.found⟩ := ⟨_, rfl⟩
            rw [← hfr] at hcall HFv HOk2
            clear hfr
            obtain ⟨fb, st7⟩ := fr
            simp only at hcall
            go_wp2_with fail
            refine Calls.mono hcall ?_
            rintro e w7 ⟨rfl, A3, vf3, hS7, hA3, hF7, hv7⟩
            clear hcall
            have hF7' := SF.next (frame_ext HF5.out e6) HV1.out hF7
            have hv7' : ∀ j, vf3.ownBlock = some j → vf.ownBlock = some j ∨ w.heap.size ≤ j := fun j hj => (hv7 j hj).elim (fun q => HV1.out j q) (fun q => .inr (Nat.le_trans (Nat.le_trans HF5.out.size e6.size) q))
            have hoff := (HS5.out.ext e6).off
            have hT7 := rowsA_frame (HT5.out.ext e6) hF7 hoff hA3
            have hU7 := rowsA_frame (HU5.out.ext e6) hF7 hoff hA3
            have hK7 := stable_intsA (stable_ints.ext HK5.out e6) (fun j hj => HA12.out j (HZk.out j hj)) hF7 hoff
            have HS7 := Lib.hid hS7
            have HA3 := Lib.hid hA3
            have HF7 := Lib.hid hF7'
            have HV7 := Lib.hid hv7'
            have HT7 := Lib.hid hT7
            have HU7 := Lib.hid hU7
            have HK7 := Lib.hid hK7
            clear hS7 hA3 hF7 hF7' hv7 hv7' hT7 hU7 hK7 hoff
            cases fb with
            | true =>
              have HEnd := Lib.hid (HSw.out.trans ((sweepS_end (L := R') HNe.out (by rw [HFv.out])).trans (by rw [HFv.out])))
              go_wp2_with fail
              go_ret
              exact ⟨by rw [HEnd.out]; rfl, A3, vf3, by rw [HEnd.out]; exact HS7.out, fun j hj => HA3.out j (HA12.out j (HA1.out j hj)), HF7.out, HV7.out⟩
            | false =>
              have hA' : ∀ j, A j → A3 j := fun j hj => HA3.out j (HA12.out j (HA1.out j hj))
              have HSX := Lib.hid HS7.out
              have HTX := Lib.hid HT7.out
              have HUX := Lib.hid HU7.out
              have HKX := Lib.hid HK7.out
              have HFX := Lib.hid HF7.out
              have HVX := Lib.hid HV7.out
              have HWX := Lib.hid (HSw.out.trans ((sweepS_on (L := R') HNe.out (by rw [HFv.out])).trans (by rw [HFv.out])))
              have HOX := Lib.hid HOk2.out
              obtain ⟨c0, c1, c2, c3, c4, c5⟩ := HSX.out.sys
              go_wp2_with fail
              refine Calls.mono (HN.out D R' k Ha.out w7 _ zk HKX.out) ?_
              rintro e w9 hr
              obtain ⟨r, rfl, hk9, e9⟩ := ret_ext hr
              clear hr
              obtain ⟨u9', b9', rfl, hC9⟩ := FromAt.go (f := f) (D := D ++ [k]) (R := R') (by rw [Ha.out]; simp) HSX.out hA' HFX.out HVX.out HWX.out HOX.out HTX.out HUX.out e9 hk9
              have HC9 := Lib.hid hC9
              clear hC9 hk9 c0 c1 c2 c3 c4 c5
              go_wp2_with fail
              go_roundg R'.length
              case measure => rw [Hgk.out]; simp
              case rel => exact ⟨R', rfl, HC9.out⟩
end Go.Proofs.YtkeikjedbfomnaaGreatDoor
