/- Proved: the smallest keys with which partial cuts are open, the reference. -/
import Derived.Test.YtkeikjedbfomnaaGreatDoorChecked
import Derived.Deep.RegionHeld3
import Derived.Deep.LoopGhost
import Derived.Test.YtkeikjedbfomnaaGreatDoorUCandLaw
import Derived.Test.YtkeikjedbfomnaaGreatDoorUCanSpec
import Derived.Test.YtkeikjedbfomnaaGreatDoorUKeyFirst
import Derived.Test.YtkeikjedbfomnaaGreatDoorUPkE
namespace Go.Proofs.YtkeikjedbfomnaaGreatDoor
open Go.ChangeShapes Go.WideShapes Go.ChangeAt Go.RowKit
set_option linter.unusedVariables false

/-- the state of the search: the keys that are behind, the list, the next key -/
def CandAt (mk : MK) (p : List Int → Bool) (most : Int) (lo : Nat) (w0 : World) (n : Nat) (s7 s8 s9 : Value) (wr : World) : Prop :=
  ∃ (A B : List (List Int)) (wk : World), allK mk = A ++ B ∧ n = B.length ∧ (A.filter p).length ≤ most.toNat ∧ Ext w0 wk ∧ lo ≤ wk.heap.size ∧ Ext wk wr ∧ OwnR true lo IntsR 46 lo wk s7 (A.filter p) ∧
    (B = [] → s9 = .bool false) ∧ ∀ k B', B = k :: B' → s9 = .bool true ∧ IntsR (.new wk wr) wr s8 k
theorem CandAt.next {lo : Nat} {mk : MK} {p : List Int → Bool} {most : Int} {w0 wk w1 w2 : World} {A B' : List (List Int)} {k : List Int} {s7 r : Value} {L : List (List Int)} (ha : allK mk = A ++ k :: B') (hm : ((A ++ [k]).filter p).length ≤ most.toNat) (e0 : Ext w0 wk) (hlo : lo ≤ wk.heap.size) (e1 : Ext wk w1) (e2 : Ext w1 w2)
    (ho : OwnR true lo IntsR 46 lo wk s7 ((A ++ [k]).filter p)) (hr : KeyRes w1.heap.size L r w2) (hL : L = B') : ∃ u b, r = .tuple #[u, .bool b] ∧ CandAt mk p most lo w0 B'.length s7 u (.bool b) w2 := by
  have e12 := e1.trans e2
  subst hL
  cases L with
  | nil =>
    obtain ⟨u, -, rfl, -⟩ := hr.1 rfl
    exact ⟨u, false, rfl, A ++ [k], [], wk, by rw [ha]; simp, rfl, hm, e0, hlo, e12, ho, fun _ => rfl, fun k B' h => by cases h⟩
  | cons k2 L' =>
    obtain ⟨u, rfl, hu⟩ := hr.2 k2 L' rfl
    refine ⟨u, true, rfl, A ++ [k], k2 :: L', wk, by rw [ha]; simp, rfl, hm, e0, hlo, e12, ho, (fun h => by cases h), fun k B' h => ?_⟩
    injection h with h1 h2
    subst h1
    exact ⟨rfl, stable_ints.sub hu ⟨fun k hk => ⟨Nat.le_trans e1.size hk.1, hk.2⟩, fun h => h⟩⟩
theorem CandAt.start {lo : Nat} {mk : MK} {p : List Int → Bool} {most : Int} {w0 wk w2 : World} {s7 r : Value} (e0 : Ext w0 wk) (hlo : lo ≤ wk.heap.size) (e2 : Ext wk w2) (ho : OwnR true lo IntsR 46 lo wk s7 []) (hr : KeyRes wk.heap.size (allK mk) r w2) : ∃ u b, r = .tuple #[u, .bool b] ∧ CandAt mk p most lo w0 (allK mk).length s7 u (.bool b) w2 := by
  cases hL : allK mk with
  | nil =>
    obtain ⟨u, -, rfl, -⟩ := hr.1 hL
    exact ⟨u, false, rfl, [], [], wk, by rw [hL]; rfl, rfl, by simp, e0, hlo, e2, ho, fun _ => rfl, fun k B' h => by cases h⟩
  | cons k2 L' =>
    obtain ⟨u, rfl, hu⟩ := hr.2 k2 L' hL
    refine ⟨u, true, rfl, [], k2 :: L', wk, by rw [hL]; rfl, rfl, by simp, e0, hlo, e2, ho, (fun h => by cases h), fun k B' h => ?_⟩
    injection h with h1 h2
    subst h1
    exact ⟨rfl, hu⟩
theorem keyOk_snoc {mk : MK} {t cuts : List (List Int)} {key : List Int} (h : PartOk mk t cuts) (hl : cuts.length < t.length) (hk : KeyOk mk key) : PartOk mk t (cuts ++ [key]) :=
  ⟨h.toSysOk, by simp; omega, fun r hr => by
    rcases List.mem_append.1 hr with hr | hr
    · exact h.key r hr
    · rw [List.mem_singleton.1 hr]; exact hk⟩

set_option maxRecDepth 20000 in
set_option maxHeartbeats 2000000 in
theorem l16Candidates_c (w : World) (mk : MK) (okm : MkOk mk) (v : Value) (z : Zone) (t : List (List Int)) (h : RowsR z w v t) (u : Value) (y : Zone) (cuts : List (List Int)) (hc : RowsR y w u cuts) (ok : PartOk mk t cuts) (hlt : cuts.length < t.length) (most : Int) (hm1 : I64 most) :
    Calls Tryz.prog 61 #[sysV mk v, u, .int .i64 most] w (Ret w fun r w' => RowsR (.new w w') w' r (candL mk (fun key => decide (faults mk t (cuts ++ [key]) = 0)) most)) := by
  have hc10 := ok.len
  have hcl : cuts.length ≤ 1000 := by omega
  have HF := Lib.hid (fun (w' : World) => l02First_c mk okm mk.c.toNat [] (by simp) w'.heap.size w' (.slice none 0 0) (.new w' w') (SliceR.nil _ _ _) (Nat.le_refl _) (Nat.le_refl _) (Nat.le_refl _) rfl (fun i hi => by simp at hi))
  have HN := Lib.hid (fun (A B' : List (List Int)) (k : List Int) (ha : allK mk = A ++ k :: B') (w' : World) (x : Value) (q : Zone) (g : IntsR q w' x k) => by
    obtain ⟨h1, h2, h3⟩ := allK_next ha
    have := l02Next_c mk okm w' x q k g h2 (fun i hi => by
      have e : k.getD i 0 = k[i] := by simp [hi]
      rw [e]
      have := h3 _ (List.getElem_mem hi)
      have := okm.d8
      omega)
    rw [h1] at this
    exact this)
  have HW := Lib.hid (fun (k : List Int) (w' : World) (e : Ext w w') (x : Value) (q : Zone) (g : IntsR q w' x k) => l16With_c w' u y cuts (stable_rows.ext hc e) hcl x q k g)
  have HO := Lib.hid (fun (k : List Int) (hk : KeyOk mk k) (w' : World) (e : Ext w w') (x : Value) (q : Zone) (g : RowsR q w' x (cuts ++ [k])) => l16Open_c w' mk v z t (stable_rows.ext h e) x q (cuts ++ [k]) g (keyOk_snoc ok hlt hk))
  have HKey := Lib.hid (fun (k : List Int) (hk : k ∈ allK mk) => allK_key okm hk)
  have HLen := Lib.hid (allK_length okm)
  generalize hp : (fun key => decide (faults mk t (cuts ++ [key]) = 0)) = p at *
  have HP : Hid (∀ k, decide (faults mk t (cuts ++ [k]) = 0) = p k) := fun k => by rw [← hp]
  clear hp
  obtain ⟨a, n, cap, rfl, -⟩ := SliceR.shape h
  obtain ⟨a2, n2, cap2, rfl, -⟩ := SliceR.shape hc
  clear h hc ok hlt hcl hc10
  unfold sysV MK.v at *
  go_enter Tryz.func61, Tryz.ntmps61
  go_wp2_with fail
  generalize hw0 : World.alloc (World.alloc _ _) _ = w0
  obtain ⟨e0, S0, o0⟩ : Ext w w0 ∧ SysAt w0 w.heap.size mk (.slice a n cap) ∧ OwnR true (w.heap.size + 1) IntsR 46 (w.heap.size + 1) w0 (.slice (some ⟨w.heap.size + 1, 0, none⟩) 0 0) [] := by
    subst hw0
    refine ⟨(Ext.alloc _ _).trans (Ext.alloc _ _), ⟨?_, ?_, ?_, ?_, ?_, ?_⟩, ?_⟩
    any_goals (clear HF HN HW HO HKey HLen HP; go_simp; done)
    have := OwnR.empty (b := true) (L := w.heap.size + 1) (E := IntsR) (e := 46) (B := w.heap.size + 1) (w := w.alloc (.cells #[.int .i64 mk.c, .int .i64 mk.d, .int .i64 mk.s, .int .i64 mk.m, .int .i64 mk.l, .slice a n cap] 26)) (by simp)
    rw [World.size_alloc] at this
    exact this
  clear hw0
  have HS := Lib.hid S0
  have S0' := S0
  clear S0
  refine Calls.mono (HF.out w0) ?_
  rintro e w1 hr
  obtain ⟨r, rfl, hk1, e1⟩ := ret_ext hr
  clear hr
  obtain ⟨u8, b9, rfl, hC⟩ := CandAt.start (p := p) (most := most) e0 (World.block_lt_of_cell? _ _ S0'.c0) e1 o0 hk1
  have HC := Lib.hid hC
  clear hC hk1 o0 HF S0'
  have HS1 := Lib.hid (HS.out.ext e1)
  have et1 := e0.trans e1
  clear HS e1 e0
  go_wp2_with fail
  go_loopg [7, 8, 9] ((allK mk).length) (fun gk s7 s8 s9 wr => CandAt mk p most (w.heap.size + 1) w gk s7 s8 s9 wr ∧ SysAt wr w.heap.size mk (.slice a n cap))
  case atStart => exact ⟨HC.out, HS1.out⟩
  case round =>
    obtain ⟨⟨A, B, wk, ha, hgk, hm, ek, hlo, ekr, o, hB0, hB1⟩, hS⟩ := hrel
    have etw := ek.trans ekr
    have HSr := Lib.hid hS
    have HE := Lib.hid etw
    have Hlen : Hid ((A.filter p).length ≤ 262144) := Nat.le_trans (List.length_filter_le _ _) (by have h := HLen.out; rw [ha, List.length_append] at h; omega)
    obtain ⟨c0, c1, c2, c3, c4, c5⟩ := hS
    obtain ⟨av, nv, kv, rfl, hnv, hnm⟩ := OwnR.shape o
    have HOwn := Lib.hid o
    have HRes : Hid (RowsR (.new w wr) wr (.slice av nv kv) (A.filter p)) := stable_rows.sub (stable_rows.ext (OwnR.rows o) ekr) ⟨fun k hk => ⟨Nat.le_of_succ_le hk.1, Nat.lt_of_lt_of_le hk.2 ekr.size⟩, fun h => h⟩
    have Hm := Lib.hid hm
    clear o hm
    cases B with
    | nil =>
      obtain rfl := hB0 rfl
      have HH : Hid (candL mk p most = A.filter p) := by
        show _ = _
        unfold candL
        rw [ha, List.append_nil, List.take_of_length_le Hm.out]
      clear hB0 hB1 ha hnv
      go_wp2_with fail
      go_ret
      exact ⟨_, rfl, by rw [HH.out]; exact HRes.out, etw⟩
    | cons k B' =>
      obtain ⟨rfl, hk8⟩ := hB1 k B' rfl
      have HK8 := Lib.hid hk8
      obtain ⟨ak, nk, ck, rfl, -⟩ := SliceR.shape hk8
      have HA := Lib.hid ha
      have Hgk := Lib.hid hgk
      have Hnv := Lib.hid hnv
      clear hB0 hB1 hk8 ha hgk hnv
      by_cases hlt : (nv : Int) < most
      · have HCel : Hid (∀ w', Ext wr w' → w'.cell? ⟨w.heap.size, 0, none⟩ = some (.int .i64 mk.c) ∧ w'.cell? ⟨w.heap.size, 1, none⟩ = some (.int .i64 mk.d) ∧ w'.cell? ⟨w.heap.size, 2, none⟩ = some (.int .i64 mk.s) ∧ w'.cell? ⟨w.heap.size, 3, none⟩ = some (.int .i64 mk.m) ∧ w'.cell? ⟨w.heap.size, 4, none⟩ = some (.int .i64 mk.l) ∧ w'.cell? ⟨w.heap.size, 5, none⟩ = some (.slice a n cap)) := fun w' e => have q := HSr.out.ext e; ⟨q.c0, q.c1, q.c2, q.c3, q.c4, q.c5⟩
        have HWk := Lib.hid (fun (w' : World) (e : Ext wr w') => HW.out k w' (HE.out.trans e) _ _ (stable_ints.ext HK8.out e))
        have HOk := Lib.hid (fun (w' : World) (e : Ext wr w') (x : Value) (q : Zone) (g : RowsR q w' x (cuts ++ [k])) => HO.out k (HKey.out k (by rw [HA.out]; simp)) w' (HE.out.trans e) x q g)
        have HPk := Lib.hid (HP.out k)
        have HNk := Lib.hid (fun (w' : World) (x : Value) (q : Zone) (g : IntsR q w' x k) => HN.out A B' k HA.out w' x q g)
        generalize hq : decide (faults mk t (cuts ++ [k]) = 0) = q at *
        clear hq
        go_wp2_with fail
        first | (go_region_held3 (fun w' => w'.cell? ⟨w.heap.size, 0, none⟩ = some (.int .i64 mk.c) ∧ w'.cell? ⟨w.heap.size, 1, none⟩ = some (.int .i64 mk.d) ∧ w'.cell? ⟨w.heap.size, 2, none⟩ = some (.int .i64 mk.s) ∧ w'.cell? ⟨w.heap.size, 3, none⟩ = some (.int .i64 mk.m) ∧ w'.cell? ⟨w.heap.size, 4, none⟩ = some (.int .i64 mk.l) ∧ w'.cell? ⟨w.heap.size, 5, none⟩ = some (.slice a n cap)) (exact HCel.out _ (by repeat (first | exact Ext.refl _ | assumption | (refine Ext.trans ?_ (Ext.alloc _ _)) | (refine Ext.trans ?_ (Ext.drew _)) | (refine Ext.trans ?_ (by assumption))))) (first | (go_at_call 98; (with_reducible refine (HWk.out _ (by repeat (first | exact Ext.refl _ | assumption | (refine Ext.trans ?_ (Ext.alloc _ _)) | (refine Ext.trans ?_ (Ext.drew _)) | (refine Ext.trans ?_ (by assumption))))).mono ?_); rintro e w7 hr7; obtain ⟨r7, rfl, o7, e7⟩ := ret_ext hr7; clear hr7; obtain ⟨a7, n7, k7, rfl, -⟩ := SliceR.shape o7; have e77 : Ext wr w7 := (by repeat (first | exact Ext.refl _ | assumption | (refine Ext.trans ?_ (Ext.alloc _ _)) | (refine Ext.trans ?_ (Ext.drew _)) | (refine Ext.trans ?_ (by assumption))))) | (go_at_call 97; (with_reducible refine (HOk.out _ (by repeat (first | exact Ext.refl _ | assumption | (refine Ext.trans ?_ (Ext.alloc _ _)) | (refine Ext.trans ?_ (Ext.drew _)) | (refine Ext.trans ?_ (by assumption)))) _ _ (stable_rows.ext o7 (by repeat (first | exact Ext.refl _ | assumption | (refine Ext.trans ?_ (Ext.alloc _ _)) | (refine Ext.trans ?_ (Ext.drew _)) | (refine Ext.trans ?_ (by assumption)))))).mono ?_); rintro e w8 hr8; obtain ⟨r8, rfl, rfl, e8⟩ := ret_ext hr8; clear hr8; have e88 : Ext wr w8 := (by repeat (first | exact Ext.refl _ | assumption | (refine Ext.trans ?_ (Ext.alloc _ _)) | (refine Ext.trans ?_ (Ext.drew _)) | (refine Ext.trans ?_ (by assumption))))) | fail)) | fail
        clear c0 c1 c2 c3 c4 c5
        have HS8 := Lib.hid (HSr.out.ext e88)
        cases q with
        | false =>
          have HF : Hid ((A ++ [k]).filter p = A.filter p) := filter_snoc_no HPk.out.symm
          obtain ⟨c0, c1, c2, c3, c4, c5⟩ := HS8.out
          go_wp2_with fail
          refine Calls.mono (HNk.out w8 _ _ (stable_ints.ext HK8.out e88)) ?_
          rintro e w9 hr
          obtain ⟨r, rfl, hk9, e9⟩ := ret_ext hr
          clear hr
          obtain ⟨u9, b9', rfl, hC9⟩ := CandAt.next (p := p) (most := most) (s7 := .slice av nv kv) HA.out (by rw [HF.out]; exact Hm.out) ek hlo (ekr.trans e88) e9 (by rw [HF.out]; exact HOwn.out) hk9 rfl
          have HC9 := Lib.hid hC9
          clear hC9 hk9 c0 c1 c2 c3 c4 c5
          go_wp2_with fail
          go_roundg B'.length
          case measure => rw [Hgk.out]; simp
          case rel => exact ⟨HC9.out, HS8.out.ext e9⟩
        | true =>
          have HF : Hid ((A ++ [k]).filter p = A.filter p ++ [k]) := filter_snoc_yes HPk.out.symm
          have hx' : IntsR (.new wk w8) w8 (.slice ak nk ck) k := stable_ints.sub (stable_ints.ext HK8.out e88) ⟨fun k hk => ⟨hk.1, Nat.lt_of_lt_of_le hk.2 e88.size⟩, fun h => h⟩
          have HX := Lib.hid hx'
          have HL1 : Hid ((A.filter p).length + 1 ≤ 1099511627776) := by show _ ≤ _; have := Hlen.out; omega
          have HEk := Lib.hid (ekr.trans e88)
          have hkz := ek.size
          clear hx'
          go_wp2_with (at_builtin; (refine wpList_appendRow (E := IntsR) (L := w.heap.size + 1) (B := w.heap.size + 1) (xs := A.filter p) stable_ints slRepr_slice rfl _ _ 24 rfl Tryz.underlying24 Tryz.infoInts rfl HOwn.out HEk.out (ak, nk, ck) k HX.out rfl HL1.out (by omega) (by omega) ?_); intro v6 w6 hown6 hb6 hs6 hg6 hat6; have hS6 : SysAt w6 w.heap.size mk (.slice a n cap) := SysAt.of HS8.out (hg6.block _ (World.block_lt_of_cell? _ _ HS8.out.c0) (fun e => by have := HOwn.out.block _ e.symm; omega)); have HS6 := Lib.hid hS6; obtain ⟨c0, c1, c2, c3, c4, c5⟩ := hS6; have HK6 : Hid (IntsR (.new wk w8) w6 (.slice ak nk ck) k) := stable_ints.keep HX.out (fun j hj hl => hg6.block j hl (fun e => by have := HOwn.out.block _ e.symm; have := hj.1; simp only [Zone.new] at this; omega)); have HO6 := Lib.hid hown6; have HB6 := Lib.hid hb6; obtain ⟨a6, n6, k6, rfl, -⟩ := OwnR.shape hown6; clear hown6 hg6 hat6 hb6)
          refine Calls.mono (HNk.out w6 _ _ HK6.out) ?_
          rintro e w9 hr
          obtain ⟨r, rfl, hk9, e9⟩ := ret_ext hr
          clear hr
          have ek6 : Ext w w6 := Below.trans ek (HB6.out.mono (by omega))
          obtain ⟨u9, b9', rfl, hC9⟩ := CandAt.next (p := p) (most := most) (s7 := .slice a6 n6 k6) HA.out (by rw [HF.out, List.length_append, List.length_singleton, ← Hnv.out]; omega) ek6 (Nat.le_trans hlo (Nat.le_trans HEk.out.size hs6)) (Ext.refl _) e9 (by rw [HF.out]; exact HO6.out) hk9 rfl
          have HC9 := Lib.hid hC9
          clear hC9 hk9 c0 c1 c2 c3 c4 c5
          go_wp2_with fail
          go_roundg B'.length
          case measure => rw [Hgk.out]; simp
          case rel => exact ⟨HC9.out, HS6.out.ext e9⟩
      · have HH : Hid (candL mk p most = A.filter p) := by
          show _ = _
          unfold candL
          have h1 := Hm.out
          have h2 := Hnv.out
          rw [HA.out, List.filter_append, List.take_left' (by omega)]
        go_wp2_with fail
        go_ret
        exact ⟨_, rfl, by rw [HH.out]; exact HRes.out, HE.out⟩
end Go.Proofs.YtkeikjedbfomnaaGreatDoor
