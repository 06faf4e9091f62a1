/- Proved: the first keys of a maker, the reference: l02Keys. -/
import Derived.Test.YtegmognpofcfiaaGreatChecked
import Derived.Deep.RegionHeld3
import Derived.Deep.LoopGhost
import Derived.Test.YtegmognpofcfiaaGreatUCands
import Derived.Test.YtegmognpofcfiaaGreatUDrawMk
namespace Go.Proofs.YtegmognpofcfiaaGreat
open Go.ChangeShapes Go.WideShapes Go.ChangeAt Go.RowKit
set_option linter.unusedVariables false

set_option maxRecDepth 20000 in
set_option maxHeartbeats 2000000 in
theorem l02Keys_c (w : World) (mk : MK) (okm : MkOk mk) (most : Int) (hm1 : I64 most) :
    Calls Tryz.prog 186 #[mk.v, .int .i64 most] w (Ret w fun r w' => RowsR (.new w w') w' r (candL mk (fun _ => true) most)) := by
  have HF := Lib.hid (fun (w' : World) => l02First_c mk okm mk.c.toNat [] (by simp) w'.heap.size w' (.slice none 0 0) (.new w' w') (SliceR.nil _ _ _) (Nat.le_refl _) (Nat.le_refl _) (Nat.le_refl _) rfl (fun i hi => by simp at hi))
  have HN := Lib.hid (fun (A B' : List (List Int)) (k : List Int) (ha : allK mk = A ++ k :: B') (w' : World) (x : Value) (q : Zone) (g : IntsR q w' x k) => by
    obtain ⟨h1, h2, h3⟩ := allK_next ha
    have := l02Next_c mk okm w' x q k g h2 (fun i hi => by
      have e : k.getD i 0 = k[i] := by simp [hi]
      rw [e]
      have := h3 _ (List.getElem_mem hi)
      have := okm.d8
      omega)
    rw [h1] at this
    exact this)
  have HLen := Lib.hid (allK_length okm)
  generalize hp : (fun _ : List Int => true) = p at *
  have HP : Hid (∀ k, p k = true) := fun k => by rw [← hp]
  clear hp
  unfold MK.v at *
  go_enter Tryz.func186, Tryz.ntmps186
  go_wp2_with fail
  generalize hw0 : World.alloc (World.alloc _ _) _ = w0
  obtain ⟨e0, S0, o0⟩ : Ext w w0 ∧ MkAt w0 w.heap.size mk ∧ OwnR true (w.heap.size + 1) IntsR 29 (w.heap.size + 1) w0 (.slice (some ⟨w.heap.size + 1, 0, none⟩) 0 0) [] := by
    subst hw0
    refine ⟨(Ext.alloc _ _).trans (Ext.alloc _ _), ⟨?_, ?_, ?_, ?_, ?_⟩, ?_⟩
    any_goals (clear HF HN HLen HP; go_simp; done)
    have := OwnR.empty (b := true) (L := w.heap.size + 1) (E := IntsR) (e := 29) (B := w.heap.size + 1) (w := w.alloc (.cells #[.int .i64 mk.c, .int .i64 mk.d, .int .i64 mk.s, .int .i64 mk.m, .int .i64 mk.l] 25)) (by simp)
    rw [World.size_alloc] at this
    exact this
  clear hw0
  have S0' := S0.1
  have HS := Lib.hid S0
  refine Calls.mono (HF.out w0) ?_
  rintro e w1 hr
  obtain ⟨r, rfl, hk1, e1⟩ := ret_ext hr
  clear hr
  obtain ⟨u8, b9, rfl, hC⟩ := CandAt.start (p := p) (most := most) e0 (World.block_lt_of_cell? _ _ S0') e1 o0 hk1
  have HC := Lib.hid hC
  clear hC hk1 o0 HF S0' S0
  have HS1 := Lib.hid (HS.out.ext e1)
  clear HS e1 e0
  go_wp2_with fail
  go_loopg [5, 6, 7] ((allK mk).length) (fun gk s5 s6 s7 wr => CandAt mk p most (w.heap.size + 1) w gk s5 s6 s7 wr ∧ MkAt wr w.heap.size mk)
  case atStart => exact ⟨HC.out, HS1.out⟩
  case round =>
    obtain ⟨⟨A, B, wk, ha, hgk, hm, ek, hlo, ekr, o, hB0, hB1⟩, hS⟩ := hrel
    have etw := ek.trans ekr
    have HSr := Lib.hid hS
    have HE := Lib.hid etw
    have Hlen : Hid ((A.filter p).length ≤ 262144) := Nat.le_trans (List.length_filter_le _ _) (by have h := HLen.out; rw [ha, List.length_append] at h; omega)
    obtain ⟨c0, c1, c2, c3, c4⟩ := hS
    obtain ⟨av, nv, kv, rfl, hnv, hnm⟩ := OwnR.shape o
    have HOwn := Lib.hid o
    have HRes : Hid (RowsR (.new w wr) wr (.slice av nv kv) (A.filter p)) := stable_rows.sub (stable_rows.ext (OwnR.rows o) ekr) ⟨fun k hk => ⟨Nat.le_of_succ_le hk.1, Nat.lt_of_lt_of_le hk.2 ekr.size⟩, fun h => h⟩
    have Hm := Lib.hid hm
    clear o hm
    cases B with
    | nil =>
      obtain rfl := hB0 rfl
      have HH : Hid (candL mk p most = A.filter p) := by
        show _ = _
        unfold candL
        rw [ha, List.append_nil, List.take_of_length_le Hm.out]
      clear hB0 hB1 ha hnv
      go_wp2_with fail
      go_ret
      exact ⟨_, rfl, by rw [HH.out]; exact HRes.out, etw⟩
    | cons k B' =>
      obtain ⟨rfl, hk8⟩ := hB1 k B' rfl
      have HK8 := Lib.hid hk8
      obtain ⟨ak, nk, ck, rfl, -⟩ := SliceR.shape hk8
      have HA := Lib.hid ha
      have Hgk := Lib.hid hgk
      have Hnv := Lib.hid hnv
      clear hB0 hB1 hk8 ha hgk hnv
      by_cases hlt : (nv : Int) < most
      · have HNk := Lib.hid (fun (w' : World) (x : Value) (q : Zone) (g : IntsR q w' x k) => HN.out A B' k HA.out w' x q g)
        have HFl : Hid ((A ++ [k]).filter p = A.filter p ++ [k]) := filter_snoc_yes (HP.out k)
        have HL1 : Hid ((A.filter p).length + 1 ≤ 1099511627776) := by show _ ≤ _; have := Hlen.out; omega
        have HEk := Lib.hid ekr
        have hkz := ek.size
        go_wp2_with (at_builtin; (refine wpList_appendRow (E := IntsR) (L := w.heap.size + 1) (B := w.heap.size + 1) (xs := A.filter p) stable_ints slRepr_slice rfl _ _ 26 rfl Tryz.underlying26 Tryz.infoInts rfl HOwn.out HEk.out (ak, nk, ck) k HK8.out rfl HL1.out (by omega) (by omega) ?_); intro v6 w6 hown6 hb6 hs6 hg6 hat6; have hbk := hg6.block w.heap.size (World.block_lt_of_cell? _ _ HSr.out.1) (fun e => by have := HOwn.out.block _ e.symm; omega); have hS6 : MkAt w6 w.heap.size mk := ⟨(World.cell?_of_block hbk).trans HSr.out.1, (World.cell?_of_block hbk).trans HSr.out.2.1, (World.cell?_of_block hbk).trans HSr.out.2.2.1, (World.cell?_of_block hbk).trans HSr.out.2.2.2.1, (World.cell?_of_block hbk).trans HSr.out.2.2.2.2⟩; have HS6 := Lib.hid hS6; clear c0 c1 c2 c3 c4; obtain ⟨c0, c1, c2, c3, c4⟩ := hS6; have HK6 : Hid (IntsR (.new wk wr) w6 (.slice ak nk ck) k) := stable_ints.keep HK8.out (fun j hj hl => hg6.block j hl (fun e => by have := HOwn.out.block _ e.symm; have := hj.1; simp only [Zone.new] at this; omega)); have HO6 := Lib.hid hown6; have HB6 := Lib.hid hb6; obtain ⟨a6, n6, k6, rfl, -⟩ := OwnR.shape hown6; clear hown6 hg6 hat6 hb6 hbk)
        refine Calls.mono (HNk.out w6 _ _ HK6.out) ?_
        rintro e w9 hr
        obtain ⟨r, rfl, hk9, e9⟩ := ret_ext hr
        clear hr
        have ek6 : Ext w w6 := Below.trans ek (HB6.out.mono (by omega))
        obtain ⟨u9, b9', rfl, hC9⟩ := CandAt.next (p := p) (most := most) (s7 := .slice a6 n6 k6) HA.out (by rw [HFl.out, List.length_append, List.length_singleton, ← Hnv.out]; omega) ek6 (Nat.le_trans hlo (Nat.le_trans HEk.out.size hs6)) (Ext.refl _) e9 (by rw [HFl.out]; exact HO6.out) hk9 rfl
        have HC9 := Lib.hid hC9
        clear hC9 hk9 c0 c1 c2 c3 c4
        go_wp2_with fail
        go_roundg B'.length
        case measure => rw [Hgk.out]; simp
        case rel => exact ⟨HC9.out, HS6.out.ext e9⟩
      · have HH : Hid (candL mk p most = A.filter p) := by
          show _ = _
          unfold candL
          have h1 := Hm.out
          have h2 := Hnv.out
          rw [HA.out, List.filter_append, List.take_left' (by omega)]
        go_wp2_with fail
        go_ret
        exact ⟨_, rfl, by rw [HH.out]; exact HRes.out, HE.out⟩
end Go.Proofs.YtegmognpofcfiaaGreat
