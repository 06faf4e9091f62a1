/- Proved: the draw of a system, a design, a further row and a key: l24Draw. -/
import Derived.Test.YtegmognpofcfiaaGreatChecked
import Derived.Deep.RegionLaw
import Derived.Deep.RegionHeld3
import Derived.Deep.Cut
import Derived.Deep.CutBlock
import Derived.Test.YtegmognpofcfiaaGreatUDrawMax
import Derived.Test.YtegmognpofcfiaaGreatUIssueSpec
import Derived.Test.YtegmognpofcfiaaGreatUDrawCost
namespace Go.Proofs.YtegmognpofcfiaaGreat
open Go.ChangeShapes Go.WideShapes Go.ChangeAt Go.RowKit
set_option linter.unusedVariables false

/-- a system in its box, cuts, the result's cell -/
def StA (g rb lo b : Nat) (w : World) (s7 : Value) (wx : World) : Prop := ∃ (mk : MK) (v : Value) (t : List (List Int)) (cuts : List (List Int)), MkR mk ∧ Box6 b mk v wx ∧ RowsR ⟨lo, wx.heap.size, false⟩ wx v t ∧ t.length ≤ 14 ∧ (∀ x ∈ t, x.length ≤ 14) ∧ RowsR ⟨lo, wx.heap.size, false⟩ wx s7 cuts ∧ cuts.length ≤ 20 ∧ Dr g w wx ∧ ResAt wx rb
/-- a system, cuts, a row and a key that a draw hands back -/
def ExtD (w : World) (r : Value) (w' : World) : Prop := ∃ (mk : MK) (v : Value) (t : List (List Int)) (u : Value) (cuts : List (List Int)) (p : Value) (row : List Int) (q : Value) (key : List Int), r = .tuple #[sysV mk v, u, p, q] ∧ RowsR ⟨w.heap.size, w'.heap.size, false⟩ w' v t ∧ RowsR ⟨w.heap.size, w'.heap.size, false⟩ w' u cuts ∧ IntsR ⟨w.heap.size, w'.heap.size, false⟩ w' p row ∧ IntsR ⟨w.heap.size, w'.heap.size, false⟩ w' q key
def mk24 : MK := ⟨2, 4, 3, 1, 1⟩
theorem mk24_ok : MkOk mk24 := by constructor <;> simp [mk24]
theorem keys24 : 10 ≤ (candL mk24 (fun _ => true) 12).length := by decide

set_option maxRecDepth 20000 in
set_option maxHeartbeats 2000000 in
theorem l24Draw_c (w : World) (g : Nat) (h : Src g w) : Calls Tryz.prog 103 #[.pointer (some ⟨g, 0, none⟩)] w (DrawR g w (ExtD w)) := by
  have hlt := h.lt
  have hd0 := (Dr.refl h).alloc (.cells #[.int .i64 0, .int .i64 0, .int .i64 0, .int .i64 0, .int .i64 0, .slice none 0 0] 28)
  have R0 := res_new w 28
  have hsz0 : (w.alloc (.cells #[.int .i64 0, .int .i64 0, .int .i64 0, .int .i64 0, .int .i64 0, .slice none 0 0] 28)).heap.size = w.heap.size + 1 := by simp
  have hcall := l21Draw_c _ g hd0.src
  clear h
  go_enter Tryz.func103, Tryz.ntmps103
  go_wp2_with fail
  generalize w.alloc (.cells #[.int .i64 0, .int .i64 0, .int .i64 0, .int .i64 0, .int .i64 0, .slice none 0 0] 28) = w0 at *
  refine Calls.mono hcall ?_
  rintro e w1 ⟨_, rfl, ⟨mk, v, t, u, cuts, rfl, hm, ht, hl, hr, hc, hcl⟩, hd1⟩
  clear hcall
  have hsa := hd1.size
  have hwg : w.heap.size ≠ g := by omega
  have hlo : w.heap.size < w0.heap.size := by omega
  have hw0s : w0.heap.size ≤ w.heap.size + 1 := by omega
  have hgo : g < w0.heap.size := by omega
  obtain ⟨a, n, k, rfl, -⟩ := SliceR.shape ht
  obtain ⟨a2, n2, k2, rfl, -⟩ := SliceR.shape hc
  have R1 := R0.dr hd1 hwg
  have R1' := R1
  replace hd1 := hd0.trans hd1
  unfold sysV
  clear hd0 R0
  go_wp2_with fail
  have Bx := Box6.new w1 mk (.slice a n k) 28
  have eb : Ext w1 (w1.alloc (.cells #[.int .i64 mk.c, .int .i64 mk.d, .int .i64 mk.s, .int .i64 mk.m, .int .i64 mk.l, .slice a n k] 28)) := Ext.alloc _ _
  have hsb : (w1.alloc (.cells #[.int .i64 mk.c, .int .i64 mk.d, .int .i64 mk.s, .int .i64 mk.m, .int .i64 mk.l, .slice a n k] 28)).heap.size = w1.heap.size + 1 := by simp
  have hdb := hd1.alloc (.cells #[.int .i64 mk.c, .int .i64 mk.d, .int .i64 mk.s, .int .i64 mk.m, .int .i64 mk.l, .slice a n k] 28)
  have hdw : Dr g w1 (w1.alloc (.cells #[.int .i64 mk.c, .int .i64 mk.d, .int .i64 mk.s, .int .i64 mk.m, .int .i64 mk.l, .slice a n k] 28)) := (Dr.refl hd1.src).alloc _
  generalize w1.alloc (.cells #[.int .i64 mk.c, .int .i64 mk.d, .int .i64 mk.s, .int .i64 mk.m, .int .i64 mk.l, .slice a n k] 28) = wb at *
  obtain ⟨b, hb⟩ : ∃ b, w1.heap.size = b := ⟨_, rfl⟩
  have hbg : b ≠ g := by omega
  have hcall := l01Next_c wb g hdb.src 30 (by unfold I64; omega)
  have HT := Lib.hid (stable_rows.ext ht eb)
  have HC := Lib.hid (stable_rows.ext hc eb)
  have HB : Hid ((t.length ≤ 14 ∧ ∀ x ∈ t, x.length ≤ 14) ∧ cuts.length ≤ 20 ∧ MkR mk) := ⟨⟨hl, hr⟩, hcl, hm⟩
  replace R1 := R1.ext eb
  rw [hb] at Bx hsb ⊢
  have HD1 := Lib.hid hd1
  have HR1 := Lib.hid R1'
  clear ht hc hl hr hcl hm eb hd1 R1'
  refine Calls.mono hcall ?_
  rintro e w2 ⟨_, rfl, ⟨x, rfl, hx0, hx1⟩, hd2⟩
  clear hcall
  have HBx := Lib.hid (Bx.dr hd2 hbg)
  have HR := Lib.hid (R1.dr hd2 hwg)
  have HD := Lib.hid (hdb.trans hd2)
  have HDw := Lib.hid (hdw.trans hd2)
  have hs2 := hd2.size
  have HT2 : Hid (RowsR ⟨w0.heap.size, w2.heap.size, false⟩ w2 (.slice a n k) t) := stable_rows.sub (stable_rows.dr HT.out hd2 (.inl hgo)) ⟨fun k hk => ⟨hk.1, by have := hk.2; simp only at this ⊢; omega⟩, fun h => h⟩
  have HC2 : Hid (RowsR ⟨w0.heap.size, w2.heap.size, false⟩ w2 (.slice a2 n2 k2) cuts) := stable_rows.sub (stable_rows.dr HC.out hd2 (.inl hgo)) ⟨fun k hk => ⟨hk.1, by have := hk.2; simp only at this ⊢; omega⟩, fun h => h⟩
  have hs12 : w1.heap.size ≤ w2.heap.size := by omega
  have hbl : b < w2.heap.size := HBx.out.1.lt
  have hw02 : w0.heap.size ≤ w2.heap.size := by omega
  have hg1 : g < w1.heap.size := by omega
  have hb1 : w1.heap.size ≤ b := by omega
  clear Bx R1 hdb hdw hd2 HT HC hsa hsz0 hsb
  go_upto_if 21 with fail
  go_cut [7] (fun s7 wx => StA g w.heap.size w0.heap.size b w s7 wx)
  case first =>
    by_cases e0 : x = 0
    · subst e0
      obtain ⟨⟨c0, c1, c2, c3, c4, c5⟩, f⟩ := HBx.out
      have f0 := f 0
      have f1 := f 1
      have f2 := f 2
      have f3 := f 3
      have f4 := f 4
      have f5 := f 5
      clear f
      have hB2 : MaxN g b (w2.heap.size + 2) (w2.heap.size + 2) w2.heap.size w1 := ⟨hg1, hbg, hbl, hs12, by omega, Nat.le_refl _, hb1⟩
      have hgB : g < w2.heap.size := Nat.lt_of_lt_of_le hg1 hs12
      go_wp2_with fail
      generalize hwk : World.alloc (World.alloc _ _) _ = wk
      obtain ⟨kB, kD, kS, k1, k2'⟩ := max_new (mk' := mk24) (g := g) HBx.out HDw.out hB2.b0 hwk
      clear hwk c0 c1 c2 c3 c4 c5 f0 f1 f2 f3 f4 f5
      have hcall := l02Keys_c wk mk24 mk24_ok 12 (by unfold I64; omega)
      refine Calls.mono hcall ?_
      rintro e wk1 hr
      obtain ⟨r, rfl, hkeys, e1⟩ := ret_ext hr
      clear hr hcall
      have hL10 := keys24
      generalize candL mk24 (fun _ => true) 12 = L at *
      obtain ⟨ka, kn, kk, rfl, hkn, -⟩ := SliceR.shape hkeys
      have M0 := MaxAt.start (L := L) kB kD kS k1 k2' e1 hkeys
      have hkn10 : 10 ≤ kn := by omega
      have hN : MaxN g b wk.heap.size wk1.heap.size w2.heap.size w1 := ⟨hB2.gK, hbg, hbl, hs12, by omega, e1.size, hB2.b0⟩
      have HN := Lib.hid hN
      have HM0 := Lib.hid M0
      have Hkn := Lib.hid hkn
      have HKK : Hid (w2.heap.size + 2 = wk.heap.size) := kS.symm
      have hkw : wk.heap.size ≤ wk1.heap.size := e1.size
      clear M0 hN hB2 kB kD kS k1 k2' hkeys e1 hkn hL10
      go_wp2_with fail
      go_loopw [7] (fun s7 wr => ∃ (vk : Value) (cuts t : List (List Int)), MaxAt g b wk.heap.size wk1.heap.size w2.heap.size mk24 ka kn kk L w1 s7 vk cuts t wr ∧ cuts.length ≤ 10 ∧ t = List.replicate cuts.length [1]) (fun s7 _ => 10 - drawLen s7)
      case atStart => exact ⟨_, _, _, HM0.out, by simp, rfl⟩
      case round =>
        clear HM0
        obtain ⟨vk, cu, t', M, hcu, rfl⟩ := hrel
        obtain ⟨a7, n7, k7, rfl, hn7, -⟩ := OwnA.shape M.c
        have hcall := l01Next_c wr g M.dr.src 2 (by unfold I64; omega)
        have HM := Lib.hid M
        have Hn7 := Lib.hid hn7
        have hn10 : n7 ≤ 10 := by omega
        clear M hn7 hcu
        go_wp2_with fail
        refine Calls.mono hcall ?_
        rintro e w7 ⟨_, rfl, ⟨xi, rfl, hxi0, hxi1⟩, hd7⟩
        clear hcall
        have M7 := HM.out.step HN.out hd7
        have HM7 := Lib.hid M7
        have hxi : xi ≤ 1 := by omega
        clear hxi1 hd7 HM
        by_cases hlt3 : (n7 : Int) < 10 - xi
        · obtain ⟨a', n', k', he', hn', -, -, -, -, hel⟩ := SliceR.shape M7.keys
          injection he' with e1 e2 e3
          subst e1; subst e2; subst e3
          obtain ⟨bb, oo, rfl, hz1, hz2, -, u8, y8, hc8, hy8, -, hE8⟩ := hel n7 (by omega)
          obtain ⟨a8, n8, k8, rfl, -⟩ := SliceR.shape hE8
          have HX := Lib.hid hE8
          have HZ : Hid (∀ q, y8.Has q → (wk.heap.size ≤ q ∧ q < wk1.heap.size) ∧ q < w7.heap.size ∧ (Value.slice a7 n7 k7).ownBlock ≠ some q ∧ (false = true → ¬ (wk.heap.size ≤ q ∧ q < wk1.heap.size))) := fun q hq => by
            have hh := hy8.1 q hq
            have h1 := hh.1
            have h2 := hh.2
            simp only at h1 h2
            have h3 := HM7.out.K
            exact ⟨⟨h1, h2⟩, by omega, fun e => by have := (HM7.out.far7 q e).1; omega, fun h => by cases h⟩
          obtain ⟨av, nv, kv, hvk, hnv, -⟩ := OwnA.shape M7.t
          subst hvk
          have HL7 : Hid (cu.length + 1 ≤ 1099511627776) := by show _ ≤ _; have := Hn7.out; omega
          have HL8 : Hid ((List.replicate cu.length [(1 : Int)]).length + 1 ≤ 1099511627776) := by show _ ≤ _; rw [List.length_replicate]; have := Hn7.out; omega
          have hB7 : w2.heap.size ≤ w7.heap.size := by have := HM7.out.K; have := HKK.out; omega
          have hkn' : (n7 : Int) < (kn : Int) := by omega
          have hn70 : (0 : Int) ≤ (n7 : Int) := by omega
          have hrow : (List.replicate cu.length [(1 : Int)]) ++ [[1]] = List.replicate (cu.length + 1) [(1 : Int)] := (List.replicate_succ' ..).symm
          have HRw := Lib.hid hrow
          generalize L[n7]'(by omega) = key at *
          clear hel hE8 hy8 hz1 hz2 hn' hnv hrow M7
          go_upto_region 8 with (at_builtin; (refine wpList_append_of (v := .slice a7 n7 k7) rfl _ _ 26 rfl rfl rfl (fun ty => run_appendOld stable_ints 26 ty Tryz.underlying26 Tryz.infoInts (fun _ _ hk => hk) HM7.out.c (u := (a8, n8, k8)) HX.out (fun h => by cases h) HZ.out rfl HL7.out hB7) ?_; intro v8 w8 h8; have M8 := MaxAt.key HN.out HM7.out h8.1 h8.2.2.1 h8.2.2.2; clear h8; have HM8 := Lib.hid M8; have c5 := M8.box.1.c5; obtain ⟨a9, n9, k9, rfl, hn9, -⟩ := OwnA.shape M8.c; have Hn9 := Lib.hid hn9; clear M8 hn9))
          have hK8 := HM8.out.K
          have HT8 := Lib.hid (OwnA.below stable_ints HM8.out.t (Ext.alloc w8 (.cells #[.int .i64 1] 2)))
          have HY8 := Lib.hid (ints_one w8 1 2 (by unfold I64; omega))
          have HZ8 : Hid (∀ q, (⟨w8.heap.size, (w8.alloc (.cells #[.int .i64 1] 2)).heap.size, true⟩ : Zone).Has q → (wk1.heap.size ≤ q ∧ (Value.slice a9 n9 k9).ownBlock ≠ some q) ∧ q < (w8.alloc (.cells #[.int .i64 1] 2)).heap.size ∧ (Value.slice av nv kv).ownBlock ≠ some q ∧ (false = true → ¬ (wk1.heap.size ≤ q ∧ (Value.slice a9 n9 k9).ownBlock ≠ some q))) := fun q hq => by
            have h1 := hq.1
            simp only at h1
            exact ⟨⟨by omega, fun e => by have := (HM8.out.c.block q e).2; omega⟩, hq.2, fun e => by have := (HM8.out.t.block q e).2; omega, fun h => by cases h⟩
          have hB8 : w2.heap.size ≤ (w8.alloc (.cells #[.int .i64 1] 2)).heap.size := by rw [World.size_alloc]; have := HKK.out; omega
          have hsR : (w8.alloc (.cells #[.int .i64 1] 2)).heap.size = w8.heap.size + 1 := World.size_alloc ..
          have HsR := Lib.hid hsR
          clear hsR
          go_wp2_with (at_builtin; (refine wpList_append_of (v := .slice av nv kv) rfl _ _ 26 rfl rfl rfl (fun ty => run_appendOld stable_ints 26 ty Tryz.underlying26 Tryz.infoInts (fun _ _ hk => hk) HT8.out (u := (some ⟨w8.heap.size, 0, none⟩, 1, 1)) HY8.out (fun h => by cases h) HZ8.out HsR.out HL8.out hB8) ?_; intro v9 w9 h9; have M9 := MaxAt.row HN.out HM8.out (Ext.alloc w8 _) h9.1 h9.2.2.1 h9.2.2.2; have HM9 := Lib.hid M9; have hbb : w9.heap[b]? = w8.heap[b]? := (h9.2.2.1.block b (by have := HM8.out.box.1.lt; rw [HsR.out]; omega) (fun e => by have := (HM8.out.t.block b e.symm).1; omega)).trans (Below.block (Ext.alloc w8 _) b HM8.out.box.1.lt); have d5 : w9.cell? ⟨b, 5, none⟩ = some (.slice av nv kv) := (World.cell?_of_block (a := ⟨b, 5, none⟩) hbb).trans c5; have d5f : w9.frozen? ⟨b, 5, none⟩ = false := (World.frozen?_of_block (a := ⟨b, 5, none⟩) hbb).trans (HM8.out.box.2 5); obtain ⟨a6, n6, k6, rfl, -⟩ := OwnA.shape h9.1; clear M9 h9 hbb c5))
          refine ⟨⟨_, _, _, HM9.out, ?_, ?_⟩, ?_⟩
          · have h1 := Hn7.out
            rw [List.length_append, List.length_singleton]; omega
          · rw [List.length_append, List.length_singleton]; exact HRw.out
          · have h1 := Hn7.out
            have h2 := Hn9.out
            rw [List.length_append, List.length_singleton] at h2
            show 10 - n9 < 10 - n7
            omega
        · have hb7 := M7.box
          have hR1 := OwnA.reads M7.t (L := w0.heap.size) (fun q hq => by have := hq.1; have := HKK.out; omega) hw02
          have hR2 := OwnA.reads M7.c (L := w0.heap.size) (fun q hq => by have := hq.1; have := HKK.out; omega) hw02
          have HSt : Hid (StA g w.heap.size w0.heap.size b w (.slice a7 n7 k7) w7) := ⟨mk24, _, _, cu, by unfold MkR mk24; simp, hb7, hR1, by rw [List.length_replicate]; have := Hn7.out; omega, fun x hx => by rw [List.eq_of_mem_replicate hx]; simp, hR2, by have := Hn7.out; omega, HD1.out.trans M7.dr, HR1.out.dr M7.dr hwg⟩
          clear hb7 hR1 hR2 M7
          go_wp2_with fail
          go_meet
          exact HSt.out
    · go_wp2_with fail
      go_meet
      exact ⟨mk, _, t, cuts, HB.out.2.2, HBx.out, HT2.out, HB.out.1.1, HB.out.1.2, HC2.out, HB.out.2.1, HD.out, HR.out⟩
  case rest =>
    obtain ⟨wo, hwo⟩ : ∃ wo, wo = wc := ⟨_, rfl⟩
    subst hwo
    clear HB HBx HR HD HDw HT2 HC2 HD1 HR1
    obtain ⟨mk, v, t, cuts, hm, hbx, hT, hTl, hTr, hC, hCl, hD, hR⟩ := hcut
    obtain ⟨a, n, k, rfl, hn, -, -, -, -, hel⟩ := SliceR.shape hT
    obtain ⟨a2, n2, k2, rfl, -⟩ := SliceR.shape hC
    have hsrc := hD.src
    have hgc : g < wo.heap.size := hsrc.lt
    have hw0c : w0.heap.size ≤ wo.heap.size := Nat.le_trans hw0s hR.lt
    have HBx := Lib.hid hbx
    have HT := Lib.hid (fun (w' : World) (hd : Dr g wo w') => stable_rows.dr hT hd (.inl hgo))
    have HC := Lib.hid (fun (w' : World) (hd : Dr g wo w') => stable_rows.dr hC hd (.inl hgo))
    have HD := Lib.hid hD
    have HR := Lib.hid hR
    have HMr := Lib.hid hm
    obtain ⟨m0, hrow0⟩ : ∃ m0 : Nat, m0 ≤ 14 ∧ (0 < n → ∃ vb vo a0 c0, a = some ⟨vb, vo, none⟩ ∧ ∀ w', Dr g wo w' → w'.cell? ⟨vb, vo, none⟩ = some (.slice a0 m0 c0)) := by
      by_cases h0 : 0 < n
      · have ht0 : 0 < t.length := by omega
        obtain ⟨vb, vo, rfl, hz, hlt', -, u0, y0, hc0, -, -, hE0⟩ := hel 0 ht0
        obtain ⟨a0, n0, c0, rfl, hn0, -⟩ := SliceR.shape hE0
        rw [Nat.add_zero] at hc0
        have hz1 := hz.1
        simp only at hz1
        exact ⟨n0, by have := hTr _ (List.getElem_mem ht0); omega, fun _ => ⟨vb, vo, a0, c0, rfl, fun w' hd => hd.cell hc0 (by show vb ≠ g; omega)⟩⟩
      · exact ⟨0, by omega, fun h => absurd h h0⟩
    obtain ⟨hm14, hrow0⟩ := hrow0
    clear hm hbx hT hTl hTr hC hCl hD hR hel hn
    go_upto_block 2 with fail
    go_cut [9, 10] (fun s9 _ wx => ∃ l : List Int, OwnP (Value.int .i64) 2 wo.heap.size wx s9 l ∧ l.length ≤ 14 ∧ (∀ y ∈ l, I64 y) ∧ Dr g wo wx)
    case first =>
      have oi : OwnP (Value.int .i64) 2 wo.heap.size (wo.alloc (.cells #[] 2)) (.slice (some ⟨wo.heap.size, 0, none⟩) 0 0) [] := OwnP.empty (Nat.le_refl _)
      have di : Dr g wo (wo.alloc (.cells #[] 2)) := (Dr.refl hsrc).alloc _
      generalize wo.alloc (.cells #[] 2) = wi at *
      go_wp2_with fail
      go_loopw [9, 10] (fun s9 s10 wr => ∃ (i : Nat) (l : List Int), s10 = .int .i64 i ∧ i ≤ m0 ∧ l.length = i ∧ (∀ y ∈ l, I64 y) ∧ OwnP (Value.int .i64) 2 wo.heap.size wr s9 l ∧ Dr g wo wr) (fun _ s10 _ => m0 - (intOf s10).toNat)
      case atStart => exact ⟨0, [], rfl, Nat.zero_le _, rfl, by simp, oi, di⟩
      case round =>
        clear oi di
        obtain ⟨i, l, rfl, hi, hll, hli, ho, hd⟩ := hrel
        obtain ⟨c0, c1, c2, c3, c4, c5⟩ := (HBx.out.dr hd hbg).1
        have hd' := hd
        by_cases h0 : 0 < n
        · obtain ⟨vb, vo, a0, q0, rfl, hrc⟩ := hrow0 h0
          have r0 := hrc wr hd
          have h0' : (0 : Int) < (n : Int) := by omega
          have HRc := Lib.hid hrc
          clear hrc
          by_cases hin : i < m0
          · have hcall := pickL_c wr g hd.src [0, 0, 1] #[.int .i64 0, .int .i64 0, .int .i64 1] rfl (by simp [I64]) (by simp) (by simp) rfl rfl
            have hd5 := hd.alloc (.cells #[.int .i64 0, .int .i64 0, .int .i64 1] 2)
            have ho5 := ho.alloc (.cells #[.int .i64 0, .int .i64 0, .int .i64 1] 2)
            have HLi := Lib.hid hli
            have Hll := Lib.hid hll
            clear hd hd' ho hli hll
            go_wp2_with fail
            refine Calls.mono hcall ?_
            rintro e w7 ⟨_, rfl, ⟨y, rfl, hyl⟩, hd6⟩
            have hy : I64 y := by simp only [List.mem_cons, List.not_mem_nil, or_false] at hyl; unfold I64; omega
            clear hcall hyl c0 c1 c2 c3 c4 c5 r0
            have hd7 := hd5.trans hd6
            have ho7 := ho5.dr hd6 hgc
            have hs7 := hd7.size
            have hl1 : l.length ≤ 1000000 := by rw [Hll.out]; omega
            clear hd5 hd6 ho5
            go_wp2_with (at_builtin; (refine wpList_drawInt (g := g) (w0 := wo) (B := wo.heap.size) rfl _ _ 29 rfl Tryz.underlying29 Tryz.infoI64 rfl ho7 y rfl hl1 hd7 (Nat.le_refl _) hs7 ?_); intro v8 w8 hown8 hd8 hs8)
            exact ⟨⟨i + 1, l ++ [y], by go_num, by omega, by rw [List.length_append, List.length_singleton, Hll.out], ints_snoc HLi.out hy, hown8, hd8⟩, by simp [intOf]; omega⟩
          · have HLi := Lib.hid hli
            have Hll := Lib.hid hll
            clear hli hll
            go_wp2_with fail
            go_meet
            exact ⟨l, ho, by rw [Hll.out]; omega, HLi.out, hd'⟩
        · have HLi := Lib.hid hli
          have Hll := Lib.hid hll
          have hn0 : n = 0 := by omega
          subst hn0
          clear hli hll
          go_wp2_with fail
          go_meet
          exact ⟨l, ho, by rw [Hll.out]; omega, HLi.out, hd'⟩
    case rest =>
      clear hsrc hrow0
      obtain ⟨l, ho, hl14, hli, hd⟩ := hcut
      obtain ⟨a9, n9, k9, rfl, hn9, -⟩ := OwnP.shape ho
      have hcall := l01Next_c wc g hd.src 30 (by unfold I64; omega)
      have HO := Lib.hid ho
      have HLi := Lib.hid hli
      have HDl := Lib.hid hd
      have Hn9 := Lib.hid hn9
      have hn914 : n9 ≤ 14 := by omega
      clear ho hli hd hn9 hl14
      go_wp2_with fail
      refine Calls.mono hcall ?_
      rintro e w3 ⟨_, rfl, ⟨x, rfl, hx0, hx1⟩, hd3⟩
      clear hcall
      have HO3 := Lib.hid (HO.out.dr hd3 hgc)
      have HD3 := Lib.hid (HDl.out.trans hd3)
      have hs3 : wo.heap.size ≤ w3.heap.size := HD3.out.size
      clear hd3 HO HDl
      go_upto_block 4 with fail
      go_cut [9] (fun s9 wx => ∃ row : List Int, IntsR ⟨wo.heap.size, wx.heap.size, true⟩ wx s9 row ∧ Dr g wo wx)
      case first =>
        by_cases e0 : x = 0
        · subst e0
          have hl1 : l.length ≤ 1000000 := by have := Hn9.out; omega
          have HL1 := Lib.hid hl1
          have ho3 := HO3.out
          have hd3 := HD3.out
          clear hl1
          go_wp2_with (at_builtin; (refine wpList_drawInt (v := .slice a9 n9 k9) (g := g) (w0 := wo) (B := wo.heap.size) rfl _ _ 29 rfl Tryz.underlying29 Tryz.infoI64 rfl ho3 1 rfl HL1.out hd3 (Nat.le_refl _) hs3 ?_); intro v8 w8 hown8 hd8 hs8)
          go_meet
          exact ⟨_, OwnP.ints hown8 (ints_snoc HLi.out (by unfold I64; omega)) (Nat.le_refl _), hd8⟩
        · by_cases e1 : x = 1
          · subst e1
            by_cases h0 : 0 < n9
            · have hcall := pickL_c w3 g HD3.out.src [-1, 2] #[.int .i64 (-1), .int .i64 2] rfl (by simp [I64]) (by simp) (by simp) rfl rfl
              have hd5 := HD3.out.alloc (.cells #[.int .i64 (-1), .int .i64 2] 2)
              have ho5 := HO3.out.alloc (.cells #[.int .i64 (-1), .int .i64 2] 2)
              obtain ⟨gb, ha, hgb1, hgb2, -⟩ := HO3.out.elem 0 0 h0
              subst ha
              have h0' : (0 : Int) < (n9 : Int) := by omega
              go_wp2_with fail
              refine Calls.mono hcall ?_
              rintro e w7 ⟨_, rfl, ⟨y, rfl, hyl⟩, hd6⟩
              have hy : I64 y := by simp only [List.mem_cons, List.not_mem_nil, or_false] at hyl; unfold I64; omega
              clear hcall hyl
              have ho7 := ho5.dr hd6 hgc
              have hd7 := hd5.trans hd6
              have hm12 : w7.cell? ⟨gb, 0, none⟩ = some (.int .i64 (l.getD 0 0)) ∧ w7.frozen? ⟨gb, 0, none⟩ = false := by
                obtain ⟨gb', hg', -, -, h1, h2⟩ := ho7.elem 0 0 h0
                injection hg' with hg'; injection hg' with hg' _ _
                subst hg'
                exact ⟨h1, h2⟩
              obtain ⟨m1, m2⟩ := hm12
              have hst := ho7.store 0 y
              have HSt := Lib.hid hst
              have HPut := Lib.hid (hd7.put (p := ⟨gb, 0, none⟩) hgb1 (.int .i64 y))
              clear ho5 hd5 hd6 ho7 hd7 hst
              go_wp2_with fail
              go_meet
              exact ⟨_, OwnP.ints HSt.out (fun z hz => by
                rcases List.mem_or_eq_of_mem_set hz with hz | hz
                · exact HLi.out z hz
                · rw [hz]; exact hy) (Nat.le_refl _), HPut.out⟩
            · go_wp2_with fail
              go_meet
              exact ⟨_, OwnP.ints HO3.out HLi.out (Nat.le_refl _), HD3.out⟩
          · go_wp2_with fail
            go_meet
            exact ⟨_, OwnP.ints HO3.out HLi.out (Nat.le_refl _), HD3.out⟩
      case rest =>
        obtain ⟨row, hrow, hd⟩ := hcut
        obtain ⟨aR, nR, kR, rfl, -⟩ := SliceR.shape hrow
        have hsc := hd.size
        have hgw : g < wc.heap.size := by omega
        have HRow := Lib.hid (fun (w' : World) (hd' : Dr g wc w') => (stable_ints.sub (stable_ints.dr hrow hd' (.inl hgc)) ⟨fun q hq => ⟨hq.1, Nat.lt_of_lt_of_le hq.2 hd'.size⟩, fun h => h⟩ : IntsR ⟨wo.heap.size, w'.heap.size, true⟩ w' (.slice aR nR kR) row))
        have HDc := Lib.hid hd
        have HFin : Hid (∀ w' q key, Dr g wo w' → IntsR ⟨wo.heap.size, w'.heap.size, true⟩ w' (.slice aR nR kR) row → IntsR ⟨wo.heap.size, w'.heap.size, true⟩ w' q key → DrawR g w (ExtD w) (.returned (.tuple #[.agg #[.int .i64 mk.c, .int .i64 mk.d, .int .i64 mk.s, .int .i64 mk.m, .int .i64 mk.l, .slice a n k], .slice a2 n2 k2, .slice aR nR kR, q]))
            ((((((w'.setCell ⟨w.heap.size, 0, none⟩ (.int .i64 mk.c)).setCell ⟨w.heap.size, 1, none⟩ (.int .i64 mk.d)).setCell ⟨w.heap.size, 2, none⟩ (.int .i64 mk.s)).setCell ⟨w.heap.size, 3, none⟩ (.int .i64 mk.m)).setCell ⟨w.heap.size, 4, none⟩ (.int .i64 mk.l)).setCell ⟨w.heap.size, 5, none⟩ (.slice a n k))) := fun w' q key hd' h1 h2 => by
          have hz : ∀ {v t}, RowsR ⟨w0.heap.size, wo.heap.size, false⟩ w' v t → RowsR ⟨w0.heap.size, w'.heap.size, false⟩ w' v t := fun h => stable_rows.sub h ⟨fun k hk => ⟨hk.1, Nat.lt_of_lt_of_le hk.2 hd'.size⟩, fun h => h⟩
          exact ⟨_, rfl, ⟨mk, _, t, _, cuts, _, row, _, key, rfl, rows_put6 (hz (HT.out w' hd')) hlo _ _ _ _ _ _, rows_put6 (hz (HC.out w' hd')) hlo _ _ _ _ _ _, ints_put6 h1 (Nat.lt_of_lt_of_le hlo hw0c) _ _ _ _ _ _, ints_put6 h2 (Nat.lt_of_lt_of_le hlo hw0c) _ _ _ _ _ _⟩, put6 (HD.out.trans hd') (Nat.le_refl _) _ _ _ _ _ _⟩
        have hcall := l02DrawKey_c wc g hd.src mk HMr.out
        unfold MK.v at hcall
        obtain ⟨c0, c1, c2, c3, c4, c5⟩ := (HBx.out.dr hd hbg).1
        clear hrow hd HLi HO3 HD3
        go_wp2_with fail
        refine Calls.mono hcall ?_
        rintro e w4 ⟨_, rfl, ⟨key, hkey⟩, hd4⟩
        obtain ⟨aK, nK, kK, rfl, -⟩ := SliceR.shape hkey
        clear hcall c0 c1 c2 c3 c4 c5
        have hcall := l01Next_c w4 g hd4.src 2 (by unfold I64; omega)
        have HKey := Lib.hid (fun (w' : World) (hd' : Dr g w4 w') => (stable_ints.sub (stable_ints.dr hkey hd' (.inl (by show g < wc.heap.size; exact hgw))) ⟨fun q hq => ⟨Nat.le_trans hsc hq.1, Nat.lt_of_lt_of_le hq.2 hd'.size⟩, fun h => h⟩ : IntsR ⟨wo.heap.size, w'.heap.size, true⟩ w' (.slice aK nK kK) key))
        have HD4 := Lib.hid hd4
        clear hkey hd4
        go_wp2_with fail
        refine Calls.mono hcall ?_
        rintro e w5 ⟨_, rfl, ⟨x2, rfl, h20, h21⟩, hd5⟩
        clear hcall
        have HD45 := Lib.hid hd5
        have HDo5 := Lib.hid (HDc.out.trans (HD4.out.trans hd5))
        have HDc5 := Lib.hid (HD4.out.trans hd5)
        clear hd5
        by_cases e0 : x2 = 0
        · subst e0
          have hcall := IssueKeysSpec_c w5 mk _ _ t (HT.out _ HDo5.out) _ _ cuts (HC.out _ HDo5.out) _ _ row (HRow.out _ HDc5.out) 9 (by unfold I64; omega)
          unfold sysV at hcall
          generalize issueKeys mk t cuts row 9 = res at *
          obtain ⟨L, cd⟩ := res
          obtain ⟨c0, c1, c2, c3, c4, c5⟩ := (HBx.out.dr HDo5.out hbg).1
          go_wp2_with fail
          refine Calls.mono hcall ?_
          rintro e w6 hr
          obtain ⟨_, rfl, ⟨uL, rfl, hL⟩, e6⟩ := ret_ext hr
          clear hr hcall c0 c1 c2 c3 c4 c5
          obtain ⟨aL, nL, kL, rfl, hnL, hnLm, -⟩ := SliceR.shape hL
          have HL := Lib.hid hL
          have HD46 := Lib.hid (HD45.out.below e6)
          have HDo6 := Lib.hid (HDo5.out.below e6)
          have HDc6 := Lib.hid (HDc5.out.below e6)
          have HnL := Lib.hid hnL
          have hs56 := e6.size
          have ho5 := HDo5.out.size
          clear hL hnL e6
          by_cases hc0 : cd = 0
          · subst hc0
            by_cases hn0 : 0 < nL
            · have hn0' : (0 : Int) < (nL : Int) := by omega
              have hcall := l01Next_c w6 g HDo6.out.src nL (by unfold I64; omega)
              go_wp2_with fail
              refine Calls.mono hcall ?_
              rintro e w7 ⟨_, rfl, ⟨y, rfl, hy0, hy1⟩, hd7⟩
              clear hcall
              obtain ⟨i, rfl⟩ : ∃ i : Nat, y = i := ⟨y.toNat, by omega⟩
              have hi : i < nL := by omega
              have hR7 := stable_rows.dr HL.out hd7 (.inl (by show g < w5.heap.size; omega))
              obtain ⟨a', n', k', he', hn', -, -, -, -, hel⟩ := SliceR.shape hR7
              injection he' with e1 e2 e3
              subst e1; subst e2; subst e3
              obtain ⟨bb, oo, rfl, hz1, hz2, -, u7, y7, hc7, hy7, -, hE7⟩ := hel i (by omega)
              obtain ⟨a7, n7, k7, rfl, -⟩ := SliceR.shape hE7
              have hi' : (i : Int) < (nL : Int) := by omega
              have hs7 := hd7.size
              have HE7 : Hid (IntsR ⟨wo.heap.size, w7.heap.size, true⟩ w7 (.slice a7 n7 k7) (L.getD i [])) := by
                have e0 : L.getD i [] = L[i]'(by omega) := by simp [show i < L.length by omega]
                rw [e0]
                exact stable_ints.sub hE7 ⟨fun q hq => by
                have hh := hy7.1 q hq
                have h1 := hh.1
                have h2 := hh.2
                simp only [Zone.new] at h1 h2
                exact ⟨by show wo.heap.size ≤ q; omega, by show q < w7.heap.size; omega⟩, fun _ => hy7.2 rfl⟩
              have HD7 := Lib.hid hd7
              clear hel hE7 hy7 hz1 hz2 hR7 hd7 hn' hy0 hy1
              obtain ⟨c0, c1, c2, c3, c4, c5⟩ := (HBx.out.dr (HDo6.out.trans HD7.out) hbg).1
              obtain ⟨r0, r1, r2, r3, r4, r5, f0, f1, f2, f3, f4, f5⟩ := HR.out.dr (HDo6.out.trans HD7.out) hwg
              have HFx := Lib.hid (HFin.out _ _ _ (HDo6.out.trans HD7.out) (HRow.out _ (HDc6.out.trans HD7.out)) HE7.out)
              go_wp2_with fail
              refine bodyPost_ret (v := .tuple #[.agg #[.int .i64 mk.c, .int .i64 mk.d, .int .i64 mk.s, .int .i64 mk.m, .int .i64 mk.l, .slice a n k], .slice a2 n2 k2, .slice aR nR kR, .slice a7 n7 k7]) (by simp [results, Tryz.results103, go_sem, r0, r1, r2, r3, r4, r5]) rfl HFx.out
            · have hn00 : nL = 0 := by omega
              subst hn00
              obtain ⟨c0, c1, c2, c3, c4, c5⟩ := (HBx.out.dr HDo6.out hbg).1
              obtain ⟨r0, r1, r2, r3, r4, r5, f0, f1, f2, f3, f4, f5⟩ := HR.out.dr HDo6.out hwg
              have HFx := Lib.hid (HFin.out _ _ _ HDo6.out (HRow.out _ HDc6.out) (HKey.out _ HD46.out))
              go_wp2_with fail
              refine bodyPost_ret (v := .tuple #[.agg #[.int .i64 mk.c, .int .i64 mk.d, .int .i64 mk.s, .int .i64 mk.m, .int .i64 mk.l, .slice a n k], .slice a2 n2 k2, .slice aR nR kR, .slice aK nK kK]) (by simp [results, Tryz.results103, go_sem, r0, r1, r2, r3, r4, r5]) rfl HFx.out
          · have hc0' : (cd == 0) = false := by rw [beq_eq_false_iff_ne]; exact hc0
            obtain ⟨c0, c1, c2, c3, c4, c5⟩ := (HBx.out.dr HDo6.out hbg).1
            obtain ⟨r0, r1, r2, r3, r4, r5, f0, f1, f2, f3, f4, f5⟩ := HR.out.dr HDo6.out hwg
            have HFx := Lib.hid (HFin.out _ _ _ HDo6.out (HRow.out _ HDc6.out) (HKey.out _ HD46.out))
            go_wp2_with fail
            refine bodyPost_ret (v := .tuple #[.agg #[.int .i64 mk.c, .int .i64 mk.d, .int .i64 mk.s, .int .i64 mk.m, .int .i64 mk.l, .slice a n k], .slice a2 n2 k2, .slice aR nR kR, .slice aK nK kK]) (by simp [results, Tryz.results103, go_sem, r0, r1, r2, r3, r4, r5]) rfl HFx.out
        · obtain ⟨c0, c1, c2, c3, c4, c5⟩ := (HBx.out.dr HDo5.out hbg).1
          obtain ⟨r0, r1, r2, r3, r4, r5, f0, f1, f2, f3, f4, f5⟩ := HR.out.dr HDo5.out hwg
          have HFx := Lib.hid (HFin.out _ _ _ HDo5.out (HRow.out _ HDc5.out) (HKey.out _ HD45.out))
          go_wp2_with fail
          refine bodyPost_ret (v := .tuple #[.agg #[.int .i64 mk.c, .int .i64 mk.d, .int .i64 mk.s, .int .i64 mk.m, .int .i64 mk.l, .slice a n k], .slice a2 n2 k2, .slice aR nR kR, .slice aK nK kK]) (by simp [results, Tryz.results103, go_sem, r0, r1, r2, r3, r4, r5]) rfl HFx.out
end Go.Proofs.YtegmognpofcfiaaGreat
