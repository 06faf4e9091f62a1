/- Proved: the draw of a system and a design: l21Draw; the draw of a system, a design and prices: DrawCostOf; the draws of searches for designs: l17Draw, l17DrawLimit, DrawFindDesign, DrawBestDesign, DrawSparedWafers. -/
import Derived.Test.YthgmojggpjnckaaGreatChecked
import Derived.Deep.RegionLaw
import Derived.Deep.RegionHeld3
import Derived.Deep.Cut
import Derived.Test.YthgmojggpjnckaaGreatUPkDc
import Derived.Test.YthgmojggpjnckaaGreatUPkF1
import Derived.Test.YthgmojggpjnckaaGreatUPkF2
namespace Go.Proofs.YthgmojggpjnckaaGreat
open Go.ChangeShapes Go.WideShapes Go.ChangeAt Go.RowKit
set_option linter.unusedVariables false

theorem findD_len {mk : MK} {t : List (List Int)} {limit : Int} : (findD mk t limit).1.1.length ≤ 10 := by
  by_cases h : searchC mk t limit = 0
  · rw [findD_ok h]
    have hz := searchC_zero h
    have ok := searchS_ok (most := 1) hz.1 hz.2.1
    unfold firstS
    cases hf : (searchS mk t limit 1).found with
    | nil => simp only; split <;> simp
    | cons x r =>
      have := (ok.cuts x (by rw [hf]; simp)).len
      have := (sysOk hz.1).len
      simp only; omega
  · rw [findD_bad h]; simp
theorem candL_key {mk : MK} (ok : MkOk mk) {p : List Int → Bool} {most : Int} : ∀ k ∈ candL mk p most, KeyOk mk k := fun k hk => by
  unfold candL at hk
  exact allK_key ok (List.mem_filter.1 (List.mem_of_mem_take hk)).1

set_option maxRecDepth 20000 in
set_option maxHeartbeats 2000000 in
theorem l21Draw_c (w : World) (g : Nat) (h : Src g w) : Calls Tryz.prog 67 #[.pointer (some ⟨g, 0, none⟩)] w (DrawR g w (SysCutsD w)) := by
  have hlt := h.lt
  have hd0 := (Dr.refl h).alloc (.cells #[.int .i64 0, .int .i64 0, .int .i64 0, .int .i64 0, .int .i64 0, .slice none 0 0] 32)
  have R0 := res_new w 32
  have hsz0 : (w.alloc (.cells #[.int .i64 0, .int .i64 0, .int .i64 0, .int .i64 0, .int .i64 0, .slice none 0 0] 32)).heap.size = w.heap.size + 1 := by simp
  have hcall := l01Next_c _ g hd0.src 16 (by unfold I64; omega)
  clear h
  go_enter Tryz.func67, Tryz.ntmps67
  go_wp2_with fail
  generalize w.alloc (.cells #[.int .i64 0, .int .i64 0, .int .i64 0, .int .i64 0, .int .i64 0, .slice none 0 0] 32) = w0 at *
  refine Calls.mono hcall ?_
  rintro e w1 ⟨_, rfl, ⟨x, rfl, hx0, hx1⟩, hd1⟩
  clear hcall
  have hsa := hd1.size
  have hwg : w.heap.size ≠ g := by omega
  replace R0 := R0.dr hd1 hwg
  replace hd1 := hd0.trans hd1
  have hgt : g < w1.heap.size := by omega
  have hlo : w.heap.size < w1.heap.size := by omega
  clear hd0 hsa hsz0
  by_cases e0 : x = 0
  · subst e0
    have hcall := l15Draw_c w1 g hd1.src
    go_wp2_with fail
    refine Calls.mono hcall ?_
    rintro e w2 ⟨_, rfl, ⟨mk, v, t, u, cuts, rfl, hm, ht, hl, hr, hc, hcl⟩, hd2⟩
    clear hcall
    obtain ⟨a, n, k, rfl, -⟩ := SliceR.shape ht
    obtain ⟨a2, n2, k2, rfl, -⟩ := SliceR.shape hc
    obtain ⟨r0, r1, r2, r3, r4, r5, f0, f1, f2, f3, f4, f5⟩ := R0.dr hd2 hwg
    have HT := Lib.hid ht
    have HC := Lib.hid hc
    have HB : Hid ((t.length ≤ 14 ∧ ∀ x ∈ t, x.length ≤ 14) ∧ cuts.length ≤ 20 ∧ MkR mk) := ⟨⟨hl, hr⟩, hcl, hm⟩
    have HD := Lib.hid (hd1.trans hd2)
    clear hm ht hl hr hc hcl hd1 hd2 R0
    unfold sysV
    go_wp2_with fail
    refine bodyPost_ret (v := .tuple #[.agg #[.int .i64 mk.c, .int .i64 mk.d, .int .i64 mk.s, .int .i64 mk.m, .int .i64 mk.l, .slice a n k], .slice a2 n2 k2]) (by simp [results, Tryz.results67, go_sem, r0, r1, r2, r3, r4, r5]) rfl ⟨_, rfl, ⟨mk, _, t, _, cuts, rfl, HB.out.2.2, rows_put6 HT.out hlo _ _ _ _ _ _, HB.out.1.1, HB.out.1.2, rows_put6 HC.out hlo _ _ _ _ _ _, HB.out.2.1⟩, put6 HD.out (Nat.le_refl _) _ _ _ _ _ _⟩
  · have hcall := l15Valid_c w1 g hd1.src
    go_wp2_with fail
    refine Calls.mono hcall ?_
    rintro e w2 ⟨_, rfl, ⟨mk, v, t, rfl, hsys, hown, ht4, hr4⟩, hd2⟩
    clear hcall
    have ok := sysOk hsys
    have okm := sys_mkOk hsys
    have hl1 := ok.len
    obtain ⟨a, n, cap, rfl, hn, -⟩ := OwnR.shape hown
    have Hn := Lib.hid hn
    have hn10 : n ≤ 10 := by omega
    clear hn
    have hMr : MkR mk := by
      unfold isSystem at hsys
      exact mkR_of (Bool.and_eq_true_iff.1 hsys).1
    have R2 := R0.dr hd2 hwg
    have hs2 := hd2.size
    have hd3 := hd1.trans hd2
    have hT2 : RowsR ⟨w1.heap.size, w2.heap.size, false⟩ w2 (.slice a n cap) t := stable_rows.sub (OwnR.rows hown) ⟨fun k hk => hk, fun h => by cases h⟩
    clear hown R0 hd1 hd2
    unfold sysV
    go_wp2_with fail
    generalize hwb : World.alloc w2 _ = wb
    obtain ⟨eb, Sb⟩ := sys_box hwb
    have hdb : Dr g w wb := by rw [← hwb]; exact hd3.alloc _
    have hsb : wb.heap.size = w2.heap.size + 1 := by rw [← hwb]; simp
    clear hwb
    have HRb := Lib.hid (R2.ext eb)
    have HSb := Lib.hid Sb
    have HTb := Lib.hid (stable_rows.ext hT2 eb)
    obtain ⟨b, hb⟩ : ∃ b, w2.heap.size = b := ⟨_, rfl⟩
    rw [hb] at HSb hsb HTb
    have hbg : b ≠ g := by omega
    have hwbb : w.heap.size < b := by omega
    have hgb : g < wb.heap.size := by omega
    have hbl : b < wb.heap.size := by omega
    have hwb : w.heap.size < wb.heap.size := by omega
    have HDb := Lib.hid hdb
    have hsrc := hdb.src
    have HCd := Lib.hid (fun (w' : World) (hd : Dr g wb w') (u : Value) (y : Zone) (cuts : List (List Int)) (hc : RowsR y w' u cuts) (okp : PartOk mk t cuts) (hlt : cuts.length < t.length) => l16Candidates_c w' mk okm _ _ t (stable_rows.dr HTb.out hd (.inl hgt)) u y cuts hc okp hlt 8 (by unfold I64; omega))
    have HFd := Lib.hid (fun (w' : World) (hd : Dr g wb w') => FindDesignSpec_c w' mk _ _ t (stable_rows.dr HTb.out hd (.inl hgt)) 300 (by unfold I64; omega))
    have HKey := Lib.hid (fun (p : List Int → Bool) (k : List Int) (hk : k ∈ candL mk p 8) => candL_key okm k hk)
    have HFl := Lib.hid (findD_len (mk := mk) (t := t) (limit := 300))
    have HP0 : Hid (PartOk mk t []) := ⟨ok, by simp, by simp⟩
    have HBd : Hid ((t.length ≤ 14 ∧ ∀ x ∈ t, x.length ≤ 14) ∧ MkR mk) := ⟨⟨by omega, fun x hx => by have := hr4 x hx; omega⟩, hMr⟩
    rw [hb]
    have hsz' : b + 1 = wb.heap.size := hsb.symm
    simp only [hsz']
    clear R2 Sb hT2 eb hsys ok okm hl1 hMr ht4 hr4 hdb hd3
    have o1 : OwnR false wb.heap.size IntsR 41 wb.heap.size (wb.alloc (.cells #[] 41)) (.slice (some ⟨wb.heap.size, 0, none⟩) 0 0) [] := OwnR.empty (Nat.le_refl _)
    have d1 := (Dr.refl hsrc).alloc (.cells #[] 41)
    generalize wb.alloc (.cells #[] 41) = w5 at *
    clear hsrc hs2 hsb hsz'
    go_loopw [5, 6] (fun s5 _ wr => ∃ (part : List (List Int)), OwnR false wb.heap.size IntsR 41 wb.heap.size wr s5 part ∧ PartOk mk t part ∧ Dr g wb wr) (fun s5 _ _ => n - drawLen s5)
    case atStart => exact ⟨[], o1, HP0.out, d1⟩
    case round =>
      clear o1 d1
      obtain ⟨part, hown, hpo, hd⟩ := hrel
      obtain ⟨a5, n5, k5, rfl, hn5, -⟩ := OwnR.shape hown
      have HO := Lib.hid hown
      have HPo := Lib.hid hpo
      have HD := Lib.hid hd
      have Hn5 := Lib.hid hn5
      have HRw : Hid (RowsR ⟨wb.heap.size, wr.heap.size, false⟩ wr (.slice a5 n5 k5) part) := OwnR.reads hown (Nat.le_refl _)
      obtain ⟨c0, c1, c2, c3, c4, c5⟩ := HSb.out.dr hd hbg
      by_cases hlt2 : n5 < n
      · have hcall := HCd.out wr hd _ _ part HRw.out hpo (by rw [← hn5, ← Hn.out]; exact hlt2)
        obtain ⟨L, hL⟩ : ∃ L, L = candL mk (fun key => decide (faults mk t (part ++ [key]) = 0)) 8 := ⟨_, rfl⟩
        rw [← hL] at hcall
        unfold sysV at hcall
        have HKL : Hid (∀ k ∈ L, KeyOk mk k) := fun k hk => HKey.out _ k (by rw [← hL]; exact hk)
        have hn5' : n5 ≤ 10 := by omega
        have HLt := Lib.hid hlt2
        have hwr : wb.heap.size ≤ wr.heap.size := hd.size
        have hov : ∀ k, (Value.slice a5 n5 k5).ownBlock = some k → k < wr.heap.size := fun k hk => (OwnA.block HO.out k hk).2
        have HOv := Lib.hid hov
        have HL5 : Hid (part.length ≤ 1000000) := by show _ ≤ _; omega
        clear hown hpo hd hn5 hL hov
        go_wp2_with fail
        refine Calls.mono hcall ?_
        rintro e w6 hr
        obtain ⟨r6, rfl, o6, e6⟩ := ret_ext hr
        clear hr hcall c0 c1 c2 c3 c4 c5
        obtain ⟨a6, n6, k6, rfl, hn6, hn6m, -⟩ := SliceR.shape o6
        have HO6 := Lib.hid (OwnR.below stable_ints HO.out e6)
        have HD6 := Lib.hid (HD.out.below e6)
        have Ho6 := Lib.hid o6
        have Hn6 := Lib.hid hn6
        have he6 := e6.size
        clear o6 hn6 e6
        obtain ⟨c0, c1, c2, c3, c4, c5⟩ := HSb.out.dr HD6.out hbg
        by_cases hz : n6 = 0
        · subst hz
          have hcall := HFd.out w6 HD6.out
          unfold sysV at hcall
          go_wp2_with fail
          refine Calls.mono hcall ?_
          rintro e w7 hr
          obtain ⟨r7, rfl, hf7, e7⟩ := ret_ext hr
          clear hr hcall c0 c1 c2 c3 c4 c5
          have hFL := HFl.out
          obtain ⟨fd, hfd⟩ : ∃ fd, fd = findD mk t 300 := ⟨_, rfl⟩
          rw [← hfd] at hf7 hFL
          clear hfd
          obtain ⟨⟨fc, ft⟩, fb⟩ := fd
          obtain ⟨u7, rfl, hR7⟩ := hf7
          simp only at hR7 hFL
          obtain ⟨a7, n7, k7, rfl, -⟩ := SliceR.shape hR7
          have HFL := Lib.hid hFL
          have HR7 := Lib.hid (stable_rows.sub hR7 ⟨fun k hk => hk, fun h => by cases h⟩ : RowsR ⟨w6.heap.size, w7.heap.size, false⟩ w7 (.slice a7 n7 k7) fc)
          have HD7 := Lib.hid (HD6.out.below e7)
          have HP7 := Lib.hid (OwnR.reads (OwnR.below stable_ints HO6.out e7) (Nat.le_refl _))
          have hw6 : w.heap.size < w6.heap.size := by omega
          clear hR7 hFL e7
          obtain ⟨c0, c1, c2, c3, c4, c5⟩ := HSb.out.dr HD7.out hbg
          obtain ⟨r0, r1, r2, r3, r4, r5, f0, f1, f2, f3, f4, f5⟩ := HRb.out.dr HD7.out hwg
          have hwb' : w.heap.size ≠ b := by omega
          have hwb'' : b ≠ w.heap.size := by omega
          have HTf := Lib.hid (stable_rows.sub (stable_rows.dr HTb.out HD7.out (.inl hgt)) ⟨fun k hk => ⟨hk.1, by have h1 := hk.2; have h2 := (HD7.out).size; simp only at h1 ⊢; omega⟩, fun h => h⟩ : RowsR ⟨w1.heap.size, w7.heap.size, false⟩ w7 (.slice a n cap) t)
          have HDf := Lib.hid (HDb.out.trans HD7.out)
          by_cases hb0 : fb = 0
          · subst hb0
            go_wp2_with fail
            refine bodyPost_ret (v := .tuple #[.agg #[.int .i64 mk.c, .int .i64 mk.d, .int .i64 mk.s, .int .i64 mk.m, .int .i64 mk.l, .slice a n cap], .slice a7 n7 k7]) (by simp [results, Tryz.results67, go_sem, r0, r1, r2, r3, r4, r5]) rfl ⟨_, rfl, ⟨mk, _, t, _, fc, rfl, HBd.out.2, rows_put6 HTf.out hlo _ _ _ _ _ _, HBd.out.1.1, HBd.out.1.2, rows_put6 HR7.out hw6 _ _ _ _ _ _, by have := HFL.out; omega⟩, put6 HDf.out (Nat.le_refl _) _ _ _ _ _ _⟩
          · go_wp2_with fail
            refine bodyPost_ret (v := .tuple #[.agg #[.int .i64 mk.c, .int .i64 mk.d, .int .i64 mk.s, .int .i64 mk.m, .int .i64 mk.l, .slice a n cap], .slice a5 n5 k5]) (by simp [results, Tryz.results67, go_sem, r0, r1, r2, r3, r4, r5]) rfl ⟨_, rfl, ⟨mk, _, t, _, part, rfl, HBd.out.2, rows_put6 HTf.out hlo _ _ _ _ _ _, HBd.out.1.1, HBd.out.1.2, rows_put6 HP7.out hwb _ _ _ _ _ _, by have := Hn5.out; omega⟩, put6 HDf.out (Nat.le_refl _) _ _ _ _ _ _⟩
        · have hz0 : ((n6 : Int) == 0) = false := by rw [beq_eq_false_iff_ne]; omega
          have hcall := l01Next_c w6 g HD6.out.src n6 (by unfold I64; omega)
          clear c0 c1 c2 c3 c4 c5
          go_wp2_with fail
          refine Calls.mono hcall ?_
          rintro e w7 ⟨_, rfl, ⟨y, rfl, hy0, hy1⟩, hd7⟩
          clear hcall
          obtain ⟨i, rfl⟩ : ∃ i : Nat, y = i := ⟨y.toNat, by omega⟩
          have hi : i < n6 := by omega
          have hR7 := stable_rows.dr Ho6.out hd7 (.inl (by show g < wr.heap.size; omega))
          obtain ⟨a', n', k', he', hn', -, -, -, -, hel⟩ := SliceR.shape hR7
          injection he' with e1 e2 e3
          subst e1; subst e2; subst e3
          obtain ⟨bb, oo, rfl, hz1, hz2, -, u7, y7, hc7, hy7, -, hE7⟩ := hel i (by omega)
          obtain ⟨a7, n7, k7, rfl, -⟩ := SliceR.shape hE7
          have hi' : (i : Int) < (n6 : Int) := by omega
          have HO7 := Lib.hid (OwnR.dr stable_ints HO6.out hd7 hgb hgb)
          have HD7 := Lib.hid (HD6.out.trans hd7)
          have HX := Lib.hid hE7
          have HZ : Hid (∀ k, y7.Has k → wb.heap.size ≤ k ∧ k < w7.heap.size ∧ (Value.slice a5 n5 k5).ownBlock ≠ some k) := fun k hk => by
            have hh := hy7.1 k hk
            have h1 := hh.1
            have h2 := hh.2
            simp only [Zone.new] at h1 h2
            have h3 := hd7.size
            exact ⟨by omega, by omega, fun q => by have := HOv.out k q; omega⟩
          have hs7 : wb.heap.size ≤ w7.heap.size := HD7.out.size
          have HKy := Lib.hid (HKL.out _ (List.getElem_mem (show i < L.length by rw [← hn']; exact hi)))
          generalize L[i]'(by rw [← hn']; exact hi) = key at *
          clear hel hE7 hy7 hz1 hz2 hR7 hd7 hn' hy0 hy1
          go_wp2_with (at_builtin; (refine wpList_drawAlias (v := .slice a5 n5 k5) (g := g) (w0 := wb) (B := wb.heap.size) stable_ints rfl _ _ 30 rfl Tryz.underlying30 Tryz.infoInts rfl HO7.out (a7, n7, k7) key HX.out HZ.out rfl rfl HL5.out HD7.out (Nat.le_refl _) hs7 ?_); intro v8 w8 hown8 hd8 hs8)
          obtain ⟨a8, n8, k8, rfl, hn8, -⟩ := OwnA.shape hown8
          exact ⟨⟨part ++ [key], hown8, keyOk_snoc HPo.out (by rw [← Hn5.out, ← Hn.out]; exact hlt2) HKy.out, hd8⟩, by
            have h1 := Hn5.out
            have h2 := HLt.out
            rw [List.length_append, List.length_singleton] at hn8
            show n - n8 < n - n5
            omega⟩
      · have hn5' : n5 ≤ 10 := by
          have h1 := hpo.le
          have h2 := Hn5.out
          have h3 := Hn.out
          omega
        clear hown hpo hn5
        obtain ⟨c0, c1, c2, c3, c4, c5⟩ := HSb.out.dr hd hbg
        obtain ⟨r0, r1, r2, r3, r4, r5, f0, f1, f2, f3, f4, f5⟩ := HRb.out.dr hd hwg
        have hwb' : w.heap.size ≠ b := by omega
        have hwb'' : b ≠ w.heap.size := by omega
        have HTf := Lib.hid (stable_rows.sub (stable_rows.dr HTb.out hd (.inl hgt)) ⟨fun k hk => ⟨hk.1, by have h1 := hk.2; have h2 := (hd).size; simp only at h1 ⊢; omega⟩, fun h => h⟩ : RowsR ⟨w1.heap.size, wr.heap.size, false⟩ wr (.slice a n cap) t)
        have HDf := Lib.hid (HDb.out.trans hd)
        clear hd
        go_wp2_with fail
        refine bodyPost_ret (v := .tuple #[.agg #[.int .i64 mk.c, .int .i64 mk.d, .int .i64 mk.s, .int .i64 mk.m, .int .i64 mk.l, .slice a n cap], .slice a5 n5 k5]) (by simp [results, Tryz.results67, go_sem, r0, r1, r2, r3, r4, r5]) rfl ⟨_, rfl, ⟨mk, _, t, _, part, rfl, HBd.out.2, rows_put6 HTf.out hlo _ _ _ _ _ _, HBd.out.1.1, HBd.out.1.2, rows_put6 HRw.out hwb _ _ _ _ _ _, by have := Hn5.out; omega⟩, put6 HDf.out (Nat.le_refl _) _ _ _ _ _ _⟩

open Go.ChangeShapes Go.WideShapes Go.ChangeAt Go.RowKit
set_option linter.unusedVariables false

theorem ext_put6 {w w' : World} {B : Nat} (h : Ext w w') (hB : w.heap.size ≤ B) (u0 u1 u2 u3 u4 u5 : Value) : Ext w ((((((w'.setCell ⟨B, 0, none⟩ u0).setCell ⟨B, 1, none⟩ u1).setCell ⟨B, 2, none⟩ u2).setCell ⟨B, 3, none⟩ u3).setCell ⟨B, 4, none⟩ u4).setCell ⟨B, 5, none⟩ u5) :=
  Below.setCell (Below.setCell (Below.setCell (Below.setCell (Below.setCell (Below.setCell h (p := ⟨B, 0, none⟩) hB _) (p := ⟨B, 1, none⟩) hB _) (p := ⟨B, 2, none⟩) hB _) (p := ⟨B, 3, none⟩) hB _) (p := ⟨B, 4, none⟩) hB _) (p := ⟨B, 5, none⟩) hB _
theorem ints_put6 {L B : Nat} {b : Bool} {w' : World} {v : Value} {t : List Int} (h : IntsR ⟨L, w'.heap.size, b⟩ w' v t) (hB : B < L) (u0 u1 u2 u3 u4 u5 : Value) :
    IntsR ⟨B, ((((((w'.setCell ⟨B, 0, none⟩ u0).setCell ⟨B, 1, none⟩ u1).setCell ⟨B, 2, none⟩ u2).setCell ⟨B, 3, none⟩ u3).setCell ⟨B, 4, none⟩ u4).setCell ⟨B, 5, none⟩ u5).heap.size, false⟩ ((((((w'.setCell ⟨B, 0, none⟩ u0).setCell ⟨B, 1, none⟩ u1).setCell ⟨B, 2, none⟩ u2).setCell ⟨B, 3, none⟩ u3).setCell ⟨B, 4, none⟩ u4).setCell ⟨B, 5, none⟩ u5) v t := by
  rw [put6_size]
  exact stable_ints.sub (stable_ints.keep h (fun k hk _ => put6_other (by have := hk.1; simp only at this; omega) _ _ _ _ _ _)) ⟨fun k hk => ⟨by have := hk.1; simp only at this ⊢; omega, hk.2⟩, fun h => by cases h⟩
/-- a system, cuts and a list that a draw hands back -/
def SysCutsIntsD (w : World) (r : Value) (w' : World) : Prop := ∃ (mk : MK) (v : Value) (t : List (List Int)) (u : Value) (cuts : List (List Int)) (p : Value) (ps : List Int), r = .tuple #[sysV mk v, u, p] ∧ RowsR ⟨w.heap.size, w'.heap.size, false⟩ w' v t ∧ RowsR ⟨w.heap.size, w'.heap.size, false⟩ w' u cuts ∧ IntsR ⟨w.heap.size, w'.heap.size, false⟩ w' p ps

open Go.ChangeShapes Go.WideShapes Go.ChangeAt Go.RowKit
set_option linter.unusedVariables false

/-- a system that a draw hands back, of any kind -/
def SysA (w : World) (r : Value) (w' : World) : Prop := ∃ (mk : MK) (v : Value) (t : List (List Int)), r = sysV mk v ∧ RowsR ⟨w.heap.size, w'.heap.size, false⟩ w' v t
/-- a system's box that may be written -/
def SysF (b : Nat) (mk : MK) (v : Value) (w : World) : Prop := SysAt w b mk v ∧ ∀ i, w.frozen? ⟨b, i, none⟩ = false
theorem SysF.new (w : World) (mk : MK) (v : Value) (t : TypeId) : SysF w.heap.size mk v (w.alloc (.cells #[.int .i64 mk.c, .int .i64 mk.d, .int .i64 mk.s, .int .i64 mk.m, .int .i64 mk.l, v] t)) :=
  ⟨(sys_box rfl).2, fun i => frozen_of_row _ _ _ _ t (heap_alloc_new w _)⟩
theorem SysF.dr {b g : Nat} {mk : MK} {v : Value} {w w' : World} (h : SysF b mk v w) (hd : Dr g w w') (hb : b ≠ g) : SysF b mk v w' :=
  ⟨h.1.dr hd hb, fun i => (hd.frozen (p := ⟨b, i, none⟩) h.1.lt hb).trans (h.2 i)⟩
theorem SysF.put5 {b : Nat} {c d s m l : Int} {v : Value} {w : World} (h : SysF b ⟨c, d, s, m, l⟩ v w) (c' d' s' m' l' : Int) :
    SysF b ⟨c', d', s', m', l'⟩ v (((((w.setCell ⟨b, 0, none⟩ (.int .i64 c')).setCell ⟨b, 1, none⟩ (.int .i64 d')).setCell ⟨b, 2, none⟩ (.int .i64 s')).setCell ⟨b, 3, none⟩ (.int .i64 m')).setCell ⟨b, 4, none⟩ (.int .i64 l')) := by
  obtain ⟨⟨c0, c1, c2, c3, c4, c5⟩, f⟩ := h
  refine ⟨⟨?_, ?_, ?_, ?_, ?_, ?_⟩, fun i => ?_⟩
  all_goals (try simp only [World.frozen?_setCell])
  all_goals first | exact f i | (go_simp; done)
theorem SysF.put3 {b : Nat} {c d s m l : Int} {v : Value} {w : World} (h : SysF b ⟨c, d, s, m, l⟩ v w) (m' : Int) : SysF b ⟨c, d, s, m', l⟩ v (w.setCell ⟨b, 3, none⟩ (.int .i64 m')) := by
  obtain ⟨⟨c0, c1, c2, c3, c4, c5⟩, f⟩ := h
  refine ⟨⟨?_, ?_, ?_, ?_, ?_, ?_⟩, fun i => ?_⟩
  all_goals (try simp only [World.frozen?_setCell])
  all_goals first | exact f i | (go_simp; done)
theorem rows_alloc {L : Nat} {w : World} {o : Obj} {v : Value} {t : List (List Int)} (h : RowsR ⟨L, w.heap.size, false⟩ w v t) : RowsR ⟨L, (w.alloc o).heap.size, false⟩ (w.alloc o) v t := stable_rows.sub (stable_rows.ext h (Ext.alloc _ _)) ⟨fun k hk => ⟨hk.1, Nat.lt_of_lt_of_le hk.2 (Ext.alloc _ _).size⟩, fun h => h⟩
theorem rows_put5 {L H b : Nat} {w : World} {v : Value} {t : List (List Int)} (h : RowsR ⟨L, H, false⟩ w v t) (hH : H ≤ b) (u0 u1 u2 u3 u4 : Value) : RowsR ⟨L, H, false⟩ (((((w.setCell ⟨b, 0, none⟩ u0).setCell ⟨b, 1, none⟩ u1).setCell ⟨b, 2, none⟩ u2).setCell ⟨b, 3, none⟩ u3).setCell ⟨b, 4, none⟩ u4) v t :=
  stable_rows.keep h (fun k hk _ => by
    have hk2 : k ≠ b := by have := hk.2; simp only at this; omega
    rw [Below.heap_setCell _ _ _ _ hk2, Below.heap_setCell _ _ _ _ hk2, Below.heap_setCell _ _ _ _ hk2, Below.heap_setCell _ _ _ _ hk2, Below.heap_setCell _ _ _ _ hk2])
theorem rows_put1 {L H b i : Nat} {w : World} {v : Value} {t : List (List Int)} (h : RowsR ⟨L, H, false⟩ w v t) (hH : H ≤ b) (u : Value) : RowsR ⟨L, H, false⟩ (w.setCell ⟨b, i, none⟩ u) v t :=
  stable_rows.keep h (fun k hk _ => by
    have hk2 : k ≠ b := by have := hk.2; simp only at this; omega
    rw [Below.heap_setCell _ _ _ _ hk2])
theorem ResAt.put5 {a b : Nat} {w : World} (h : ResAt w a) (hab : a ≠ b) (u0 u1 u2 u3 u4 : Value) : ResAt (((((w.setCell ⟨b, 0, none⟩ u0).setCell ⟨b, 1, none⟩ u1).setCell ⟨b, 2, none⟩ u2).setCell ⟨b, 3, none⟩ u3).setCell ⟨b, 4, none⟩ u4) a :=
  ((((h.putOther hab).putOther hab).putOther hab).putOther hab).putOther hab
theorem dr_put5 {g b : Nat} {w w' : World} (h : Dr g w w') (hb : w.heap.size ≤ b) (u0 u1 u2 u3 u4 : Value) : Dr g w (((((w'.setCell ⟨b, 0, none⟩ u0).setCell ⟨b, 1, none⟩ u1).setCell ⟨b, 2, none⟩ u2).setCell ⟨b, 3, none⟩ u3).setCell ⟨b, 4, none⟩ u4) :=
  Dr.put (Dr.put (Dr.put (Dr.put (Dr.put h (p := ⟨b, 0, none⟩) hb _) (p := ⟨b, 1, none⟩) hb _) (p := ⟨b, 2, none⟩) hb _) (p := ⟨b, 3, none⟩) hb _) (p := ⟨b, 4, none⟩) hb _

set_option maxRecDepth 20000 in
set_option maxHeartbeats 2000000 in
theorem l17Draw_c (w : World) (g : Nat) (h : Src g w) : Calls Tryz.prog 133 #[.pointer (some ⟨g, 0, none⟩)] w (DrawR g w (SysA w)) := by
  have hlt := h.lt
  have hd0 := (Dr.refl h).alloc (.cells #[.int .i64 0, .int .i64 0, .int .i64 0, .int .i64 0, .int .i64 0, .slice none 0 0] 32)
  have R0 := res_new w 32
  have hsz0 : (w.alloc (.cells #[.int .i64 0, .int .i64 0, .int .i64 0, .int .i64 0, .int .i64 0, .slice none 0 0] 32)).heap.size = w.heap.size + 1 := by simp
  have hcall := l01Next_c _ g hd0.src 20 (by unfold I64; omega)
  clear h
  go_enter Tryz.func133, Tryz.ntmps133
  go_wp2_with fail
  generalize w.alloc (.cells #[.int .i64 0, .int .i64 0, .int .i64 0, .int .i64 0, .int .i64 0, .slice none 0 0] 32) = w0 at *
  refine Calls.mono hcall ?_
  rintro e w1 ⟨_, rfl, ⟨x, rfl, hx0, hx1⟩, hd1⟩
  clear hcall
  have hsa := hd1.size
  have hwg : w.heap.size ≠ g := by omega
  replace R0 := R0.dr hd1 hwg
  replace hd1 := hd0.trans hd1
  have hgt : g < w1.heap.size := by omega
  have hlo : w.heap.size < w1.heap.size := by omega
  clear hd0 hsa hsz0
  by_cases e0 : x = 0
  · subst e0
    have hcall := l15Draw_c w1 g hd1.src
    go_wp2_with fail
    refine Calls.mono hcall ?_
    rintro e w2 ⟨_, rfl, ⟨mk, v, t, u, cuts, rfl, -, ht, -, -, -, -⟩, hd2⟩
    clear hcall
    obtain ⟨a, n, k, rfl, -⟩ := SliceR.shape ht
    have R2 := R0.dr hd2 hwg
    have hs2 := hd2.size
    unfold sysV
    go_upto_region 3 with fail
    generalize hwb : World.alloc w2 _ = wb
    obtain ⟨eb, Sb⟩ := sys_box hwb
    have HD := Lib.hid (hd1.trans (show Dr g w1 wb by rw [← hwb]; exact hd2.alloc _))
    have HT' : Hid (RowsR ⟨w1.heap.size, wb.heap.size, false⟩ wb (.slice a n k) t) := by rw [← hwb]; exact rows_alloc ht
    clear hwb
    obtain ⟨b, hb⟩ : ∃ b, w2.heap.size = b := ⟨_, rfl⟩
    rw [hb] at Sb ⊢
    have hwb' : w.heap.size ≠ b := by omega
    have hwb'' : b ≠ w.heap.size := by omega
    obtain ⟨c0, c1, c2, c3, c4, c5⟩ := Sb
    obtain ⟨r0, r1, r2, r3, r4, r5, f0, f1, f2, f3, f4, f5⟩ := R2.ext eb
    clear ht hd1 hd2 R0 R2 eb hb hs2
    go_wp2_with fail
    refine bodyPost_ret (v := .agg #[.int .i64 mk.c, .int .i64 mk.d, .int .i64 mk.s, .int .i64 mk.m, .int .i64 mk.l, .slice a n k]) (by simp [results, Tryz.results133, go_sem, r0, r1, r2, r3, r4, r5]) rfl ⟨_, rfl, ⟨mk, _, t, rfl, rows_put6 HT'.out hlo _ _ _ _ _ _⟩, put6 HD.out (Nat.le_refl _) _ _ _ _ _ _⟩
  · have hcall := l15Valid_c w1 g hd1.src
    go_wp2_with fail
    refine Calls.mono hcall ?_
    rintro e w2 ⟨_, rfl, ⟨mk, v, t, rfl, -, hown, -, -⟩, hd2⟩
    clear hcall
    obtain ⟨a, n, k, rfl, -⟩ := OwnR.shape hown
    have hT2 : RowsR ⟨w1.heap.size, w2.heap.size, false⟩ w2 (.slice a n k) t := stable_rows.sub (OwnR.rows hown) ⟨fun k hk => hk, fun h => by cases h⟩
    have R2 := R0.dr hd2 hwg
    have hs2 := hd2.size
    have hd3 := hd1.trans hd2
    clear hown R0 hd1 hd2
    obtain ⟨c, d, s, m, l⟩ := mk
    unfold sysV
    go_wp2_with fail
    have hSf := SysF.new w2 ⟨c, d, s, m, l⟩ (.slice a n k) 32
    have hd4 := hd3.alloc (.cells #[.int .i64 c, .int .i64 d, .int .i64 s, .int .i64 m, .int .i64 l, .slice a n k] 32)
    have hR4 := R2.ext (Ext.alloc w2 (.cells #[.int .i64 c, .int .i64 d, .int .i64 s, .int .i64 m, .int .i64 l, .slice a n k] 32))
    have hT4 := stable_rows.ext hT2 (Ext.alloc w2 (.cells #[.int .i64 c, .int .i64 d, .int .i64 s, .int .i64 m, .int .i64 l, .slice a n k] 32))
    have hs4 : (w2.alloc (.cells #[.int .i64 c, .int .i64 d, .int .i64 s, .int .i64 m, .int .i64 l, .slice a n k] 32)).heap.size = w2.heap.size + 1 := by simp
    simp only at hSf
    generalize w2.alloc (.cells #[.int .i64 c, .int .i64 d, .int .i64 s, .int .i64 m, .int .i64 l, .slice a n k] 32) = w4 at *
    obtain ⟨b, hb⟩ : ∃ b, w2.heap.size = b := ⟨_, rfl⟩
    rw [hb] at hSf hT4 hs4 ⊢
    have hbg : b ≠ g := by omega
    have hwb : w.heap.size < b := by omega
    have hwb2 := Nat.ne_of_lt hwb
    have hwb3 := Nat.ne_of_gt hwb
    have hgw : g < w1.heap.size := hgt
    clear hT2 R2 hd3 hs2 hb
    refine (l01Next_c w4 g hd4.src 2 (by unfold I64; omega)).mono ?_
    rintro e w5 ⟨_, rfl, ⟨x1, rfl, h10, h11⟩, hd5⟩
    have hcall := l01Next_c w5 g hd5.src 2 (by unfold I64; omega)
    replace hSf := hSf.dr hd5 hbg
    replace hR4 := hR4.dr hd5 hwg
    replace hT4 := stable_rows.dr hT4 hd5 (.inl hgw)
    replace hd4 := hd4.trans hd5
    clear hd5
    go_wp2_with fail
    refine Calls.mono hcall ?_
    rintro e w6 ⟨_, rfl, ⟨x2, rfl, h20, h21⟩, hd6⟩
    clear hcall
    replace hSf := hSf.dr hd6 hbg
    replace hR4 := hR4.dr hd6 hwg
    replace hT4 := stable_rows.dr hT4 hd6 (.inl hgw)
    replace hd4 := hd4.trans hd6
    have hs6 := hd4.size
    clear hd6
    have HP := Lib.hid (hSf.put5 (2 + x1) (2 + x2) 1 2 1)
    have HRp := Lib.hid (hR4.put5 (b := b) hwb2 (.int .i64 (2 + x1)) (.int .i64 (2 + x2)) (.int .i64 1) (.int .i64 2) (.int .i64 1))
    have HTp := Lib.hid (rows_put5 (b := b) hT4 (Nat.le_refl _) (.int .i64 (2 + x1)) (.int .i64 (2 + x2)) (.int .i64 1) (.int .i64 2) (.int .i64 1))
    have HDp := Lib.hid (dr_put5 (b := b) hd4 (Nat.le_of_lt hwb) (.int .i64 (2 + x1)) (.int .i64 (2 + x2)) (.int .i64 1) (.int .i64 2) (.int .i64 1))
    obtain ⟨⟨c0, c1, c2, c3, c4, c5⟩, hf⟩ := hSf
    have f0 := hf 0
    have f1 := hf 1
    have f2 := hf 2
    have f3 := hf 3
    have f4 := hf 4
    clear hf hR4 hT4 hd4
    go_wp2_with fail
    clear c0 c1 c2 c3 c4 c5 f0 f1 f2 f3 f4
    generalize (((((w6.setCell ⟨b, 0, none⟩ (.int .i64 (2 + x1))).setCell ⟨b, 1, none⟩ (.int .i64 (2 + x2))).setCell ⟨b, 2, none⟩ (.int .i64 1)).setCell ⟨b, 3, none⟩ (.int .i64 2)).setCell ⟨b, 4, none⟩ (.int .i64 1)) = w7 at *
    refine (l01Next_c w7 g HDp.out.src 3 (by unfold I64; omega)).mono ?_
    rintro e w8 ⟨_, rfl, ⟨x3, rfl, h30, h31⟩, hd8⟩
    have hSf := HP.out.dr hd8 hbg
    have hR8 := HRp.out.dr hd8 hwg
    have hT8 := stable_rows.dr HTp.out hd8 (.inl hgw)
    have hd9 := HDp.out.trans hd8
    have hs8 : b + 1 ≤ w8.heap.size := by
      have := hSf.1.lt
      omega
    have hfin : ∀ {W : World}, W.heap.size = w8.heap.size → RowsR ⟨w1.heap.size, b, false⟩ W (.slice a n k) t → RowsR ⟨w1.heap.size, W.heap.size, false⟩ W (.slice a n k) t := fun hs h => stable_rows.sub h ⟨fun k hk => ⟨hk.1, by have := hk.2; simp only at this ⊢; omega⟩, fun h => h⟩
    have HFin := Lib.hid (fun (W : World) => @hfin W)
    clear HP HRp HTp HDp hd8 hfin
    generalize 2 + x1 = y1 at *
    generalize 2 + x2 = y2 at *
    by_cases e3 : x3 = 0
    · subst e3
      have HP := Lib.hid (hSf.put3 1)
      have HRp := Lib.hid (hR8.putOther (p := ⟨b, 3, none⟩) (u := .int .i64 1) hwb2)
      have HTp := Lib.hid (rows_put1 (b := b) (i := 3) hT8 (Nat.le_refl _) (.int .i64 1))
      have HDp := Lib.hid (hd9.put (p := ⟨b, 3, none⟩) (Nat.le_of_lt hwb) (.int .i64 1))
      have hs9 : (w8.setCell ⟨b, 3, none⟩ (.int .i64 1)).heap.size = w8.heap.size := by simp [World.setCell]
      obtain ⟨⟨c0, c1, c2, c3, c4, c5⟩, hf⟩ := hSf
      have f3 := hf 3
      clear hf hR8 hT8 hd9
      go_upto_region 8 with fail
      clear c0 c1 c2 c3 c4 c5 f3
      generalize w8.setCell ⟨b, 3, none⟩ (.int .i64 1) = w9 at *
      obtain ⟨⟨c0, c1, c2, c3, c4, c5⟩, -⟩ := HP.out
      obtain ⟨r0, r1, r2, r3, r4, r5, g0, g1, g2, g3, g4, g5⟩ := HRp.out
      go_wp2_with fail
      refine bodyPost_ret (v := .agg #[.int .i64 y1, .int .i64 y2, .int .i64 1, .int .i64 1, .int .i64 1, .slice a n k]) (by simp [results, Tryz.results133, go_sem, r0, r1, r2, r3, r4, r5]) rfl ⟨_, rfl, ⟨⟨y1, y2, 1, 1, 1⟩, _, t, rfl, rows_put6 (HFin.out _ hs9 HTp.out) hlo _ _ _ _ _ _⟩, put6 HDp.out (Nat.le_refl _) _ _ _ _ _ _⟩
    · have HTp := Lib.hid (HFin.out _ rfl hT8)
      have HDp := Lib.hid hd9
      obtain ⟨⟨c0, c1, c2, c3, c4, c5⟩, -⟩ := hSf
      obtain ⟨r0, r1, r2, r3, r4, r5, g0, g1, g2, g3, g4, g5⟩ := hR8
      clear hT8 hd9
      go_wp2_with fail
      refine bodyPost_ret (v := .agg #[.int .i64 y1, .int .i64 y2, .int .i64 1, .int .i64 2, .int .i64 1, .slice a n k]) (by simp [results, Tryz.results133, go_sem, r0, r1, r2, r3, r4, r5]) rfl ⟨_, rfl, ⟨⟨y1, y2, 1, 2, 1⟩, _, t, rfl, rows_put6 HTp.out hlo _ _ _ _ _ _⟩, put6 HDp.out (Nat.le_refl _) _ _ _ _ _ _⟩

/-- a system and a limit -/
def SysLimD (w : World) (r : Value) (w' : World) : Prop := ∃ (mk : MK) (v : Value) (t : List (List Int)) (limit : Int), r = .tuple #[sysV mk v, .int .i64 limit] ∧ I64 limit ∧ RowsR ⟨w.heap.size, w'.heap.size, false⟩ w' v t

/-- a system and cuts -/
def SysCutsE (w : World) (r : Value) (w' : World) : Prop := ∃ (mk : MK) (v : Value) (t : List (List Int)) (u : Value) (cuts : List (List Int)), r = .tuple #[sysV mk v, u] ∧ RowsR ⟨w.heap.size, w'.heap.size, false⟩ w' v t ∧ RowsR ⟨w.heap.size, w'.heap.size, false⟩ w' u cuts
end Go.Proofs.YthgmojggpjnckaaGreat
