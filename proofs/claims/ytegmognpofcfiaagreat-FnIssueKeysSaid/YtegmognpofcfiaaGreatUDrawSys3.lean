/- Proved: the draw of a system and cuts: l15Draw. -/
import Derived.Test.YtegmognpofcfiaaGreatChecked
import Derived.Deep.RegionLaw
import Derived.Deep.RegionHeld3
import Derived.Test.YtegmognpofcfiaaGreatUDrawSys2
namespace Go.Proofs.YtegmognpofcfiaaGreat
open Go.ChangeShapes Go.WideShapes Go.ChangeAt Go.RowKit
set_option linter.unusedVariables false

/-- a system and cuts that a draw hands back -/
def SysCutsD (w : World) (r : Value) (w' : World) : Prop := ∃ (mk : MK) (v : Value) (t : List (List Int)) (u : Value) (cuts : List (List Int)), r = .tuple #[sysV mk v, u] ∧ MkR mk ∧ RowsR ⟨w.heap.size, w'.heap.size, false⟩ w' v t ∧ t.length ≤ 14 ∧ (∀ x ∈ t, x.length ≤ 14) ∧ RowsR ⟨w.heap.size, w'.heap.size, false⟩ w' u cuts ∧ cuts.length ≤ 20
theorem SysAt.putOther {b : Nat} {w : World} {mk : MK} {v : Value} {p : Addr} {u : Value} (h : SysAt w b mk v) (hb : b ≠ p.block) : SysAt (w.setCell p u) b mk v := h.of (Below.heap_setCell _ _ _ _ hb)
theorem ResAt.putOther {b : Nat} {w : World} {p : Addr} {u : Value} (h : ResAt w b) (hb : b ≠ p.block) : ResAt (w.setCell p u) b := h.of (Below.heap_setCell _ _ _ _ hb)
theorem rows_put6 {L B : Nat} {b : Bool} {w' : World} {v : Value} {t : List (List Int)} (h : RowsR ⟨L, w'.heap.size, b⟩ w' v t) (hB : B < L) (u0 u1 u2 u3 u4 u5 : Value) :
    RowsR ⟨B, ((((((w'.setCell ⟨B, 0, none⟩ u0).setCell ⟨B, 1, none⟩ u1).setCell ⟨B, 2, none⟩ u2).setCell ⟨B, 3, none⟩ u3).setCell ⟨B, 4, none⟩ u4).setCell ⟨B, 5, none⟩ u5).heap.size, false⟩ ((((((w'.setCell ⟨B, 0, none⟩ u0).setCell ⟨B, 1, none⟩ u1).setCell ⟨B, 2, none⟩ u2).setCell ⟨B, 3, none⟩ u3).setCell ⟨B, 4, none⟩ u4).setCell ⟨B, 5, none⟩ u5) v t := by
  rw [put6_size]
  exact stable_rows.sub (stable_rows.keep h (fun k hk _ => put6_other (by have := hk.1; simp only at this; omega) _ _ _ _ _ _)) ⟨fun k hk => ⟨by have := hk.1; simp only at this ⊢; omega, hk.2⟩, fun h => by cases h⟩

set_option maxRecDepth 20000 in
set_option maxHeartbeats 1500000 in
theorem l15Draw_c (w : World) (g : Nat) (h : Src g w) : Calls Tryz.prog 179 #[.pointer (some ⟨g, 0, none⟩)] w (DrawR g w (SysCutsD w)) := by
  have hlt := h.lt
  have hd0 := (Dr.refl h).alloc (.cells #[.int .i64 0, .int .i64 0, .int .i64 0, .int .i64 0, .int .i64 0, .slice none 0 0] 28)
  have R0 := res_new w 28
  have hsz0 : (w.alloc (.cells #[.int .i64 0, .int .i64 0, .int .i64 0, .int .i64 0, .int .i64 0, .slice none 0 0] 28)).heap.size = w.heap.size + 1 := by simp
  have hcall := l15Valid_c _ g hd0.src
  clear h
  go_enter Tryz.func179, Tryz.ntmps179
  go_wp2_with fail
  generalize w.alloc (.cells #[.int .i64 0, .int .i64 0, .int .i64 0, .int .i64 0, .int .i64 0, .slice none 0 0] 28) = w0 at *
  refine Calls.mono hcall ?_
  rintro e w1 ⟨_, rfl, ⟨mk, v, t, rfl, hsys, hown, ht4, hr4⟩, hd1⟩
  clear hcall
  have ok := sysOk hsys
  have hmk : isMaker mk = true := by unfold isSystem at hsys; exact (Bool.and_eq_true_iff.1 hsys).1
  have hl1 := ok.len
  have hdo := ok.doors
  have hrl : ∀ k, k < t.length → (t.getD k []).length = doorsOf t := ok.row
  have hsa := hd1.size
  replace R0 := R0.dr hd1 (by omega)
  replace hd1 := hd0.trans hd1
  clear hd0
  obtain ⟨a, n, cap, rfl, hn, -⟩ := OwnR.shape hown
  have ht0 : 0 < t.length := by omega
  have ht1 : 0 < t[0].length := by
    have h1 := hrl 0 ht0
    have e : t.getD 0 [] = t[0] := by simp [ht0]
    rw [e] at h1; omega
  obtain ⟨gb, n', c', rb, ro, rn, rc, he, hc0, hrn, hrb1, hrb2, hrb3, ⟨x0, hcx⟩, hcf, hgb1, hgb2, hpoke⟩ := pokeRows hown ht0 ht1
  injection he with he1 he2 he3
  subst he1; subst he2; subst he3
  have HPk := Lib.hid hpoke
  have hsrc1 := hd1.src
  have HP1 : Hid (∀ w', Dr g w1 w' → w'.cell? ⟨gb, 0, none⟩ = some (.slice (some ⟨rb, ro, none⟩) rn rc) ∧ w'.cell? ⟨rb, ro, none⟩ = some (.int .i64 x0) ∧ w'.frozen? ⟨rb, ro, none⟩ = false) := fun w' hd =>
    have h1 : gb ≠ g := by omega
    have h2 : rb ≠ g := by omega
    ⟨hd.cell hc0 h1, hd.cell hcx h2, (hd.frozen hrb2 h2).trans hcf⟩
  have HT0 := Lib.hid ht0
  clear hpoke hc0 hcx hcf
  have HMr := Lib.hid (mkR_of hmk)
  have HO1 := Lib.hid hown
  have HT4 := Lib.hid hr4
  have HRl := Lib.hid hrl
  have Hn := Lib.hid hn
  have HDo := Lib.hid hdo
  have hn14 : 1 ≤ n ∧ n ≤ 4 := by omega
  have hgt : g < w0.heap.size := by omega
  have HCc := Lib.hid (fun (w' : World) (h : Src g w') => l15DrawCuts_c w' g h mk hmk HMr.out (some ⟨gb, 0, none⟩) n cap (by omega))
  clear hown hr4 hrl hmk hn hdo hl1 hsys ok ht4 ht1
  unfold sysV at *
  go_wp2_with fail
  generalize hwb : World.alloc w1 _ = wb
  obtain ⟨eb, Sb⟩ := sys_box hwb
  have hdb : Dr g w wb := by rw [← hwb]; exact hd1.alloc _
  have hd1b : Dr g w1 wb := by rw [← hwb]; exact (Dr.refl hsrc1).alloc _
  have hsb : wb.heap.size = w1.heap.size + 1 := by rw [← hwb]; simp
  clear hwb
  replace R0 := R0.ext eb
  replace HO1 := Lib.hid (OwnR.below stable_ints HO1.out eb)
  obtain ⟨b, hb⟩ : ∃ b, w1.heap.size = b := ⟨_, rfl⟩
  rw [hb] at Sb hsb
  refine Calls.mono (HCc.out wb hdb.src) ?_
  rintro e w2 ⟨_, rfl, ⟨cuts, hcu, hcl⟩, hd2⟩
  obtain ⟨a2, n2, k2, rfl, -⟩ := SliceR.shape hcu
  have hbg : b ≠ g := by omega
  have hwg : w.heap.size ≠ g := by omega
  have hwb : w.heap.size < wb.heap.size := by omega
  have hgb : g < wb.heap.size := by omega
  have R2 := R0.dr hd2 hwg
  have S2 := Sb.dr hd2 hbg
  have hO2 := OwnR.dr stable_ints HO1.out hd2 hgt hgt
  have hd3 := hdb.trans hd2
  have hd12 := hd1b.trans hd2
  have Hcl := Lib.hid hcl
  have hcall := l01Next_c w2 g hd3.src 30 (by unfold I64; omega)
  rw [hb]
  clear HCc R0 Sb HO1 hdb hd2 hd1 hcl hd1b
  go_wp2_with fail
  refine Calls.mono hcall ?_
  rintro e w3 ⟨_, rfl, ⟨x, rfl, hx0, hx1⟩, hd4⟩
  clear hcall
  have HR3 := Lib.hid (R2.dr hd4 hwg)
  have HS3 := Lib.hid (S2.dr hd4 hbg)
  have HO3 := Lib.hid (OwnR.dr stable_ints hO2 hd4 hgt hgt)
  have HCu : Hid (RowsR ⟨wb.heap.size, w3.heap.size, false⟩ w3 (.slice a2 n2 k2) cuts) := stable_rows.sub (stable_rows.dr hcu hd4 (.inl hgb)) ⟨fun k hk => ⟨hk.1, Nat.lt_of_lt_of_le hk.2 hd4.size⟩, fun h => h⟩
  have HD3 := Lib.hid (hd3.trans hd4)
  have HD13 := Lib.hid (hd12.trans hd4)
  have hb3 : b < w3.heap.size := HS3.out.lt
  have hlo0 : w.heap.size < w0.heap.size := by omega
  have hRef : Dr g w3 w3 := Dr.refl hd4.src
  have HT1 : Hid (RowsR ⟨w0.heap.size, w3.heap.size, true⟩ w3 (.slice (some ⟨gb, 0, none⟩) n cap) t) := OwnR.reads HO3.out (Nat.le_refl _)
  have HTb : Hid (t.length ≤ 14 ∧ ∀ x ∈ t, x.length ≤ 14) := ⟨by rw [← Hn.out]; omega, fun x hx => by have := HT4.out x hx; omega⟩
  clear R2 S2 hO2 hcu hd3 hd4 hd12
  by_cases e0 : x = 0
  · subst e0
    have hn1 : (0 : Int) < (n : Int) := by omega
    have hrn' : (0 : Int) < (rn : Int) := by omega
    have hgne : gb ≠ g := by omega
    have hrne : rb ≠ g := by omega
    have hrng : gb ≠ rb := Ne.symm hrb3
    have hrbb : b ≠ rb := by omega
    have HCg : Hid (∀ w', Dr g w3 w' → w'.cell? ⟨b, 5, none⟩ = some (.slice (some ⟨gb, 0, none⟩) n cap) ∧ w'.cell? ⟨gb, 0, none⟩ = some (.slice (some ⟨rb, ro, none⟩) rn rc)) := fun w' hd => ⟨(HS3.out.dr hd hbg).c5, (HP1.out w' (HD13.out.trans hd)).1⟩
    have HCs : Hid (∀ w' u, Dr g w3 w' → (w'.setCell ⟨rb, ro, none⟩ u).cell? ⟨b, 5, none⟩ = some (.slice (some ⟨gb, 0, none⟩) n cap) ∧ (w'.setCell ⟨rb, ro, none⟩ u).cell? ⟨gb, 0, none⟩ = some (.slice (some ⟨rb, ro, none⟩) rn rc)) := fun w' u hd =>
      ⟨(World.cell?_of_block (a := ⟨b, 5, none⟩) (Below.heap_setCell _ _ _ _ hrbb)).trans (HCg.out w' hd).1, (World.cell?_of_block (a := ⟨gb, 0, none⟩) (Below.heap_setCell _ _ _ _ hrng)).trans (HCg.out w' hd).2⟩
    have HPick : Hid (∀ w', Drew (w3.alloc (.cells #[.int .i64 (-1), .int .i64 0, .int .i64 2] 2)) w' → Calls Tryz.prog 92 #[.pointer (some ⟨g, 0, none⟩), .slice (some ⟨w3.heap.size, 0, none⟩) 3 3] w' (DrawR g w' fun r _ => ∃ y, r = .int .i64 y ∧ y ∈ [(-1 : Int), 0, 2])) := fun w' hdq => by
      have hlit : IntsR ⟨w3.heap.size, w3.heap.size + 1, true⟩ (w3.alloc (.cells #[.int .i64 (-1), .int .i64 0, .int .i64 2] 2)) (.slice (some ⟨w3.heap.size, 0, none⟩) 3 3) [-1, 0, 2] := by
        have := OwnP.ints (OwnP.lit (f := Value.int .i64) (e := 2) (B := w3.heap.size) (w := w3) (Nat.le_refl _) [-1, 0, 2] #[.int .i64 (-1), .int .i64 0, .int .i64 2] rfl (by simp [maxLen])) (by simp [I64]) (Nat.le_refl _)
        rw [World.size_alloc] at this
        exact this
      have hsr : Src g w' := by obtain ⟨m, rfl⟩ := hdq; exact (hRef.src.alloc _).drewN m
      refine (l01Pick_c w' g hsr _ _ _ (stable_ints.ext hlit (Ext.ofDrew hdq)) (.inl (by show g < w3.heap.size; omega)) (by simp)).mono ?_
      rintro e w'' ⟨v, rfl, ⟨y, hy, rfl⟩, hd⟩
      exact ⟨_, rfl, ⟨y, rfl, hy⟩, hd⟩
    have HFin : Hid (∀ w' y, Dr g w3 w' → I64 y → RowsR ⟨w0.heap.size, (w'.setCell ⟨rb, ro, none⟩ (.int .i64 y)).heap.size, false⟩ (w'.setCell ⟨rb, ro, none⟩ (.int .i64 y)) (.slice (some ⟨gb, 0, none⟩) n cap) (t.set 0 ((t.getD 0 []).set 0 y)) ∧ RowsR ⟨wb.heap.size, (w'.setCell ⟨rb, ro, none⟩ (.int .i64 y)).heap.size, false⟩ (w'.setCell ⟨rb, ro, none⟩ (.int .i64 y)) (.slice a2 n2 k2) cuts ∧ Dr g w (w'.setCell ⟨rb, ro, none⟩ (.int .i64 y)) ∧ SysAt (w'.setCell ⟨rb, ro, none⟩ (.int .i64 y)) b mk (.slice (some ⟨gb, 0, none⟩) n cap) ∧ ResAt (w'.setCell ⟨rb, ro, none⟩ (.int .i64 y)) w.heap.size) := fun w' y hd hy => by
      have hd1' := HD13.out.trans hd
      have e0 : t.getD 0 [] = t[0]'HT0.out := by simp [HT0.out]
      have hO := HPk.out w' (fun k hk1 hk2 => hd1'.grown.block k hk2 (by intro q; injection q with q; omega)) hd1'.size (Nat.le_refl _) y hy
      rw [← e0] at hO
      have hsz : (w'.setCell ⟨rb, ro, none⟩ (.int .i64 y)).heap.size = w'.heap.size := by simp [World.setCell]
      refine ⟨OwnR.reads hO (Nat.le_refl _), ?_, (HD3.out.trans hd).put (p := ⟨rb, ro, none⟩) (by show w.heap.size ≤ rb; omega) _, (HS3.out.dr hd hbg).putOther hrbb, (HR3.out.dr hd hwg).putOther (by show w.heap.size ≠ rb; omega)⟩
      rw [hsz]
      have hc := stable_rows.dr HCu.out hd (.inl hgb)
      exact stable_rows.sub (stable_rows.keep hc (fun k hk _ => Below.heap_setCell _ _ _ _ (by have := hk.1; show k ≠ rb; simp only at this; omega))) ⟨fun k hk => ⟨hk.1, Nat.lt_of_lt_of_le hk.2 hd.size⟩, fun h => h⟩
    have hn1' : 0 < n := by omega
    clear hn14
    go_wp2_with fail
    first | (go_region_held3 (fun w' => w'.cell? ⟨b, 5, none⟩ = some (.slice (some ⟨gb, 0, none⟩) n cap) ∧ w'.cell? ⟨gb, 0, none⟩ = some (.slice (some ⟨rb, ro, none⟩) rn rc)) (first | with_reducible exact HCs.out _ _ hd77 | exact HCg.out _ (by (repeat (first | assumption | (refine Dr.drew ?_) | (refine Dr.alloc ?_ _) | (refine Dr.trans ?_ (by assumption)))); done) | fail) (first | (go_at_call 92; (with_reducible refine (HPick.out _ ?_).mono ?_); (first | exact ⟨0, rfl⟩ | exact ⟨1, rfl⟩ | exact ⟨2, rfl⟩); rintro e w7 ⟨_, rfl, ⟨y7, rfl, hy7⟩, hd7⟩; have hd77 : Dr g w3 w7 := (by (repeat (first | assumption | (refine Dr.drew ?_) | (refine Dr.alloc ?_ _) | (refine Dr.trans ?_ (by assumption)))); done); obtain ⟨-, z1, z2⟩ := HP1.out w7 (HD13.out.trans hd77)) | fail)) | fail
    have hy : I64 y7 := by simp only [List.mem_cons, List.not_mem_nil, or_false] at hy7; unfold I64; omega
    have HF := Lib.hid (HFin.out w7 y7 hd77 hy)
    clear hd7 hd77 hRef HFin HPick HCs HCg z1 z2
    generalize w7.setCell ⟨rb, ro, none⟩ (.int .i64 y7) = w8 at *
    obtain ⟨c0, c1, c2, c3, c4, c5⟩ := HF.out.2.2.2.1
    obtain ⟨r0, r1, r2, r3, r4, r5, f0, f1, f2, f3, f4, f5⟩ := HF.out.2.2.2.2
    have hwb' : w.heap.size ≠ b := by omega
    have hwb'' : b ≠ w.heap.size := by omega
    go_wp2_with fail
    refine bodyPost_ret (v := .tuple #[.agg #[.int .i64 mk.c, .int .i64 mk.d, .int .i64 mk.s, .int .i64 mk.m, .int .i64 mk.l, .slice (some ⟨gb, 0, none⟩) n cap], .slice a2 n2 k2]) (by simp [results, Tryz.results179, go_sem, r0, r1, r2, r3, r4, r5]) rfl ⟨_, rfl, ⟨mk, _, _, _, cuts, rfl, HMr.out, rows_put6 HF.out.1 hlo0 _ _ _ _ _ _, by rw [List.length_set]; exact HTb.out.1, fun x hx => ?_, rows_put6 HF.out.2.1 hwb _ _ _ _ _ _, Hcl.out⟩, put6 HF.out.2.2.1 (Nat.le_refl _) _ _ _ _ _ _⟩
    rcases List.mem_or_eq_of_mem_set hx with hx | hx
    · exact HTb.out.2 x hx
    · have e0 : t.getD 0 [] = t[0]'HT0.out := by simp [HT0.out]
      rw [hx, List.length_set, e0]; exact HTb.out.2 _ (List.getElem_mem _)
  · by_cases e1 : x = 1
    · subst e1
      have HCe : Hid (∀ w', Dr g w3 w' → w'.cell? ⟨b, 5, none⟩ = some (.slice (some ⟨gb, 0, none⟩) n cap)) := fun w' hd => (HS3.out.dr hd hbg).c5
      have HCp : Hid (∀ w' u0 u1 u2 u3 u4 u5, Dr g w3 w' → ((((((w'.setCell ⟨w.heap.size, 0, none⟩ u0).setCell ⟨w.heap.size, 1, none⟩ u1).setCell ⟨w.heap.size, 2, none⟩ u2).setCell ⟨w.heap.size, 3, none⟩ u3).setCell ⟨w.heap.size, 4, none⟩ u4).setCell ⟨w.heap.size, 5, none⟩ u5).cell? ⟨b, 5, none⟩ = some (.slice (some ⟨gb, 0, none⟩) n cap)) := fun w' u0 u1 u2 u3 u4 u5 hd => (World.cell?_of_block (put6_other (by show b ≠ w.heap.size; omega) _ _ _ _ _ _)).trans (HCe.out w' hd)
      have HM := Lib.hid (fun (w' : World) (h : Src g w') => l02Draw_c w' g h)
      go_wp2_with fail
      first | (go_region_held3 (fun w' => w'.cell? ⟨b, 5, none⟩ = some (.slice (some ⟨gb, 0, none⟩) n cap)) (first | with_reducible exact HCp.out _ _ _ _ _ _ _ hd77 | exact HCe.out _ (by (repeat (first | assumption | (refine Dr.drew ?_) | (refine Dr.alloc ?_ _) | (refine Dr.trans ?_ (by assumption)))); done) | fail) (first | (go_at_call 138; (with_reducible refine (HM.out _ (Dr.src (g := g) (w := w3) (by (repeat (first | assumption | (refine Dr.drew ?_) | (refine Dr.alloc ?_ _) | (refine Dr.trans ?_ (by assumption)))); done))).mono ?_); rintro e w7 ⟨_, rfl, ⟨mk7, rfl, hm7⟩, hd7⟩; have hd77 : Dr g w3 w7 := (by (repeat (first | assumption | (refine Dr.drew ?_) | (refine Dr.alloc ?_ _) | (refine Dr.trans ?_ (by assumption)))); done); obtain ⟨q0, q1, q2, q3, q4⟩ := mk7; unfold MK.v; obtain ⟨r0, r1, r2, r3, r4, r5, f0, f1, f2, f3, f4, f5⟩ := HR3.out.dr hd77 hwg) | fail)) | fail
      have HM7 := Lib.hid hm7
      have HD7 := Lib.hid hd77
      have HT7 := Lib.hid (stable_rows.sub (stable_rows.dr HT1.out hd77 (.inl hgt)) ⟨fun k hk => ⟨hk.1, Nat.lt_of_lt_of_le hk.2 hd77.size⟩, fun h => h⟩ : RowsR ⟨w0.heap.size, w7.heap.size, true⟩ w7 (.slice (some ⟨gb, 0, none⟩) n cap) t)
      have HC7 := Lib.hid (stable_rows.sub (stable_rows.dr HCu.out hd77 (.inl hgb)) ⟨fun k hk => ⟨hk.1, Nat.lt_of_lt_of_le hk.2 hd77.size⟩, fun h => h⟩ : RowsR ⟨wb.heap.size, w7.heap.size, false⟩ w7 (.slice a2 n2 k2) cuts)
      clear hm7 hd7 hd77
      go_wp2_with fail
      refine bodyPost_ret (v := .tuple #[.agg #[.int .i64 q0, .int .i64 q1, .int .i64 q2, .int .i64 q3, .int .i64 q4, .slice (some ⟨gb, 0, none⟩) n cap], .slice a2 n2 k2]) (by simp [results, Tryz.results179, go_sem, r0, r1, r2, r3, r4, r5]) rfl ⟨_, rfl, ⟨⟨q0, q1, q2, q3, q4⟩, _, t, _, cuts, rfl, HM7.out, rows_put6 HT7.out hlo0 _ _ _ _ _ _, HTb.out.1, HTb.out.2, rows_put6 HC7.out hwb _ _ _ _ _ _, Hcl.out⟩, put6 (HD3.out.trans HD7.out) (Nat.le_refl _) _ _ _ _ _ _⟩
    · by_cases e2 : x = 2
      · subst e2
        have HCe : Hid (∀ w', Dr g w3 w' → w'.cell? ⟨b, 0, none⟩ = some (.int .i64 mk.c) ∧ w'.cell? ⟨b, 1, none⟩ = some (.int .i64 mk.d) ∧ w'.cell? ⟨b, 2, none⟩ = some (.int .i64 mk.s) ∧ w'.cell? ⟨b, 3, none⟩ = some (.int .i64 mk.m) ∧ w'.cell? ⟨b, 4, none⟩ = some (.int .i64 mk.l)) := fun w' hd => by
          have q := HS3.out.dr hd hbg
          exact ⟨q.c0, q.c1, q.c2, q.c3, q.c4⟩
        have HCp : Hid (∀ w' u0 u1 u2 u3 u4 u5, Dr g w3 w' → ((((((w'.setCell ⟨w.heap.size, 0, none⟩ u0).setCell ⟨w.heap.size, 1, none⟩ u1).setCell ⟨w.heap.size, 2, none⟩ u2).setCell ⟨w.heap.size, 3, none⟩ u3).setCell ⟨w.heap.size, 4, none⟩ u4).setCell ⟨w.heap.size, 5, none⟩ u5).cell? ⟨b, 0, none⟩ = some (.int .i64 mk.c) ∧ ((((((w'.setCell ⟨w.heap.size, 0, none⟩ u0).setCell ⟨w.heap.size, 1, none⟩ u1).setCell ⟨w.heap.size, 2, none⟩ u2).setCell ⟨w.heap.size, 3, none⟩ u3).setCell ⟨w.heap.size, 4, none⟩ u4).setCell ⟨w.heap.size, 5, none⟩ u5).cell? ⟨b, 1, none⟩ = some (.int .i64 mk.d) ∧ ((((((w'.setCell ⟨w.heap.size, 0, none⟩ u0).setCell ⟨w.heap.size, 1, none⟩ u1).setCell ⟨w.heap.size, 2, none⟩ u2).setCell ⟨w.heap.size, 3, none⟩ u3).setCell ⟨w.heap.size, 4, none⟩ u4).setCell ⟨w.heap.size, 5, none⟩ u5).cell? ⟨b, 2, none⟩ = some (.int .i64 mk.s) ∧ ((((((w'.setCell ⟨w.heap.size, 0, none⟩ u0).setCell ⟨w.heap.size, 1, none⟩ u1).setCell ⟨w.heap.size, 2, none⟩ u2).setCell ⟨w.heap.size, 3, none⟩ u3).setCell ⟨w.heap.size, 4, none⟩ u4).setCell ⟨w.heap.size, 5, none⟩ u5).cell? ⟨b, 3, none⟩ = some (.int .i64 mk.m) ∧ ((((((w'.setCell ⟨w.heap.size, 0, none⟩ u0).setCell ⟨w.heap.size, 1, none⟩ u1).setCell ⟨w.heap.size, 2, none⟩ u2).setCell ⟨w.heap.size, 3, none⟩ u3).setCell ⟨w.heap.size, 4, none⟩ u4).setCell ⟨w.heap.size, 5, none⟩ u5).cell? ⟨b, 4, none⟩ = some (.int .i64 mk.l)) := fun w' u0 u1 u2 u3 u4 u5 hd => by
          have hb' : b ≠ w.heap.size := by omega
          obtain ⟨p0, p1, p2, p3, p4⟩ := HCe.out w' hd
          have e := put6_other (w := w') hb' u0 u1 u2 u3 u4 u5
          exact ⟨(World.cell?_of_block (a := ⟨b, 0, none⟩) e).trans p0, (World.cell?_of_block (a := ⟨b, 1, none⟩) e).trans p1, (World.cell?_of_block (a := ⟨b, 2, none⟩) e).trans p2, (World.cell?_of_block (a := ⟨b, 3, none⟩) e).trans p3, (World.cell?_of_block (a := ⟨b, 4, none⟩) e).trans p4⟩
        have HM := Lib.hid (fun (w' : World) (h : Src g w') => l11Draw_c w' g h)
        go_wp2_with fail
        first | (go_region_held3 (fun w' => w'.cell? ⟨b, 0, none⟩ = some (.int .i64 mk.c) ∧ w'.cell? ⟨b, 1, none⟩ = some (.int .i64 mk.d) ∧ w'.cell? ⟨b, 2, none⟩ = some (.int .i64 mk.s) ∧ w'.cell? ⟨b, 3, none⟩ = some (.int .i64 mk.m) ∧ w'.cell? ⟨b, 4, none⟩ = some (.int .i64 mk.l)) (first | with_reducible exact HCp.out _ _ _ _ _ _ _ hd77 | exact HCe.out _ (by (repeat (first | assumption | (refine Dr.drew ?_) | (refine Dr.alloc ?_ _) | (refine Dr.trans ?_ (by assumption)))); done) | fail) (first | (go_at_call 232; (with_reducible refine (HM.out _ (Dr.src (g := g) (w := w3) (by (repeat (first | assumption | (refine Dr.drew ?_) | (refine Dr.alloc ?_ _) | (refine Dr.trans ?_ (by assumption)))); done))).mono ?_); rintro e w7 ⟨_, rfl, ⟨t7, ht7, hl7, hr7⟩, hd7⟩; have hd77 : Dr g w3 w7 := (by (repeat (first | assumption | (refine Dr.drew ?_) | (refine Dr.alloc ?_ _) | (refine Dr.trans ?_ (by assumption)))); done); obtain ⟨a7, n7, c7, rfl, -⟩ := SliceR.shape ht7; have h77 : RowsR ⟨w3.heap.size, w7.heap.size, false⟩ w7 (.slice a7 n7 c7) t7 := ht7; obtain ⟨r0, r1, r2, r3, r4, r5, f0, f1, f2, f3, f4, f5⟩ := HR3.out.dr hd77 hwg) | fail)) | fail
        have HL7 : Hid (t7.length ≤ 14 ∧ ∀ x ∈ t7, x.length ≤ 14) := ⟨hl7, hr7⟩
        have HD7 := Lib.hid hd77
        have HT7 := Lib.hid h77
        have HC7 := Lib.hid (stable_rows.sub (stable_rows.dr HCu.out hd77 (.inl hgb)) ⟨fun k hk => ⟨hk.1, Nat.lt_of_lt_of_le hk.2 hd77.size⟩, fun h => h⟩ : RowsR ⟨wb.heap.size, w7.heap.size, false⟩ w7 (.slice a2 n2 k2) cuts)
        have hw3 : w.heap.size < w3.heap.size := by omega
        clear hd7 hd77 hl7 hr7 ht7 h77
        go_wp2_with fail
        refine bodyPost_ret (v := .tuple #[.agg #[.int .i64 mk.c, .int .i64 mk.d, .int .i64 mk.s, .int .i64 mk.m, .int .i64 mk.l, .slice a7 n7 c7], .slice a2 n2 k2]) (by simp [results, Tryz.results179, go_sem, r0, r1, r2, r3, r4, r5]) rfl ⟨_, rfl, ⟨mk, _, t7, _, cuts, rfl, HMr.out, rows_put6 HT7.out hw3 _ _ _ _ _ _, HL7.out.1, HL7.out.2, rows_put6 HC7.out hwb _ _ _ _ _ _, Hcl.out⟩, put6 (HD3.out.trans HD7.out) (Nat.le_refl _) _ _ _ _ _ _⟩
      · obtain ⟨c0, c1, c2, c3, c4, c5⟩ := HS3.out
        obtain ⟨r0, r1, r2, r3, r4, r5, f0, f1, f2, f3, f4, f5⟩ := HR3.out
        have hwb' : w.heap.size ≠ b := by omega
        have hwb'' : b ≠ w.heap.size := by omega
        clear hRef
        go_wp2_with fail
        refine bodyPost_ret (v := .tuple #[.agg #[.int .i64 mk.c, .int .i64 mk.d, .int .i64 mk.s, .int .i64 mk.m, .int .i64 mk.l, .slice (some ⟨gb, 0, none⟩) n cap], .slice a2 n2 k2]) (by simp [results, Tryz.results179, go_sem, r0, r1, r2, r3, r4, r5]) rfl ⟨_, rfl, ⟨mk, _, t, _, cuts, rfl, HMr.out, rows_put6 HT1.out hlo0 _ _ _ _ _ _, HTb.out.1, HTb.out.2, rows_put6 HCu.out hwb _ _ _ _ _ _, Hcl.out⟩, put6 HD3.out (Nat.le_refl _) _ _ _ _ _ _⟩
end Go.Proofs.YtegmognpofcfiaaGreat
