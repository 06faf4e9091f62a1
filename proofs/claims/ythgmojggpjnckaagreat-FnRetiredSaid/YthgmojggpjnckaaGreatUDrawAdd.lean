/- Proved: the draw of the law on added doors. -/
import Derived.Test.YthgmojggpjnckaaGreatChecked
import Derived.Deep.RegionLaw
import Derived.Deep.RegionHeld3
import Derived.Deep.Cut
import Derived.Test.YthgmojggpjnckaaGreatUDrawRetK
import Derived.Test.YthgmojggpjnckaaGreatUDrawSome
import Derived.Test.YthgmojggpjnckaaGreatUDrawOnes
import Derived.Test.YthgmojggpjnckaaGreatURegionStep
namespace Go.Proofs.YthgmojggpjnckaaGreat
open Go.ChangeShapes Go.WideShapes Go.ChangeAt Go.RowKit
set_option linter.unusedVariables false

/-- a system, cuts and a column -/
def SysCutsColD (w : World) (r : Value) (w' : World) : Prop := ∃ (mk : MK) (v : Value) (t : List (List Int)) (u : Value) (cuts : List (List Int)) (p : Value) (col : List Int), r = .tuple #[sysV mk v, u, p] ∧ RowsR ⟨w.heap.size, w'.heap.size, false⟩ w' v t ∧ RowsR ⟨w.heap.size, w'.heap.size, false⟩ w' u cuts ∧ IntsR ⟨w.heap.size, w'.heap.size, false⟩ w' p col
/-- a system in its box, cuts, the result's cell -/
def StC (g rb lo b : Nat) (w : World) (s7 : Value) (wx : World) : Prop := ∃ (mk : MK) (v : Value) (t : List (List Int)) (cuts : List (List Int)), SysF b mk v wx ∧ RowsR ⟨lo, wx.heap.size, false⟩ wx v t ∧ t.length ≤ 14 ∧ RowsR ⟨lo, wx.heap.size, false⟩ wx s7 cuts ∧ Dr g w wx ∧ ResAt wx rb
theorem SysF.put6 {b : Nat} {mk : MK} {v : Value} {w : World} (h : SysF b mk v w) (mk' : MK) (u : Value) : SysF b mk' u ((((((w.setCell ⟨b, 0, none⟩ (.int .i64 mk'.c)).setCell ⟨b, 1, none⟩ (.int .i64 mk'.d)).setCell ⟨b, 2, none⟩ (.int .i64 mk'.s)).setCell ⟨b, 3, none⟩ (.int .i64 mk'.m)).setCell ⟨b, 4, none⟩ (.int .i64 mk'.l)).setCell ⟨b, 5, none⟩ u) := by
  obtain ⟨⟨c0, c1, c2, c3, c4, c5⟩, f⟩ := h
  refine ⟨⟨?_, ?_, ?_, ?_, ?_, ?_⟩, fun i => ?_⟩
  all_goals (try simp only [World.frozen?_setCell])
  all_goals first | exact f i | (go_simp; done)
theorem ResAt.put6 {a b : Nat} {w : World} (h : ResAt w a) (hab : a ≠ b) (u0 u1 u2 u3 u4 u5 : Value) : ResAt ((((((w.setCell ⟨b, 0, none⟩ u0).setCell ⟨b, 1, none⟩ u1).setCell ⟨b, 2, none⟩ u2).setCell ⟨b, 3, none⟩ u3).setCell ⟨b, 4, none⟩ u4).setCell ⟨b, 5, none⟩ u5) a :=
  (((((h.putOther hab).putOther hab).putOther hab).putOther hab).putOther hab).putOther hab
theorem rows_one_lo {w : World} {lo : Nat} {a : Option Addr} {n c : Nat} {xs : List Int} {e : TypeId} (h : IntsR ⟨lo, w.heap.size, true⟩ w (.slice a n c) xs) (hlo : lo ≤ w.heap.size) : RowsR ⟨lo, (w.alloc (.cells #[.slice a n c] e)).heap.size, false⟩ (w.alloc (.cells #[.slice a n c] e)) (.slice (some ⟨w.heap.size, 0, none⟩) 1 1) [xs] := by
  have := SliceR.one (e := e) stable_ints (u := (a, n, c)) h (Nat.le_refl _) (Nat.le_refl _) hlo
  rw [World.size_alloc]
  exact stable_rows.sub this ⟨fun k hk => hk, fun h => by cases h⟩
/-- the box's cells are written, rows that lie behind it stay -/
theorem rows_put6b {lo b : Nat} {w' : World} {v : Value} {t : List (List Int)} (h : RowsR ⟨b + 1, w'.heap.size, false⟩ w' v t) (hlo : lo ≤ b) (u0 u1 u2 u3 u4 u5 : Value) :
    RowsR ⟨lo, ((((((w'.setCell ⟨b, 0, none⟩ u0).setCell ⟨b, 1, none⟩ u1).setCell ⟨b, 2, none⟩ u2).setCell ⟨b, 3, none⟩ u3).setCell ⟨b, 4, none⟩ u4).setCell ⟨b, 5, none⟩ u5).heap.size, false⟩ ((((((w'.setCell ⟨b, 0, none⟩ u0).setCell ⟨b, 1, none⟩ u1).setCell ⟨b, 2, none⟩ u2).setCell ⟨b, 3, none⟩ u3).setCell ⟨b, 4, none⟩ u4).setCell ⟨b, 5, none⟩ u5) v t := by
  rw [put6_size]
  exact stable_rows.sub (stable_rows.keep h (fun k hk _ => put6_other (by have := hk.1; simp only at this; omega) _ _ _ _ _ _)) ⟨fun k hk => ⟨by have := hk.1; simp only at this ⊢; omega, hk.2⟩, fun h => by cases h⟩
theorem rows_wide {lo : Nat} {w w' : World} {g : Nat} {H : Nat} {v : Value} {t : List (List Int)} (h : RowsR ⟨lo, H, false⟩ w v t) (hd : Dr g w w') (hg : g < lo) (hH : H ≤ w'.heap.size) : RowsR ⟨lo, w'.heap.size, false⟩ w' v t :=
  stable_rows.sub (stable_rows.dr h hd (.inl hg)) ⟨fun k hk => ⟨hk.1, Nat.lt_of_lt_of_le hk.2 hH⟩, fun h => h⟩

set_option maxRecDepth 20000 in
set_option maxHeartbeats 2000000 in
theorem DrawAddDoor_c (w : World) (vb : Value) (zb : Zone) (xs : List Int) (h : BytesR zb w vb xs) : Calls Tryz.prog 21 #[vb] w (Ret w (SysCutsColD w)) := by
  have R0 := res_new w 32
  have e0 : Ext w (w.alloc (.cells #[.int .i64 0, .int .i64 0, .int .i64 0, .int .i64 0, .int .i64 0, .slice none 0 0] 32)) := Ext.alloc _ _
  have hsz0 : (w.alloc (.cells #[.int .i64 0, .int .i64 0, .int .i64 0, .int .i64 0, .int .i64 0, .slice none 0 0] 32)).heap.size = w.heap.size + 1 := by simp
  have hcall := l01From_c _ vb zb xs (stable_bytes.ext h e0)
  obtain ⟨ab, nb, kb, rfl, -⟩ := BytesR.shape h
  clear h
  go_enter Tryz.func21, Tryz.ntmps21
  go_wp2_with fail
  generalize w.alloc (.cells #[.int .i64 0, .int .i64 0, .int .i64 0, .int .i64 0, .int .i64 0, .slice none 0 0] 32) = w0 at *
  refine Calls.mono hcall ?_
  rintro e w1 hr
  obtain ⟨_, rfl, ⟨g, hg, rfl, hsrc⟩, e1⟩ := ret_ext hr
  clear hr hcall
  have hwg : w.heap.size ≠ g := by omega
  have hwg' : w.heap.size ≤ g := by omega
  have R1 := R0.ext e1
  have HE1 := Lib.hid (e0.trans e1)
  have hs1 := e1.size
  have hw1 : w.heap.size < w1.heap.size := by omega
  have hg1 : g < w1.heap.size := hsrc.lt
  have hcall := l21Draw_c w1 g hsrc
  clear R0 e0 e1 hsz0 hs1 hg hsrc
  go_wp2_with fail
  refine Calls.mono hcall ?_
  rintro e w2 ⟨_, rfl, ⟨mk, v, t, u, cuts, rfl, hm, ht, hl, hr, hc, hcl⟩, hd2⟩
  clear hcall hr hcl
  obtain ⟨a, n, k, rfl, -⟩ := SliceR.shape ht
  obtain ⟨a2, n2, k2, rfl, -⟩ := SliceR.shape hc
  have R2 := R1.dr hd2 hwg
  unfold sysV
  go_wp2_with fail
  have Sb := SysF.new w2 mk (.slice a n k) 32
  have hdb : Dr g w1 (w2.alloc (.cells #[.int .i64 mk.c, .int .i64 mk.d, .int .i64 mk.s, .int .i64 mk.m, .int .i64 mk.l, .slice a n k] 32)) := hd2.alloc _
  have hsb : (w2.alloc (.cells #[.int .i64 mk.c, .int .i64 mk.d, .int .i64 mk.s, .int .i64 mk.m, .int .i64 mk.l, .slice a n k] 32)).heap.size = w2.heap.size + 1 := by simp
  have htb := rows_alloc (o := .cells #[.int .i64 mk.c, .int .i64 mk.d, .int .i64 mk.s, .int .i64 mk.m, .int .i64 mk.l, .slice a n k] 32) ht
  have hcb := rows_alloc (o := .cells #[.int .i64 mk.c, .int .i64 mk.d, .int .i64 mk.s, .int .i64 mk.m, .int .i64 mk.l, .slice a n k] 32) hc
  have Rb := R2.ext (Ext.alloc w2 (.cells #[.int .i64 mk.c, .int .i64 mk.d, .int .i64 mk.s, .int .i64 mk.m, .int .i64 mk.l, .slice a n k] 32))
  generalize w2.alloc (.cells #[.int .i64 mk.c, .int .i64 mk.d, .int .i64 mk.s, .int .i64 mk.m, .int .i64 mk.l, .slice a n k] 32) = wb at *
  obtain ⟨b, hb⟩ : ∃ b, w2.heap.size = b := ⟨_, rfl⟩
  have hs2 := hd2.size
  rw [hb] at Sb hsb ⊢
  have hbg : b ≠ g := by omega
  have hwb' : w.heap.size ≠ b := by omega
  have hw1b : w1.heap.size ≤ b := by omega
  have hgb : g < b := by omega
  have hcall := l01Next_c wb g hdb.src 30 (by unfold I64; omega)
  clear ht hc hd2 R1 R2 hs2 hb
  refine Calls.mono hcall ?_
  rintro e w3 ⟨_, rfl, ⟨x, rfl, hx0, hx1⟩, hd3⟩
  clear hcall
  have HS := Lib.hid (Sb.dr hd3 hbg)
  have HR := Lib.hid (Rb.dr hd3 hwg)
  have HD := Lib.hid (hdb.trans hd3)
  have hs3 := hd3.size
  have HT := Lib.hid (rows_wide htb hd3 hg1 hs3)
  have HC := Lib.hid (rows_wide hcb hd3 hg1 hs3)
  have hb3 : b + 1 ≤ w3.heap.size := by omega
  have HMk : Hid (MkR mk) := hm
  have HTl : Hid (t.length ≤ 14) := hl
  clear Sb Rb hdb hd3 htb hcb hm hl hsb hs3
  go_upto_if 19 with fail
  go_cut [7] (fun s7 wx => StC g w.heap.size w1.heap.size b w1 s7 wx)
  case first =>
    by_cases e0 : x = 0
    · subst e0
      have hr3 : Dr g w3 w3 := Dr.refl HD.out.src
      have HCe : Hid (∀ w', Dr g w3 w' → w'.cell? ⟨b, 0, none⟩ = some (.int .i64 mk.c) ∧ w'.cell? ⟨b, 1, none⟩ = some (.int .i64 mk.d) ∧ w'.cell? ⟨b, 2, none⟩ = some (.int .i64 mk.s) ∧ w'.cell? ⟨b, 3, none⟩ = some (.int .i64 mk.m) ∧ w'.cell? ⟨b, 4, none⟩ = some (.int .i64 mk.l)) := fun w' hd => by
        have q := (HS.out.dr hd hbg).1
        exact ⟨q.c0, q.c1, q.c2, q.c3, q.c4⟩
      have HSd := Lib.hid (fun (w' : World) (hd : Dr g w3 w') => HS.out.dr hd hbg)
      have HL2 := Lib.hid (fun (w' : World) (h : Src g w') => l01Next_c w' g h 2 (by unfold I64; omega))
      have HO1 : Hid (∀ (w' : World) (y : Int), 0 ≤ y → y ≤ 2 → Calls Tryz.prog 74 #[.int .i64 (IntKind.i64.wrap (12 - y))] w' (Ret w' fun r w'' => ∃ L : List Int, IntsR ⟨w'.heap.size, w''.heap.size, true⟩ w'' r L)) := fun w' y h0 h1 => by
        have e : IntKind.i64.wrap (12 - y) = (((12 - y).toNat : Nat) : Int) := by rw [IntWalk.i64_in _ (by omega)]; omega
        rw [e]
        refine (l24Ones_c w' (12 - y).toNat (by omega)).mono ?_
        rintro e w'' hr
        obtain ⟨r, rfl, ho, ee⟩ := ret_ext hr
        exact ⟨r, rfl, ⟨_, OwnP.ints ho (fun x hx => by rw [List.eq_of_mem_replicate hx]; unfold I64; omega) (Nat.le_refl _)⟩, ee⟩
      obtain ⟨⟨c0, c1, c2, c3, c4, c5⟩, hf⟩ := HS.out
      have f0 := hf 0
      have f1 := hf 1
      have f2 := hf 2
      have f3 := hf 3
      have f4 := hf 4
      have f5 := hf 5
      clear hf
      go_wp2_with fail
      refine wp_region_noPanic ?_
      refine wp_region_held_drew (S := (fun w' => w'.cell? ⟨b, 0, none⟩ = some (.int .i64 mk.c) ∧ w'.cell? ⟨b, 1, none⟩ = some (.int .i64 mk.d) ∧ w'.cell? ⟨b, 2, none⟩ = some (.int .i64 mk.s) ∧ w'.cell? ⟨b, 3, none⟩ = some (.int .i64 mk.m) ∧ w'.cell? ⟨b, 4, none⟩ = some (.int .i64 mk.l))) (by kernel_rfl) (HCe.out _ hr3.drew) (fun hHeld => ?_)
      (refine take_at 0 20 (v := ?_) rfl rfl (by kernel_rfl) (by kernel_rfl) (by kernel_rfl) (fun _ _ _ h => h) (by rfl) ?_ (by assumption) ?_; rotate_left; focus (intro w999 hSw; (try dsimp only at hSw); go_simp <;> with_reducible rfl); (try simp only [Act.put, List.setIfInBounds_toArray, List.set_cons_zero, List.set_cons_succ]))
      (refine take_at 1 21 (v := ?_) rfl rfl (by kernel_rfl) (by kernel_rfl) (by kernel_rfl) (fun _ _ _ h => h) (by rfl) ?_ (by assumption) ?_; rotate_left; focus (intro w999 hSw; (try dsimp only at hSw); go_simp <;> with_reducible rfl); (try simp only [Act.put, List.setIfInBounds_toArray, List.set_cons_zero, List.set_cons_succ]))
      (refine take_at 2 22 (v := ?_) rfl rfl (by kernel_rfl) (by kernel_rfl) (by kernel_rfl) (fun _ _ _ h => h) (by rfl) ?_ (by assumption) ?_; rotate_left; focus (intro w999 hSw; (try dsimp only at hSw); go_simp <;> with_reducible rfl); (try simp only [Act.put, List.setIfInBounds_toArray, List.set_cons_zero, List.set_cons_succ]))
      (refine wpAnyH_ready (rs := [3]) (by kernel_rfl) (by simp) ?_; refine AllReadyH.cons rfl (fun K hK => ?_) AllReadyH.nil; go_simp)
      refine (HL2.out _ (hr3.drew).src).mono ?_
      rintro e w6 ⟨_, rfl, ⟨y6, rfl, y60, y61⟩, hd6⟩
      have hd66 : Dr g w3 w6 := (hr3.drew).trans hd6
      have z61 : y6 ≤ 2 := by omega
      have HO := Lib.hid (HO1.out w6 y6 y60 z61)
      (refine hK.out _ _ ?_ (fun hHeld => ?_))
      · exact HCe.out _ hd66
      (clear hK K; try simp only [Act.put, List.setIfInBounds_toArray, List.set_cons_zero, List.set_cons_succ])
      (refine take_at 4 24 (v := ?_) rfl rfl (by kernel_rfl) (by kernel_rfl) (by kernel_rfl) (fun _ _ _ h => h) (by rfl) ?_ (by assumption) ?_; rotate_left; focus (intro w999 hSw; (try dsimp only at hSw); go_simp <;> with_reducible rfl); (try simp only [Act.put, List.setIfInBounds_toArray, List.set_cons_zero, List.set_cons_succ]))
      (refine wpAnyH_ready (rs := [5]) (by kernel_rfl) (by simp) ?_; refine AllReadyH.cons rfl (fun K hK => ?_) AllReadyH.nil; go_simp)
      refine HO.out.mono ?_
      rintro e w7 hr7
      obtain ⟨r7, rfl, ⟨L7, i7⟩, e7⟩ := ret_ext hr7
      clear hr7
      obtain ⟨a7, n7, k7, rfl, -⟩ := SliceR.shape i7
      have hd77 : Dr g w3 w7 := Dr.below hd66 e7
      (refine hK.out _ _ ?_ (fun hHeld => ?_))
      · exact HCe.out _ hd77
      (clear hK K; try simp only [Act.put, List.setIfInBounds_toArray, List.set_cons_zero, List.set_cons_succ])
      (refine wpAnyH_ready (rs := [6]) (by kernel_rfl) (by simp) ?_; refine AllReadyH.cons rfl (fun K hK => ?_) AllReadyH.nil; go_simp)
      have hd88 : Dr g w3 (w7.alloc (.cells #[.slice a7 n7 k7] 41)) := hd77.alloc _
      have e88 : Ext w7 (w7.alloc (.cells #[.slice a7 n7 k7] 41)) := Ext.alloc _ _
      have hT8 := rows_one_lo (e := 41) (lo := b + 1) (stable_ints.sub i7 (z := ⟨b + 1, w7.heap.size, true⟩) ⟨fun k hk => ⟨by have := hk.1; have := hd66.size; simp only at *; omega, hk.2⟩, fun h => h⟩) (by have := hd77.size; omega)
      have hsz8 : (w7.alloc (.cells #[.slice a7 n7 k7] 41)).heap.size = w7.heap.size + 1 := by simp
      (refine hK.out _ _ ?_ (fun hHeld => ?_))
      · exact HCe.out _ hd88
      (clear hK K; try simp only [Act.put, List.setIfInBounds_toArray, List.set_cons_zero, List.set_cons_succ])
      generalize w7.alloc (.cells #[.slice a7 n7 k7] 41) = w8 at *
      clear c0 c1 c2 c3 c4 c5 f0 f1 f2 f3 f4 f5
      have hS8 := HSd.out _ hd88
      have HS8 := Lib.hid (hS8.put6 mk (.slice (some ⟨w7.heap.size, 0, none⟩) 1 1))
      obtain ⟨⟨c0, c1, c2, c3, c4, c5⟩, hf⟩ := hS8
      have f0 := hf 0
      have f1 := hf 1
      have f2 := hf 2
      have f3 := hf 3
      have f4 := hf 4
      have f5 := hf 5
      clear hf
      (refine take_at 7 27 (v := ?_) rfl rfl (by kernel_rfl) (by kernel_rfl) (by kernel_rfl) (fun _ _ _ h => h) (by rfl) ?_ (by assumption) ?_; rotate_left; focus (intro w999 hSw; (try dsimp only at hSw); go_simp <;> with_reducible rfl); (try simp only [Act.put, List.setIfInBounds_toArray, List.set_cons_zero, List.set_cons_succ]))
      (refine wpAnyH_ready (rs := [8]) (by kernel_rfl) (by simp) ?_; refine AllReadyH.cons rfl (fun K hK => ?_) AllReadyH.nil; go_simp)
      have hS9 := HS8.out
      have hD9 := put6 (HD.out.trans hd88) hw1b (.int .i64 mk.c) (.int .i64 mk.d) (.int .i64 mk.s) (.int .i64 mk.m) (.int .i64 mk.l) (.slice (some ⟨w7.heap.size, 0, none⟩) 1 1)
      have hT9 := rows_put6b hT8 hw1b (.int .i64 mk.c) (.int .i64 mk.d) (.int .i64 mk.s) (.int .i64 mk.m) (.int .i64 mk.l) (.slice (some ⟨w7.heap.size, 0, none⟩) 1 1)
      have hR9 := (HR.out.dr hd88 hwg).put6 hwb' (.int .i64 mk.c) (.int .i64 mk.d) (.int .i64 mk.s) (.int .i64 mk.m) (.int .i64 mk.l) (.slice (some ⟨w7.heap.size, 0, none⟩) 1 1)
      clear c0 c1 c2 c3 c4 c5 f0 f1 f2 f3 f4 f5 HS8 hT8
      generalize ((((((w8.setCell ⟨b, 0, none⟩ (.int .i64 mk.c)).setCell ⟨b, 1, none⟩ (.int .i64 mk.d)).setCell ⟨b, 2, none⟩ (.int .i64 mk.s)).setCell ⟨b, 3, none⟩ (.int .i64 mk.m)).setCell ⟨b, 4, none⟩ (.int .i64 mk.l)).setCell ⟨b, 5, none⟩ (.slice (some ⟨w7.heap.size, 0, none⟩) 1 1)) = w9 at *
      obtain ⟨⟨c0, c1, c2, c3, c4, c5⟩, hf⟩ := hS9
      have HS9 : Hid (SysF b mk (.slice (some ⟨w7.heap.size, 0, none⟩) 1 1) w9) := ⟨⟨c0, c1, c2, c3, c4, c5⟩, hf⟩
      have HD9 := Lib.hid hD9
      have HT9 := Lib.hid hT9
      have HR9 := Lib.hid hR9
      have hcall := l02Some_w w9 g hD9.src mk HMk.out
      unfold MK.v at hcall
      clear hf hD9 hT9 hR9
      (refine hK.out _ _ ?_ (fun hHeld => ?_))
      · exact ⟨c0, c1, c2, c3, c4⟩
      (clear hK K; try simp only [Act.put, List.setIfInBounds_toArray, List.set_cons_zero, List.set_cons_succ])
      refine wpAnyH_done (by kernel_rfl) ?_ _
      refine NoPanic.normal ?_
      go_wp2_with fail
      refine Calls.mono hcall ?_
      rintro e w10 ⟨_, rfl, ⟨l10, i10⟩, hd10⟩
      clear hcall c0 c1 c2 c3 c4 c5
      obtain ⟨a10, n10, k10, rfl, -⟩ := SliceR.shape i10
      have HS10 := Lib.hid (HS9.out.dr hd10 hbg)
      have HR10 := Lib.hid (HR9.out.dr hd10 hwg)
      have HD10 := Lib.hid (HD9.out.trans hd10)
      have HT10 := Lib.hid (rows_wide HT9.out hd10 hg1 hd10.size)
      have hs9 := HD9.out.size
      have HI10 := Lib.hid (stable_ints.sub i10 (z := ⟨w1.heap.size, w10.heap.size, true⟩) ⟨fun k hk => ⟨by have := hk.1; simp only at *; omega, hk.2⟩, fun h => h⟩)
      have hs10 := HD10.out.size
      clear i10 hd10
      go_wp2_with fail
      go_meet
      exact ⟨mk, _, _, _, ⟨HS10.out.1.of (Below.block (Ext.alloc w10 _) b HS10.out.1.lt), fun i => (World.frozen?_of_block (Below.block (Ext.alloc w10 _) b HS10.out.1.lt)).trans (HS10.out.2 i)⟩, rows_alloc HT10.out, by simp, rows_one_lo HI10.out hs10, HD10.out.alloc _, HR10.out.ext (Ext.alloc _ _)⟩
    · go_wp2_with fail
      go_meet
      exact ⟨mk, _, t, cuts, HS.out, HT.out, HTl.out, HC.out, HD.out, HR.out⟩
  case rest =>
    obtain ⟨wo, hwo⟩ : ∃ wo, wo = wc := ⟨_, rfl⟩
    subst hwo
    clear HS HR HD HT HC HMk HTl hb3
    obtain ⟨mk, v, t, cuts, hS, hT, hTl, hC, hD, hR⟩ := hcut
    obtain ⟨a, n, k, rfl, hn, -⟩ := SliceR.shape hT
    obtain ⟨a2, n2, k2, rfl, -⟩ := SliceR.shape hC
    have hn14 : n ≤ 14 := by omega
    have hsrc := hD.src
    have hgc : g < wo.heap.size := hsrc.lt
    have HSo := Lib.hid hS
    have HTo := Lib.hid hT
    have HCo := Lib.hid hC
    have HDo := Lib.hid hD
    have HRo := Lib.hid hR
    have oi : OwnP (Value.int .i64) 2 wo.heap.size (wo.alloc (.cells #[] 2)) (.slice (some ⟨wo.heap.size, 0, none⟩) 0 0) [] := OwnP.empty (Nat.le_refl _)
    have di : Dr g wo (wo.alloc (.cells #[] 2)) := (Dr.refl hsrc).alloc _
    clear hS hT hTl hC hD hR hn hsrc
    go_wp2_with fail
    generalize wo.alloc (.cells #[] 2) = wi at *
    go_loopw [8, 9] (fun s8 s9 wr => ∃ (i : Nat) (l : List Int), s9 = .int .i64 i ∧ i ≤ n ∧ l.length = i ∧ (∀ y ∈ l, I64 y) ∧ OwnP (Value.int .i64) 2 wo.heap.size wr s8 l ∧ Dr g wo wr) (fun _ s9 _ => n - (intOf s9).toNat)
    case atStart => exact ⟨0, [], rfl, Nat.zero_le _, rfl, by simp, oi, di⟩
    case round =>
      clear oi di
      obtain ⟨i, l, rfl, hi, hll, hli, ho, hd⟩ := hrel
      obtain ⟨c0, c1, c2, c3, c4, c5⟩ := (HSo.out.dr hd hbg).1
      have HLi := Lib.hid hli
      have Hll := Lib.hid hll
      have hl14 : l.length ≤ 14 := by omega
      clear hli hll
      by_cases hin : i < n
      · have hcall := pickL_c wr g hd.src [0, 1, 1] #[.int .i64 0, .int .i64 1, .int .i64 1] rfl (by simp [I64]) (by simp) (by simp) rfl rfl
        have hd5 := hd.alloc (.cells #[.int .i64 0, .int .i64 1, .int .i64 1] 2)
        have ho5 := ho.alloc (.cells #[.int .i64 0, .int .i64 1, .int .i64 1] 2)
        clear hd ho
        go_wp2_with fail
        refine Calls.mono hcall ?_
        rintro e w7 ⟨_, rfl, ⟨y, rfl, hyl⟩, hd6⟩
        have hy : I64 y := by simp only [List.mem_cons, List.not_mem_nil, or_false] at hyl; unfold I64; omega
        clear hcall hyl c0 c1 c2 c3 c4 c5
        have hd7 := hd5.trans hd6
        have ho7 := ho5.dr hd6 hgc
        have hs7 := hd7.size
        have hl1 : l.length ≤ 1000000 := by omega
        clear hd5 hd6 ho5
        go_wp2_with (at_builtin; (refine wpList_drawInt (g := g) (w0 := wo) (B := wo.heap.size) rfl _ _ 41 rfl Tryz.underlying41 Tryz.infoI64 rfl ho7 y rfl hl1 hd7 (Nat.le_refl _) hs7 ?_); intro v8 w8 hown8 hd8 hs8)
        exact ⟨⟨i + 1, l ++ [y], by go_num, by omega, by rw [List.length_append, List.length_singleton, Hll.out], ints_snoc HLi.out hy, hown8, hd8⟩, by simp [intOf]; omega⟩
      · have hcall := l01Next_c wr g hd.src 20 (by unfold I64; omega)
        have HO := Lib.hid ho
        have HDl := Lib.hid hd
        obtain ⟨a9, n9, k9, rfl, -⟩ := OwnP.shape ho
        clear ho hd
        go_wp2_with fail
        refine Calls.mono hcall ?_
        rintro e w4 ⟨_, rfl, ⟨x4, rfl, hx40, -⟩, hd4⟩
        clear hcall c0 c1 c2 c3 c4 c5
        have ho4 := HO.out.dr hd4 hgc
        have hd5 := HDl.out.trans hd4
        have hs5 := hd5.size
        clear hd4
        have HEnd : Hid (∀ (W : World) (u : Value) (q : List Int), Dr g wo W → OwnP (Value.int .i64) 2 wo.heap.size W u q → (∀ y ∈ q, I64 y) → (SysAt W b mk (.slice a n k) ∧ ResAt W w.heap.size) ∧ SysCutsColD w (.tuple #[.agg #[.int .i64 mk.c, .int .i64 mk.d, .int .i64 mk.s, .int .i64 mk.m, .int .i64 mk.l, .slice a n k], .slice a2 n2 k2, u]) ((((((W.setCell ⟨w.heap.size, 0, none⟩ (.int .i64 mk.c)).setCell ⟨w.heap.size, 1, none⟩ (.int .i64 mk.d)).setCell ⟨w.heap.size, 2, none⟩ (.int .i64 mk.s)).setCell ⟨w.heap.size, 3, none⟩ (.int .i64 mk.m)).setCell ⟨w.heap.size, 4, none⟩ (.int .i64 mk.l)).setCell ⟨w.heap.size, 5, none⟩ (.slice a n k)) ∧ Below w.heap.size w ((((((W.setCell ⟨w.heap.size, 0, none⟩ (.int .i64 mk.c)).setCell ⟨w.heap.size, 1, none⟩ (.int .i64 mk.d)).setCell ⟨w.heap.size, 2, none⟩ (.int .i64 mk.s)).setCell ⟨w.heap.size, 3, none⟩ (.int .i64 mk.m)).setCell ⟨w.heap.size, 4, none⟩ (.int .i64 mk.l)).setCell ⟨w.heap.size, 5, none⟩ (.slice a n k))) := fun W u q hd ho hq => by
          have hsz := hd.size
          have hw1o := HDo.out.size
          have hi := OwnP.ints ho hq (Nat.le_refl _)
          refine ⟨⟨HSo.out.1.dr hd hbg, HRo.out.dr hd hwg⟩, ⟨mk, _, t, _, cuts, _, q, rfl, rows_put6 (rows_wide HTo.out hd hg1 hsz) hw1 _ _ _ _ _ _, rows_put6 (rows_wide HCo.out hd hg1 hsz) hw1 _ _ _ _ _ _, ?_⟩, ext_put6 (Below.trans HE1.out ((HDo.out.trans hd).back hwg')) (Nat.le_refl _) _ _ _ _ _ _⟩
          rw [put6_size]
          exact stable_ints.sub (stable_ints.keep hi (fun k hk _ => put6_other (by have := hk.1; simp only at this; omega) _ _ _ _ _ _)) ⟨fun k hk => ⟨by have := hk.1; simp only at this ⊢; omega, hk.2⟩, fun h => by cases h⟩
        by_cases h40 : x4 = 0
        · subst h40
          have hl1 : l.length ≤ 1000000 := by omega
          go_wp2_with (at_builtin; (refine wpList_drawInt (v := .slice a9 n9 k9) (g := g) (w0 := wo) (B := wo.heap.size) rfl _ _ 41 rfl Tryz.underlying41 Tryz.infoI64 rfl ho4 0 rfl hl1 hd5 (Nat.le_refl _) hs5 ?_); intro v8 w8 hown8 hd8 hs8; obtain ⟨⟨⟨c0, c1, c2, c3, c4, c5⟩, r0, r1, r2, r3, r4, r5, f0, f1, f2, f3, f4, f5⟩, hq, hbb⟩ := HEnd.out w8 _ _ hd8 hown8 (ints_snoc HLi.out (by unfold I64; omega)); have HQ := Lib.hid hq; have HBb := Lib.hid hbb; obtain ⟨a8, n8, k8, rfl, -⟩ := OwnP.shape hown8; clear hq hbb hown8 hd8)
          refine bodyPost_ret (v := .tuple #[.agg #[.int .i64 mk.c, .int .i64 mk.d, .int .i64 mk.s, .int .i64 mk.m, .int .i64 mk.l, .slice a n k], .slice a2 n2 k2, .slice a8 n8 k8]) (by simp [results, Tryz.results21, go_sem, r0, r1, r2, r3, r4, r5]) rfl ⟨_, rfl, HQ.out, HBb.out⟩
        · have hb : (x4 == 0) = false := by simpa using h40
          obtain ⟨⟨⟨c0, c1, c2, c3, c4, c5⟩, r0, r1, r2, r3, r4, r5, f0, f1, f2, f3, f4, f5⟩, hq, hbb⟩ := HEnd.out w4 _ _ hd5 ho4 HLi.out
          have HQ := Lib.hid hq
          have HBb := Lib.hid hbb
          clear hq hbb ho4 hd5
          go_wp2_with fail
          refine bodyPost_ret (v := .tuple #[.agg #[.int .i64 mk.c, .int .i64 mk.d, .int .i64 mk.s, .int .i64 mk.m, .int .i64 mk.l, .slice a n k], .slice a2 n2 k2, .slice a9 n9 k9]) (by simp [results, Tryz.results21, go_sem, r0, r1, r2, r3, r4, r5]) rfl ⟨_, rfl, HQ.out, HBb.out⟩
end Go.Proofs.YthgmojggpjnckaaGreat
