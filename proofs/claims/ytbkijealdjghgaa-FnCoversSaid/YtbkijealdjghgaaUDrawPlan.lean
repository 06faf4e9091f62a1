/- Proved: spec.l25Draw gives some rooms. -/
import Derived.Test.YtbkijealdjghgaaChecked
import Derived.Test.YtbkijealdjghgaaUDrawRooms
namespace Go.Proofs.Ytbkijealdjghgaa
open Go.ChangeShapes Go.WideShapes Go.ChangeAt Go.RowKit
set_option linter.unusedVariables false

def Room25 (w : World) (r : Value) (w' : World) : Prop := ∃ (c : Int) (u : Value) (ds : List (List Int)), r = .agg #[.int .i64 c, u] ∧ I64 c ∧ ds.length ≤ 13 ∧ RowsR ⟨w.heap.size, w'.heap.size, false⟩ w' u ds
theorem room_fin {g : Nat} {w wf : World} {lo hi : Nat} {u : Value} {ds : List (List Int)} (hd : Dr g w wf) (hr : RowsR ⟨lo, hi, false⟩ wf u ds) (hlo : w.heap.size < lo) (hhi : hi ≤ wf.heap.size) (x y : Value) :
    RowsR ⟨w.heap.size, ((wf.setCell ⟨w.heap.size, 0, none⟩ x).setCell ⟨w.heap.size, 1, none⟩ y).heap.size, false⟩ ((wf.setCell ⟨w.heap.size, 0, none⟩ x).setCell ⟨w.heap.size, 1, none⟩ y) u ds ∧ Dr g w ((wf.setCell ⟨w.heap.size, 0, none⟩ x).setCell ⟨w.heap.size, 1, none⟩ y) := by
  refine ⟨?_, (hd.put (p := ⟨w.heap.size, 0, none⟩) (Nat.le_refl _) _).put (p := ⟨w.heap.size, 1, none⟩) (Nat.le_refl _) _⟩
  refine stable_rows.sub (stable_rows.keep hr (fun k hk _ => ?_)) ⟨fun k hk => ⟨by have := hk.1; simp only at this ⊢; omega, by have := hk.2; simp [World.setCell] at this ⊢; omega⟩, fun h => by cases h⟩
  have := hk.1
  simp only at this
  rw [Below.heap_setCell _ _ _ _ (by show k ≠ w.heap.size; omega), Below.heap_setCell _ _ _ _ (by show k ≠ w.heap.size; omega)]
theorem pickI {x : Int} {l : List Int} (h : x ∈ l) (hl : ∀ y ∈ l, I64 y) : I64 x := hl x h
/-- a pick among three numbers that have just been laid -/
theorem pick3_c (w : World) (g : Nat) (h : Src g w) (a b c : Int) (ha : I64 a) (hb : I64 b) (hc : I64 c) {gx : Nat} (hgx : w.heap.size = gx) :
    Calls Try.prog 55 #[.pointer (some ⟨g, 0, none⟩), .slice (some ⟨gx, 0, none⟩) 3 3] (w.alloc (.cells #[.int .i64 a, .int .i64 b, .int .i64 c] 2)) (DrawR g (w.alloc (.cells #[.int .i64 a, .int .i64 b, .int .i64 c] 2)) fun r _ => ∃ y, r = .int .i64 y ∧ I64 y) := by
  subst hgx
  have hm : ∀ y ∈ [a, b, c], I64 y := by simp only [List.mem_cons, List.not_mem_nil, or_false]; rintro y (rfl | rfl | rfl) <;> assumption
  have hlit := OwnP.ints (OwnP.lit (f := Value.int .i64) (e := 2) (B := w.heap.size) (Nat.le_refl _) [a, b, c] #[.int .i64 a, .int .i64 b, .int .i64 c] rfl (by simp [maxLen])) hm (Nat.le_refl _)
  refine (l01Pick_c _ g (h.alloc _) _ _ _ hlit (.inl h.lt) (by simp)).mono ?_
  rintro e w' ⟨v, rfl, ⟨y, hy, rfl⟩, hd⟩
  exact ⟨_, rfl, ⟨y, rfl, hm y hy⟩, hd⟩

theorem pick3_at (w : World) (g : Nat) (h : Src g w) (a b c : Int) (ha : I64 a) (hb : I64 b) (hc : I64 c) (gx : Nat) (hg : g < gx) (c0 : w.cell? ⟨gx, 0, none⟩ = some (.int .i64 a)) (c1 : w.cell? ⟨gx, 1, none⟩ = some (.int .i64 b)) (c2 : w.cell? ⟨gx, 2, none⟩ = some (.int .i64 c)) :
    Calls Try.prog 55 #[.pointer (some ⟨g, 0, none⟩), .slice (some ⟨gx, 0, none⟩) 3 3] w (DrawR g w fun r _ => ∃ y, r = .int .i64 y ∧ I64 y) := by
  have hm : ∀ y ∈ [a, b, c], I64 y := by simp only [List.mem_cons, List.not_mem_nil, or_false]; rintro y (rfl | rfl | rfl) <;> assumption
  have hr : IntsR ⟨gx, gx + 1, false⟩ w (.slice (some ⟨gx, 0, none⟩) 3 3) [a, b, c] := by
    refine ⟨some ⟨gx, 0, none⟩, 3, rfl, Nat.le_refl _, by unfold maxLen; omega, (fun h => by cases h), fun ad had _ => ?_⟩
    cases had
    refine ⟨rfl, ⟨Nat.le_refl _, Nat.lt_succ_self _⟩, World.block_lt_of_cell? _ _ c0, (fun h => by cases h), fun _ => ⟨gx, gx + 1, false⟩, fun _ _ => Zone.Sub.refl _, (fun h => by cases h), fun i hi => ?_⟩
    have hi3 : i < 3 := hi
    rcases i with _ | _ | _ | i
    · exact ⟨_, c0, rfl, ha⟩
    · exact ⟨_, c1, rfl, hb⟩
    · exact ⟨_, c2, rfl, hc⟩
    · omega
  refine (l01Pick_c w g h _ _ _ hr (.inl hg) (by simp)).mono ?_
  rintro e w' ⟨v, rfl, ⟨y, hy, rfl⟩, hd⟩
  exact ⟨_, rfl, ⟨y, rfl, hm y hy⟩, hd⟩

set_option maxRecDepth 20000 in
set_option maxHeartbeats 4000000 in
theorem l25Draw_c (w : World) (g : Nat) (h : Src g w) : Calls Try.prog 25 #[.pointer (some ⟨g, 0, none⟩)] w (DrawR g w (Room25 w)) := by
  have hlt := h.lt
  have hd0 := (Dr.refl h).alloc (.cells #[.int .i64 0, .slice none 0 0] 26)
  have hbx := Box2.new w (.int .i64 0) (.slice none 0 0) 26
  have hcall := l25Valid_c _ g hd0.src
  have hsz0 : (w.alloc (.cells #[.int .i64 0, .slice none 0 0] 26)).heap.size = w.heap.size + 1 := by simp
  clear h
  go_enter Try.func25, Try.ntmps25
  go_wp2_with fail
  generalize w.alloc (.cells #[.int .i64 0, .slice none 0 0] 26) = w0 at *
  refine Calls.mono hcall ?_
  rintro e w1 ⟨_, rfl, ⟨n, u, ds, rfl, hn2, hn6, ho1, hd1, hd8⟩, hd1'⟩
  clear hcall
  have hbx1 := hbx.dr hd1' (by omega)
  have hd2 := hd0.trans hd1'
  have hs1 : w.heap.size + 1 ≤ w1.heap.size := by have := hd1'.size; omega
  have hg1 : g < w1.heap.size := by omega
  have HR : Hid (∀ w', Dr g w1 w' → Box2 w.heap.size (.int .i64 0) (.slice none 0 0) w') := fun w' hd => hbx1.dr hd (by omega)
  have hxx := Box2.new w1 (.int .i64 n) u 26
  have hr1 : Dr g w1 (w1.alloc (.cells #[.int .i64 n, u] 26)) := (Dr.refl hd2.src).alloc _
  have HX : Hid (∀ w', Dr g (w1.alloc (.cells #[.int .i64 n, u] 26)) w' → Box2 w1.heap.size (.int .i64 n) u w') := fun w' hd => hxx.dr hd (by omega)
  have hcall := l01Next_c _ g hr1.src 30 (by unfold I64; omega)
  have hsx : (w1.alloc (.cells #[.int .i64 n, u] 26)).heap.size = w1.heap.size + 1 := by simp
  have HO : Hid (OwnR false w0.heap.size IntsR 29 w0.heap.size (w1.alloc (.cells #[.int .i64 n, u] 26)) u ds) := OwnR.alloc stable_ints ho1 _
  have hg0 : g < w0.heap.size := by omega
  have HRows := Lib.hid (OwnR.reads ho1 (Nat.le_refl _))
  obtain ⟨a, len, cap, rfl, hlen, -⟩ := OwnA.shape ho1
  have Hlen := Lib.hid hlen
  have HW := Lib.hid hd1'
  have HZ := Lib.hid hd0
  have HBk : Hid (∀ k, (Value.slice a len cap).ownBlock = some k → k < w1.heap.size) := fun k hk => (OwnA.block ho1 k hk).2
  have HR0 : Hid (∀ w', Dr g w0 w' → Box2 w.heap.size (.int .i64 0) (.slice none 0 0) w') := fun w' hd => hbx.dr hd (by omega)
  clear hbx hbx1 hd0 hd1' hxx hlen ho1
  go_wp2_with fail
  generalize hw2 : w1.alloc (.cells #[.int .i64 n, .slice a len cap] 26) = w2 at *
  refine Calls.mono hcall ?_
  rintro e w3 ⟨_, rfl, ⟨x4, rfl, hx40, hx41⟩, hd3⟩
  clear hcall
  have hd4 := hr1.trans hd3
  have hrw3 := stable_rows.dr HRows.out hd4 (.inl hg0)
  have hsw3 : w1.heap.size + 1 ≤ w3.heap.size := by have := hd3.size; omega
  by_cases e0 : x4 = 0
  · subst e0
    have hcall := pick3_c w3 g hd3.src 1 8 9 (by unfold I64; omega) (by unfold I64; omega) (by unfold I64; omega) rfl
    have hd5 := hd4.alloc (.cells #[.int .i64 1, .int .i64 8, .int .i64 9] 2)
    have hdx := hd3.alloc (.cells #[.int .i64 1, .int .i64 8, .int .i64 9] 2)
    go_wp2_with fail
    refine Calls.mono hcall ?_
    rintro e w5 ⟨_, rfl, ⟨y, rfl, hy⟩, hd6⟩
    clear hcall
    have hd7 := hd5.trans hd6
    have hdx7 := hdx.trans hd6
    have hrw := stable_rows.dr HRows.out hd7 (.inl hg0)
    have hs5 : w1.heap.size ≤ w5.heap.size := hd7.size
    obtain ⟨q1, q2, q3, q4⟩ := HR.out _ hd7
    obtain ⟨p1, p2, p3, p4⟩ := HX.out _ hdx7
    have hrw' := stable_rows.keep hrw (w' := w5.setCell ⟨w1.heap.size, 0, none⟩ (.int .i64 y)) (fun k hk _ => Below.heap_setCell _ _ _ _ (by have := hk.2; simp only at this; show k ≠ w1.heap.size; omega))
    have hd8 : Dr g w1 (w5.setCell ⟨w1.heap.size, 0, none⟩ (.int .i64 y)) := hd7.put (p := ⟨w1.heap.size, 0, none⟩) (Nat.le_refl _) _
    have hs8 : w1.heap.size ≤ (w5.setCell ⟨w1.heap.size, 0, none⟩ (.int .i64 y)).heap.size := hd8.size
    have hne : w.heap.size ≠ w1.heap.size := by omega
    obtain ⟨f1, f2⟩ := room_fin (hd2.trans hd8) hrw' (by omega) hs8 (.int .i64 y) (.slice a len cap)
    have HF1 := Lib.hid f1
    have HF2 := Lib.hid f2
    clear f1 f2 hrw' hrw
    go_wp2_with fail
    exact bodyPost_ret (v := .agg #[.int .i64 y, .slice a len cap]) (by simp [results, Try.results25, go_sem, q1, q2]) rfl ⟨_, rfl, ⟨y, _, ds, rfl, hy, by omega, HF1.out⟩, HF2.out⟩
  · have b0 : (x4 == 0) = false := by simpa using e0
    by_cases e1 : x4 = 1
    · subst e1
      have hO3 := OwnR.dr stable_ints HO.out hd3 hg0 hg0
      have hr3 : Dr g w3 w3 := Dr.refl hd3.src
      obtain ⟨gb, n', cap', u0, he, hn', -, hgb, hgb', hc0, hf0⟩ := OwnR.elem hO3 (k := 0) (by omega)
      injection he with he1 he2 he3
      subst he1; subst he2; subst he3
      clear hn'
      have hgb1 : gb < w1.heap.size := HBk.out gb rfl
      have hpos : 0 < len := by have := Hlen.out; omega
      have HK : Hid (∀ w', Dr g w3 w' → w'.cell? ⟨w1.heap.size, 0, none⟩ = some (.int .i64 n) ∧ w'.cell? ⟨w1.heap.size, 1, none⟩ = some (.slice (some ⟨gb, 0, none⟩) len cap)) := fun w' hd => by
        obtain ⟨p1, p2, -, -⟩ := HX.out _ (hd3.trans hd)
        exact ⟨p1, p2⟩
      have HK2 : Hid (∀ w' u, Dr g w3 w' → (w'.setCell ⟨gb, 0, none⟩ u).cell? ⟨w1.heap.size, 0, none⟩ = some (.int .i64 n) ∧ (w'.setCell ⟨gb, 0, none⟩ u).cell? ⟨w1.heap.size, 1, none⟩ = some (.slice (some ⟨gb, 0, none⟩) len cap)) := fun w' u hd => by
        obtain ⟨p1, p2, -, -⟩ := HX.out _ (hd3.trans hd)
        exact ⟨by rw [World.cell?_setCell_other _ _ _ _ (by intro e; injection e with e _ _; omega)]; exact p1, by rw [World.cell?_setCell_other _ _ _ _ (by intro e; injection e with e _ _; omega)]; exact p2⟩
      have HG : Hid (∀ w' o, Dr g w3 w' → (w'.alloc o).cell? ⟨gb, 0, none⟩ = some (slV u0) ∧ (w'.alloc o).frozen? ⟨gb, 0, none⟩ = false) := fun w' o hd =>
        ⟨(hd.alloc o).cell hc0 (by show gb ≠ g; omega), ((hd.alloc o).frozen hgb' (by show gb ≠ g; omega)).trans hf0⟩
      have HSZ : Hid (∀ W, Dr g w3 W → g < W.heap.size) := fun W hd => by have := hd.size; omega
      have HP := Lib.hid (fun (W : World) (hd : Dr g w3 W) => pick3_at W g hd.src)
      have HFin : Hid (∀ (w8 : World) (y y8 : Int), Dr g w3 w8 → I64 y → I64 y8 →
          ((w8.alloc (.cells #[.int .i64 y, .int .i64 y8] 2)).setCell ⟨gb, 0, none⟩ (.slice (some ⟨w8.heap.size, 0, none⟩) 2 2)).cell? ⟨w1.heap.size, 0, none⟩ = some (.int .i64 n) ∧ ((w8.alloc (.cells #[.int .i64 y, .int .i64 y8] 2)).setCell ⟨gb, 0, none⟩ (.slice (some ⟨w8.heap.size, 0, none⟩) 2 2)).cell? ⟨w1.heap.size, 1, none⟩ = some (.slice (some ⟨gb, 0, none⟩) len cap) ∧
          ((w8.alloc (.cells #[.int .i64 y, .int .i64 y8] 2)).setCell ⟨gb, 0, none⟩ (.slice (some ⟨w8.heap.size, 0, none⟩) 2 2)).cell? ⟨w.heap.size, 0, none⟩ = some (.int .i64 0) ∧ ((w8.alloc (.cells #[.int .i64 y, .int .i64 y8] 2)).setCell ⟨gb, 0, none⟩ (.slice (some ⟨w8.heap.size, 0, none⟩) 2 2)).cell? ⟨w.heap.size, 1, none⟩ = some (.slice none 0 0) ∧
          ((w8.alloc (.cells #[.int .i64 y, .int .i64 y8] 2)).setCell ⟨gb, 0, none⟩ (.slice (some ⟨w8.heap.size, 0, none⟩) 2 2)).frozen? ⟨w.heap.size, 0, none⟩ = false ∧ ((w8.alloc (.cells #[.int .i64 y, .int .i64 y8] 2)).setCell ⟨gb, 0, none⟩ (.slice (some ⟨w8.heap.size, 0, none⟩) 2 2)).frozen? ⟨w.heap.size, 1, none⟩ = false ∧
          ∃ ds', ds'.length ≤ 13 ∧ RowsR ⟨w.heap.size, ((((w8.alloc (.cells #[.int .i64 y, .int .i64 y8] 2)).setCell ⟨gb, 0, none⟩ (.slice (some ⟨w8.heap.size, 0, none⟩) 2 2)).setCell ⟨w.heap.size, 0, none⟩ (.int .i64 n)).setCell ⟨w.heap.size, 1, none⟩ (.slice (some ⟨gb, 0, none⟩) len cap)).heap.size, false⟩ ((((w8.alloc (.cells #[.int .i64 y, .int .i64 y8] 2)).setCell ⟨gb, 0, none⟩ (.slice (some ⟨w8.heap.size, 0, none⟩) 2 2)).setCell ⟨w.heap.size, 0, none⟩ (.int .i64 n)).setCell ⟨w.heap.size, 1, none⟩ (.slice (some ⟨gb, 0, none⟩) len cap)) (.slice (some ⟨gb, 0, none⟩) len cap) ds' ∧
            Dr g w ((((w8.alloc (.cells #[.int .i64 y, .int .i64 y8] 2)).setCell ⟨gb, 0, none⟩ (.slice (some ⟨w8.heap.size, 0, none⟩) 2 2)).setCell ⟨w.heap.size, 0, none⟩ (.int .i64 n)).setCell ⟨w.heap.size, 1, none⟩ (.slice (some ⟨gb, 0, none⟩) len cap))) := by
        intro w8 y y8 hd8' hy hy8
        have hd5 := (hd3.trans hd8').alloc (.cells #[.int .i64 y, .int .i64 y8] 2)
        have hO8 := OwnR.alloc stable_ints (OwnR.dr stable_ints hO3 hd8' hg0 hg0) (.cells #[.int .i64 y, .int .i64 y8] 2)
        have hs8 := hd8'.size
        have hu := OwnP.ints (OwnP.lit (f := Value.int .i64) (e := 2) (B := w8.heap.size) (Nat.le_refl _) [y, y8] #[.int .i64 y, .int .i64 y8] rfl (by simp [maxLen])) (by simp only [List.mem_cons, List.not_mem_nil, or_false]; rintro z (rfl | rfl) <;> assumption) (Nat.le_refl _)
        have hO9 := OwnR.reads (OwnR.put stable_ints hO8 0 (some ⟨w8.heap.size, 0, none⟩, 2, 2) [y, y8] hu (fun j hj => by have h1 := hj.1; have h2 := hj.2; simp only at h1 h2; refine ⟨by omega, by simpa using h2, by omega⟩)) (Nat.le_refl _)
        obtain ⟨q1, q2, q3, q4⟩ := HR.out _ (hr1.trans hd5)
        obtain ⟨p1, p2, p3, p4⟩ := HX.out _ hd5
        have hdP : Dr g w ((w8.alloc (.cells #[.int .i64 y, .int .i64 y8] 2)).setCell ⟨gb, 0, none⟩ (.slice (some ⟨w8.heap.size, 0, none⟩) 2 2)) := HZ.out.trans (((HW.out.trans hr1).trans hd5).put (p := ⟨gb, 0, none⟩) hgb _)
        have f := room_fin hdP hO9 (by omega) (Nat.le_refl _) (.int .i64 n) (.slice (some ⟨gb, 0, none⟩) len cap)
        refine ⟨?_, ?_, ?_, ?_, ?_, ?_, _, ?_, f.1, f.2⟩
        · rw [World.cell?_setCell_other _ _ _ _ (by intro e; injection e with e _ _; omega)]; exact p1
        · rw [World.cell?_setCell_other _ _ _ _ (by intro e; injection e with e _ _; omega)]; exact p2
        · rw [World.cell?_setCell_other _ _ _ _ (by intro e; injection e with e _ _; omega)]; exact q1
        · rw [World.cell?_setCell_other _ _ _ _ (by intro e; injection e with e _ _; omega)]; exact q2
        · rw [World.frozen?_setCell]; exact q3
        · rw [World.frozen?_setCell]; exact q4
        · simp; omega
      have HO3 := Lib.hid hO3
      clear hO3 hrw3 HO hc0 hf0
      go_wp2_with fail
      go_region_held3 (fun w' => w'.cell? ⟨w1.heap.size, 0, none⟩ = some (.int .i64 n) ∧ w'.cell? ⟨w1.heap.size, 1, none⟩ = some (.slice (some ⟨gb, 0, none⟩) len cap)) (first | ((with_reducible refine HK2.out _ _ ?_); exact (by (repeat (first | assumption | (refine Dr.drew ?_) | (refine Dr.alloc ?_ _) | (refine Dr.trans ?_ (by assumption)))); done)) | (refine HK.out _ ?_; exact (by (repeat (first | assumption | (refine Dr.drew ?_) | (refine Dr.alloc ?_ _) | (refine Dr.trans ?_ (by assumption)))); done))) (first | (go_at_call 55; (with_reducible refine Calls.mono (HP.out _ ?_ (-1) 0 1 ?_ ?_ ?_ _ ?_ ?_ ?_ ?_) ?_); rotate_left 5; (focus (simp; done)); (focus (simp; done)); (focus (simp; done)); rotate_left 1; (first | exact Dr.drew (Dr.alloc hr3 _) | exact Dr.drew (Dr.alloc (Dr.alloc hr3 _) _)); (unfold I64; omega); (unfold I64; omega); (unfold I64; omega); omega; rintro e w7 ⟨_, rfl, ⟨y, rfl, hy⟩, hd7⟩; (have hq7 : Dr g w3 w7 := by first | exact Dr.trans (Dr.drew (Dr.alloc hr3 _)) hd7 | exact Dr.trans (Dr.drew (Dr.alloc (Dr.alloc hr3 _) _)) hd7); have hg7 : g < w7.heap.size := HSZ.out _ hq7) | (go_at_call 55; (with_reducible refine Calls.mono (HP.out _ ?_ 0 1 (n : Int) ?_ ?_ ?_ _ ?_ ?_ ?_ ?_) ?_); rotate_left 5; (first | (focus (simp; done)) | exact Dr.cell hd7 (by simp) (Nat.ne_of_gt (by first | (show g < w3.heap.size + 1; omega) | (show g < w3.heap.size; omega)))); (first | (focus (simp; done)) | exact Dr.cell hd7 (by simp) (Nat.ne_of_gt (by first | (show g < w3.heap.size + 1; omega) | (show g < w3.heap.size; omega)))); (first | (focus (simp; done)) | exact Dr.cell hd7 (by simp) (Nat.ne_of_gt (by first | (show g < w3.heap.size + 1; omega) | (show g < w3.heap.size; omega)))); rotate_left 1; (first | exact Dr.alloc hq7 _ | exact hq7); (unfold I64; omega); (unfold I64; omega); (unfold I64; omega); (first | exact hg7 | omega); rintro e w8 ⟨_, rfl, ⟨y8, rfl, hy8⟩, hd8⟩; (have hq8 : Dr g w3 w8 := by first | exact Dr.trans (Dr.alloc hq7 _) hd8 | exact Dr.trans hq7 hd8); have k1 := fun o => (HG.out w8 o hq8).1; have k2 := fun o => (HG.out w8 o hq8).2))
      all_goals (obtain ⟨r1, r2, r3, r4, r5, r6, ds', hl', f1, f2⟩ := HFin.out w8 y y8 hq8 hy hy8)
      all_goals (clear HK HK2 HG HFin HP HSZ k1 k2)
      all_goals (go_wp2_with fail)
      all_goals (exact bodyPost_ret (v := .agg #[.int .i64 n, .slice (some ⟨gb, 0, none⟩) len cap]) (by simp [results, Try.results25, go_sem, r3, r4]) rfl ⟨_, rfl, ⟨n, _, _, rfl, by unfold I64; omega, hl', f1⟩, f2⟩)
    · have b1 : (x4 == 1) = false := by simpa using e1
      by_cases e2 : x4 = 2
      · subst e2
        have hO3 := OwnR.alloc stable_ints (OwnR.dr stable_ints HO.out hd3 hg0 hg0) (.cells #[.int .i64 0] 2)
        have hu := ints_one w3 0 2 (by unfold I64; omega)
        have hd5 := hd3.alloc (.cells #[.int .i64 0] 2)
        have hs5 : (w3.alloc (.cells #[.int .i64 0] 2)).heap.size = w3.heap.size + 1 := by simp
        obtain ⟨gb, n', cap', u0, he, hn', -, hgb, hgb', hc0, hf0⟩ := OwnR.elem hO3 (k := 0) (by omega)
        injection he with he1 he2 he3
        subst he1; subst he2; subst he3
        clear hn'
        have hgb1 : gb < w1.heap.size := HBk.out gb rfl
        have hpos : 0 < len := by have := Hlen.out; omega
        have hO9 := OwnR.reads (OwnR.put stable_ints hO3 0 (some ⟨w3.heap.size, 0, none⟩, 1, 1) [0] hu (fun j hj => by have h1 := hj.1; have h2 := hj.2; simp only at h1 h2; refine ⟨by omega, by simpa using h2, by omega⟩)) (Nat.le_refl _)
        obtain ⟨q1, q2, q3, q4⟩ := HR.out _ (hr1.trans hd5)
        obtain ⟨p1, p2, p3, p4⟩ := HX.out _ hd5
        obtain ⟨p5, p6, -, -⟩ := HX.out _ hd3
        have hdP : Dr g w ((w3.alloc (.cells #[.int .i64 0] 2)).setCell ⟨gb, 0, none⟩ (slV (some ⟨w3.heap.size, 0, none⟩, 1, 1))) :=
          HZ.out.trans (((HW.out.trans hr1).trans hd5).put (p := ⟨gb, 0, none⟩) hgb _)
        have r1 : ((w3.alloc (.cells #[.int .i64 0] 2)).setCell ⟨gb, 0, none⟩ (.slice (some ⟨w3.heap.size, 0, none⟩) 1 1)).cell? ⟨w1.heap.size, 0, none⟩ = some (.int .i64 n) := by rw [World.cell?_setCell_other _ _ _ _ (by intro e; injection e with e _ _; omega)]; exact p1
        have r2 : ((w3.alloc (.cells #[.int .i64 0] 2)).setCell ⟨gb, 0, none⟩ (.slice (some ⟨w3.heap.size, 0, none⟩) 1 1)).cell? ⟨w1.heap.size, 1, none⟩ = some (.slice (some ⟨gb, 0, none⟩) len cap) := by rw [World.cell?_setCell_other _ _ _ _ (by intro e; injection e with e _ _; omega)]; exact p2
        have r3 : ((w3.alloc (.cells #[.int .i64 0] 2)).setCell ⟨gb, 0, none⟩ (.slice (some ⟨w3.heap.size, 0, none⟩) 1 1)).cell? ⟨w.heap.size, 0, none⟩ = some (.int .i64 0) := by rw [World.cell?_setCell_other _ _ _ _ (by intro e; injection e with e _ _; omega)]; exact q1
        have r4 : ((w3.alloc (.cells #[.int .i64 0] 2)).setCell ⟨gb, 0, none⟩ (.slice (some ⟨w3.heap.size, 0, none⟩) 1 1)).cell? ⟨w.heap.size, 1, none⟩ = some (.slice none 0 0) := by rw [World.cell?_setCell_other _ _ _ _ (by intro e; injection e with e _ _; omega)]; exact q2
        have r5 : ((w3.alloc (.cells #[.int .i64 0] 2)).setCell ⟨gb, 0, none⟩ (.slice (some ⟨w3.heap.size, 0, none⟩) 1 1)).frozen? ⟨w.heap.size, 0, none⟩ = false := by rw [World.frozen?_setCell]; exact q3
        have r6 : ((w3.alloc (.cells #[.int .i64 0] 2)).setCell ⟨gb, 0, none⟩ (.slice (some ⟨w3.heap.size, 0, none⟩) 1 1)).frozen? ⟨w.heap.size, 1, none⟩ = false := by rw [World.frozen?_setCell]; exact q4
        obtain ⟨f1, f2⟩ := room_fin hdP hO9 (by omega) (Nat.le_refl _) (.int .i64 n) (.slice (some ⟨gb, 0, none⟩) len cap)
        have HF1 := Lib.hid f1
        have HF2 := Lib.hid f2
        clear f1 f2 hdP hO9 hO3 hu hrw3 q1 q2 q3 q4 HO
        go_wp2_with fail
        exact bodyPost_ret (v := .agg #[.int .i64 n, .slice (some ⟨gb, 0, none⟩) len cap]) (by simp [results, Try.results25, go_sem, r3, r4]) rfl ⟨_, rfl, ⟨n, _, _, rfl, by unfold I64; omega, by simp; omega, HF1.out⟩, HF2.out⟩
      · have b2 : (x4 == 2) = false := by simpa using e2
        by_cases e3 : x4 = 3
        · subst e3
          have hO3 := OwnR.dr stable_ints HO.out hd3 hg0 hg0
          have hdb := (HW.out.trans hr1).trans hd3
          obtain ⟨p1, p2, p3, p4⟩ := HX.out _ hd3
          have hblk : ∀ k, (Value.slice a len cap).ownBlock = some k → k ≠ w1.heap.size := fun k hk => by have := HBk.out k hk; omega
          have hl0 : ds.length ≤ 13 := by omega
          have hs0 : w0.heap.size ≤ w1.heap.size := HW.out.size
          go_wp2_with fail
          go_loopw [4] (fun s4 wr => ∃ (yss : List (List Int)), yss.length ≤ 13 ∧ OwnR false w0.heap.size IntsR 29 w0.heap.size wr s4 yss ∧ Dr g w0 wr ∧ wr.cell? ⟨w1.heap.size, 0, none⟩ = some (.int .i64 n) ∧ w1.heap.size < wr.heap.size ∧ ∀ k, s4.ownBlock = some k → k ≠ w1.heap.size) (fun s4 _ => 13 - drawLen s4)
          case atStart => exact ⟨ds, hl0, hO3, hdb, p1, by omega, hblk⟩
          case round =>
            obtain ⟨yss, hy, ho, hd, hx0, hxs, hbk⟩ := hrel
            clear hO3 hdb p1 p2 p3 p4 hblk HRows hrw3
            obtain ⟨a5, n5, c5, rfl, hn5, -⟩ := OwnA.shape ho
            have HN5 := Lib.hid hn5
            clear hn5
            have hcall := l01Next_c _ g hd.src 2 (by unfold I64; omega)
            go_wp2_with fail
            refine Calls.mono hcall ?_
            rintro e w5 ⟨_, rfl, ⟨y, rfl, hy0, hy1⟩, hd7⟩
            have ho7 := OwnR.dr stable_ints ho hd7 hg0 hg0
            have hd8 := hd.trans hd7
            have hs5 : w0.heap.size ≤ w5.heap.size := hd8.size
            have hx5 : w5.cell? ⟨w1.heap.size, 0, none⟩ = some (.int .i64 n) := hd7.cell hx0 (by show w1.heap.size ≠ g; omega)
            have hxs5 : w1.heap.size < w5.heap.size := Nat.lt_of_lt_of_le hxs hd7.size
            have Hbk := Lib.hid hbk
            clear hcall ho hd hd7 hx0 hbk
            by_cases hlt5 : (n5 : Int) < 12 + y
            · have HV : Hid (∀ k, (Value.slice a5 n5 c5).ownBlock = some k → k < w5.heap.size) := fun k hk => (OwnA.block ho7 k hk).2
              have hown5 := OwnR.alloc stable_ints ho7 (.cells #[.int .i64 0, .int .i64 1] 2)
              have hd6 := hd8.alloc (.cells #[.int .i64 0, .int .i64 1] 2)
              have hu := OwnP.ints (OwnP.lit (f := Value.int .i64) (e := 2) (B := w5.heap.size) (Nat.le_refl _) [0, 1] #[.int .i64 0, .int .i64 1] rfl (by simp [maxLen])) (by simp [I64]) (Nat.le_refl _)
              have hy60 : yss.length ≤ 12 := by have := HN5.out; omega
              have HX5 : Hid ((w5.alloc (.cells #[.int .i64 0, .int .i64 1] 2)).cell? ⟨w1.heap.size, 0, none⟩ = some (.int .i64 n)) := (hd6.grown.block 0 |> fun _ => ((Below.refl w5.heap.size w5).alloc (Nat.le_refl _) _).cell (p := ⟨w1.heap.size, 0, none⟩) hxs5).trans hx5
              go_wp2_with (at_builtin; (refine wpList_drawRowG (v := Value.slice a5 n5 c5) (g := g) (w0 := w0) stable_ints slRepr_slice rfl _ _ 24 rfl Try.underlying24 Try.infoInts rfl hown5 (some ⟨w5.heap.size, 0, none⟩, 2, 2) _ hu (by simp) rfl (by omega) hs5 (by simp) HV.out hd6 (Nat.le_refl _) ?_); intro v8 w8 hown8 hd8' hs8 hg8 hb8; obtain ⟨a8, n8, c8, rfl, hn8, -⟩ := OwnA.shape hown8; have HN8 := Lib.hid hn8; have HG8 := Lib.hid hg8; have HB8 := Lib.hid hb8; clear hn8 hg8 hb8)
              go_wp2_with fail
              have hl8 := HN5.out
              have hm8 := HN8.out
              rw [List.length_append, List.length_singleton] at hm8
              have hz5 : (w5.alloc (.cells #[.int .i64 0, .int .i64 1] 2)).heap.size = w5.heap.size + 1 := by simp
              refine ⟨⟨_, by simp; omega, hown8, hd8', HG8.out.cell HX5.out (fun e => Hbk.out _ e.symm rfl), by omega, fun k hk => ?_⟩, by simp only [drawLen]; omega⟩
              rcases HB8.out k hk with h | h
              · exact Hbk.out k h
              · omega
            · have hR5 := OwnR.reads ho7 (Nat.le_refl _)
              obtain ⟨q1, q2, q3, q4⟩ := HR0.out _ hd8
              obtain ⟨f1, f2⟩ := room_fin (HZ.out.trans hd8) hR5 (by omega) (Nat.le_refl _) (.int .i64 n) (.slice a5 n5 c5)
              go_wp2_with fail
              exact bodyPost_ret (v := .agg #[.int .i64 n, .slice a5 n5 c5]) (by simp [results, Try.results25, go_sem, q1, q2]) rfl ⟨_, rfl, ⟨n, _, yss, rfl, by unfold I64; omega, hy, f1⟩, f2⟩
        · have b3 : (x4 == 3) = false := by simpa using e3
          by_cases e4 : x4 = 4
          · subst e4
            have hr3 : Dr g w3 w3 := Dr.refl hd3.src
            have o1 : OwnR false w3.heap.size IntsR 29 w3.heap.size (w3.alloc (.cells #[] 29)) (.slice (some ⟨w3.heap.size, 0, none⟩) 0 0) [] := OwnR.empty (Nat.le_refl _)
            have d1 : Dr g w3 (w3.alloc (.cells #[] 29)) := hr3.alloc _
            have hg3 : g < w3.heap.size := by omega
            have HD4 := Lib.hid hd4
            have HD2 := Lib.hid hd2
            clear HRows hrw3 HO
            go_wp2_with fail
            generalize w3.alloc (.cells #[] 29) = w4 at *
            go_loopw [5, 6] (fun s5 s6 wr => ∃ (j : Nat) (yss : List (List Int)), s6 = .int .i64 j ∧ j ≤ 12 ∧ yss.length = j ∧ OwnR false w3.heap.size IntsR 29 w3.heap.size wr s5 yss ∧ Dr g w3 wr) (fun _ s6 _ => 12 - (intOf s6).toNat)
            case atStart => exact ⟨0, [], rfl, by omega, rfl, o1, d1⟩
            case round =>
              obtain ⟨j, yss, rfl, hj, hyl, ho, hd⟩ := hrel
              clear o1 d1
              obtain ⟨a5, n5, c5, rfl, hn5, -⟩ := OwnA.shape ho
              have HN5 := Lib.hid hn5
              clear hn5
              by_cases hj12 : j < 12
              · have HV : Hid (∀ k, (Value.slice a5 n5 c5).ownBlock = some k → k < wr.heap.size) := fun k hk => (OwnA.block ho k hk).2
                have hown5 := OwnR.alloc stable_ints ho (.cells #[.int .i64 ((j : Int) % 3), .int .i64 ((j : Int) % 3 + 1)] 2)
                have hd6 := hd.alloc (.cells #[.int .i64 ((j : Int) % 3), .int .i64 ((j : Int) % 3 + 1)] 2)
                have hu := OwnP.ints (OwnP.lit (f := Value.int .i64) (e := 2) (B := wr.heap.size) (Nat.le_refl _) [(j : Int) % 3, (j : Int) % 3 + 1] #[.int .i64 ((j : Int) % 3), .int .i64 ((j : Int) % 3 + 1)] rfl (by simp [maxLen])) (by simp only [List.mem_cons, List.not_mem_nil, or_false]; unfold I64; omega) (Nat.le_refl _)
                have hs5 := hd.size
                have hy12 : yss.length ≤ 1000000 := by omega
                go_wp2_with (at_builtin; (refine wpList_drawRow (v := Value.slice a5 n5 c5) (g := g) (w0 := w3) stable_ints slRepr_slice rfl _ _ 24 rfl Try.underlying24 Try.infoInts rfl hown5 (some ⟨wr.heap.size, 0, none⟩, 2, 2) _ hu (by simp) rfl hy12 hs5 (by simp) HV.out hd6 (Nat.le_refl _) ?_); intro v8 w8 hown8 hd8' hs8)
                go_wp2_with fail
                exact ⟨⟨j + 1, _, by go_num, by omega, by simp; omega, hown8, hd8'⟩, by simp [intOf]; omega⟩
              · have hR5 := OwnR.reads ho (Nat.le_refl _)
                obtain ⟨q1, q2, q3, q4⟩ := HR.out _ (HD4.out.trans hd)
                obtain ⟨f1, f2⟩ := room_fin (HD2.out.trans (HD4.out.trans hd)) hR5 (by omega) (Nat.le_refl _) (.int .i64 4) (.slice a5 n5 c5)
                go_wp2_with fail
                exact bodyPost_ret (v := .agg #[.int .i64 4, .slice a5 n5 c5]) (by simp [results, Try.results25, go_sem, q1, q2]) rfl ⟨_, rfl, ⟨4, _, yss, rfl, by unfold I64; omega, by omega, f1⟩, f2⟩
          · have b4 : (x4 == 4) = false := by simpa using e4
            obtain ⟨q1, q2, q3, q4⟩ := HR.out w3 hd4
            obtain ⟨p1, p2, p3, p4⟩ := HX.out w3 hd3
            go_wp2_with fail
            obtain ⟨f1, f2⟩ := room_fin (hd2.trans hd4) hrw3 (by omega) (by omega) (.int .i64 n) (.slice a len cap)
            exact bodyPost_ret (v := .agg #[.int .i64 n, .slice a len cap]) (by simp [results, Try.results25, go_sem, q1, q2]) rfl ⟨_, rfl, ⟨n, _, ds, rfl, by unfold I64; omega, by have := Hlen.out; omega, f1⟩, f2⟩
end Go.Proofs.Ytbkijealdjghgaa
