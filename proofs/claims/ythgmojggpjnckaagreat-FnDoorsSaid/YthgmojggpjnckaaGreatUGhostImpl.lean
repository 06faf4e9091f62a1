/- Proved: the program's visit of the keys that are not cut: one more ghost for each door that a key opens. -/
import Derived.Test.YthgmojggpjnckaaGreatChecked
import Derived.Deep.RegionHeld3
import Derived.Laws.EntriesVeiled
import Derived.Test.YthgmojggpjnckaaGreatUGhostLaw
import Derived.Test.YthgmojggpjnckaaGreatUDiffRows
import Derived.Test.YthgmojggpjnckaaGreatUEachKept
namespace Go.Proofs.YthgmojggpjnckaaGreat
open Go.ChangeShapes Go.WideShapes Go.ChangeAt Go.RowKit
set_option linter.unusedVariables false

theorem Tryz.goesGhost1 : Goes Tryz.prog 96 := goes_of Tryz.func96 (by kernel_rfl) (by kernel_rfl)
theorem Tryz.goesOutsider1 : Goes Tryz.prog 128 := goes_of Tryz.func128 (by kernel_rfl) (by kernel_rfl)
theorem wrapG_i64 (x : Int) : I64 (IntKind.i64.wrap x) := by
  rw [IntKind.wrap_i64]; unfold I64; omega
theorem bumpG_i64 {l : List Int} (h : ∀ x ∈ l, I64 x) (d : Int) : ∀ x ∈ bumpG l d, I64 x := fun x hx => by
  unfold bumpG at hx
  rcases List.mem_or_eq_of_mem_set hx with h1 | h1
  · exact h x h1
  · rw [h1]; exact wrapG_i64 _
theorem bumps_i64 {s : List Int} (h : ∀ x ∈ s, I64 x) (ds : List Int) (n : Nat) : ∀ x ∈ bumps s ds n, I64 x := by
  unfold bumps
  generalize ds.take n = l
  induction l generalizing s with
  | nil => exact h
  | cons a l ih => rw [List.foldl_cons]; exact ih (bumpG_i64 h a)
theorem OwnP.keepG {α : Type} {f : α → Value} {e : TypeId} {B g n cap : Nat} {w w' : World} {xs : List α} (h : OwnP f e B w (.slice (some ⟨g, 0, Option.none⟩) n cap) xs) (hb : w'.heap[g]? = w.heap[g]?) : OwnP f e B w' (.slice (some ⟨g, 0, Option.none⟩) n cap) xs := by
  obtain ⟨h1, h2⟩ := h
  refine ⟨h1, ?_⟩
  rcases h2 with ⟨h2, -⟩ | ⟨g', cap', cur, hv, hbg, hg, r⟩
  · cases h2
  · have : g = g' := by injection hv with e1 _ _; injection e1 with e1; injection e1
    subst this
    exact .inr ⟨g, cap', cur, hv, hbg, by rw [hb]; exact hg, r⟩
theorem OwnP.cellG {e : TypeId} {B g n cap : Nat} {w : World} {xs : List Int} (h : OwnP (Value.int .i64) e B w (.slice (some ⟨g, 0, Option.none⟩) n cap) xs) {k : Nat} (hk : k < n) : w.cell? ⟨g, k, Option.none⟩ = some (.int .i64 (xs.getD k 0)) ∧ w.frozen? ⟨g, k, Option.none⟩ = false := by
  obtain ⟨h1, h2, h3⟩ := h.at hk
  exact ⟨by rw [h2]; simp [h1], h3⟩
/-- the counters: a box b with a row g of n numbers -/
structure GAt (b g n : Nat) (F : Nat → Prop) (s : List Int) (w : World) : Prop where
  cell : w.cell? ⟨b, 0, none⟩ = some (.slice (some ⟨g, 0, none⟩) n n)
  own : OwnP (Value.int .i64) 2 0 w (.slice (some ⟨g, 0, none⟩) n n) s
  i64 : ∀ x ∈ s, I64 x
  box : F b ∧ F g ∧ b ≠ g
  lt : ∀ k, F k → k < w.heap.size
theorem GAt.len {b g n : Nat} {F : Nat → Prop} {s : List Int} {w : World} (h : GAt b g n F s w) : s.length = n := h.own.len.symm
theorem GAt.keep {b g n : Nat} {F : Nat → Prop} {s : List Int} {w w' : World} (h : GAt b g n F s w) (hb : ∀ k, F k → w'.heap[k]? = w.heap[k]?) (hs : w.heap.size ≤ w'.heap.size) : GAt b g n F s w' :=
  ⟨(World.cell?_of_block (a := ⟨b, 0, none⟩) (hb b h.box.1)).trans h.cell, h.own.keepG (hb g h.box.2.1), h.i64, h.box, fun k hk => Nat.lt_of_lt_of_le (h.lt k hk) hs⟩
theorem GAt.put {b g n : Nat} {F : Nat → Prop} {s : List Int} {w : World} (h : GAt b g n F s w) (d : Nat) : GAt b g n F (bumpG s (d : Int)) (w.setCell ⟨g, d, none⟩ (.int .i64 (IntKind.i64.wrap (s.getD d 0 + 1)))) ∧ Frame F w (w.setCell ⟨g, d, none⟩ (.int .i64 (IntKind.i64.wrap (s.getD d 0 + 1)))) := by
  have hsz : (w.setCell ⟨g, d, none⟩ (.int .i64 (IntKind.i64.wrap (s.getD d 0 + 1)))).heap.size = w.heap.size := setCell_size _ _ _
  have hbg := h.box.2.2
  refine ⟨⟨?_, ?_, bumpG_i64 h.i64 _, h.box, fun k hk => by rw [hsz]; exact h.lt k hk⟩, rfl, rfl, rfl, by omega, fun k hk hn => Below.heap_setCell _ _ _ _ (fun e => hn (e ▸ h.box.2.1))⟩
  · exact (World.cell?_of_block (a := ⟨b, 0, none⟩) (Below.heap_setCell _ _ _ _ hbg)).trans h.cell
  · exact OwnP.store h.own d _

set_option maxRecDepth 20000 in
set_option maxHeartbeats 2000000 in
theorem ghost1_c {b g n : Nat} {F : Nat → Prop} {s : List Int} (w : World) (vk v : Value) (z : Zone) (ds : List Int) (hI : GAt b g n F s w) (hd : IntsR z w v ds) (hz : ∀ k, z.Has k → ¬ F k) (hr : ∀ k, k < ds.length → 0 ≤ ds.getD k 0 ∧ ds.getD k 0 < n) :
    Calls Tryz.prog 96 #[vk, v, .pointer (some ⟨b, 0, none⟩)] w (fun e w' => e = .returned (.bool true) ∧ GAt b g n F (bumps s ds ds.length) w' ∧ Frame F w w') := by
  obtain ⟨a, m, cap, rfl, hm, hmax, -, -, -, -⟩ := IntsR.shape hd
  have HD := Lib.hid hd
  have Hm := Lib.hid hm
  have HR := Lib.hid hr
  have HZ := Lib.hid hz
  have H0 := Lib.hid (bumps_zero s ds)
  have HS := Lib.hid (fun (k : Nat) (hk : k < ds.length) => bumps_succ s ds hk)
  have HI := Lib.hid hI
  clear hd hm hr hz hI
  generalize hbT : bumps s ds = bT at *
  clear hbT
  go_enter Tryz.func96, Tryz.ntmps96
  go_wp2_with fail
  go_loopw [7, 10] (fun _ s10 wr => ∃ k : Nat, k ≤ m ∧ s10 = .int .i64 k ∧ GAt b g n F (bT k) wr ∧ Frame F w wr) (fun _ s10 _ => m - (intOf s10).toNat)
  case atStart => exact ⟨0, Nat.zero_le _, rfl, by rw [H0.out]; exact HI.out, Frame.refl _ _⟩
  case round =>
    obtain ⟨k, hk, rfl, hG, hF⟩ := hrel
    by_cases hlt : k < m
    · have hkl : k < ds.length := by rw [← Hm.out]; exact hlt
      obtain ⟨q0, q1⟩ := HR.out k hkl
      have HSk := Lib.hid (HS.out k hkl)
      have hdr : IntsR z wr (.slice a m cap) ds := stable_ints.keep HD.out (hF.keep HZ.out)
      obtain ⟨b1, o1, rfl, hi, hc⟩ := ints_at hdr hlt
      have hc' := hc wr (Ext.refl _)
      clear hc hdr
      generalize ds.getD k 0 = d at *
      obtain ⟨dn, rfl⟩ := Int.eq_ofNat_of_zero_le q0
      have hdn : dn < n := by omega
      obtain ⟨g1, g2⟩ := hG.own.cellG hdn
      have hcb := hG.cell
      have HP := hG.put dn
      rw [show IntKind.i64.wrap ((bT k).getD dn 0 + 1) = wrap64 ((bT k).getD dn 0 + 1) by rw [IntKind.wrap_i64]; unfold wrap64; omega] at HP
      replace HP := Lib.hid HP
      have HF2 := Lib.hid hF
      clear hG hF
      generalize bT k = up at *
      generalize up.getD dn 0 = x at *
      go_wp2_with fail
      go_roundw
      case rel => exact ⟨k + 1, by omega, by go_num, by rw [HSk.out]; exact HP.out.1, HF2.out.trans HP.out.2 (fun i hi _ => hi)⟩
      case measure => simp [intOf]; omega
    · have hkm : k = ds.length := by have := Hm.out; omega
      have HG := Lib.hid hG
      have HF2 := Lib.hid hF
      clear hG hF
      go_wp2_with fail
      go_ret
      exact ⟨rfl, by rw [← hkm]; exact HG.out, HF2.out⟩
end Go.Proofs.YthgmojggpjnckaaGreat
