/- Proved: a system that a function hands back: its cell, and an append of what is read. -/
import Derived.Test.YtnndaboaeijbkaaDoorUSys
import Derived.Test.YtnndaboaeijbkaaDoorUAppend1
namespace Go.Proofs.YtnndaboaeijbkaaDoor
open Go.ChangeShapes Go.WideShapes Go.ChangeAt Go.RowKit
set_option linter.unusedVariables false

def noSys : MK := ⟨0, 0, 0, 0, 0⟩
/-- a result's cell for a system, still empty -/
structure ResAt (w : World) (b : Nat) : Prop where
  c0 : w.cell? ⟨b, 0, none⟩ = some (.int .i64 0)
  c1 : w.cell? ⟨b, 1, none⟩ = some (.int .i64 0)
  c2 : w.cell? ⟨b, 2, none⟩ = some (.int .i64 0)
  c3 : w.cell? ⟨b, 3, none⟩ = some (.int .i64 0)
  c4 : w.cell? ⟨b, 4, none⟩ = some (.int .i64 0)
  c5 : w.cell? ⟨b, 5, none⟩ = some (.slice none 0 0)
  f0 : w.frozen? ⟨b, 0, none⟩ = false
  f1 : w.frozen? ⟨b, 1, none⟩ = false
  f2 : w.frozen? ⟨b, 2, none⟩ = false
  f3 : w.frozen? ⟨b, 3, none⟩ = false
  f4 : w.frozen? ⟨b, 4, none⟩ = false
  f5 : w.frozen? ⟨b, 5, none⟩ = false
theorem ResAt.lt {w : World} {b : Nat} (h : ResAt w b) : b < w.heap.size := World.block_lt_of_cell? _ _ h.c0
theorem ResAt.of {w w' : World} {b : Nat} (h : ResAt w b) (hb : w'.heap[b]? = w.heap[b]?) : ResAt w' b :=
  ⟨(World.cell?_of_block hb).trans h.c0, (World.cell?_of_block hb).trans h.c1, (World.cell?_of_block hb).trans h.c2, (World.cell?_of_block hb).trans h.c3, (World.cell?_of_block hb).trans h.c4, (World.cell?_of_block hb).trans h.c5,
   (World.frozen?_of_block hb).trans h.f0, (World.frozen?_of_block hb).trans h.f1, (World.frozen?_of_block hb).trans h.f2, (World.frozen?_of_block hb).trans h.f3, (World.frozen?_of_block hb).trans h.f4, (World.frozen?_of_block hb).trans h.f5⟩
theorem ResAt.ext {w w' : World} {b : Nat} (h : ResAt w b) (e : Ext w w') : ResAt w' b := h.of (Below.block e b h.lt)
theorem SysAt.of {w w' : World} {b : Nat} {mk : MK} {u : Value} (h : SysAt w b mk u) (hb : w'.heap[b]? = w.heap[b]?) : SysAt w' b mk u :=
  ⟨(World.cell?_of_block hb).trans h.c0, (World.cell?_of_block hb).trans h.c1, (World.cell?_of_block hb).trans h.c2, (World.cell?_of_block hb).trans h.c3, (World.cell?_of_block hb).trans h.c4, (World.cell?_of_block hb).trans h.c5⟩
theorem res_new (w : World) (t : TypeId) : ResAt (w.alloc (.cells #[.int .i64 0, .int .i64 0, .int .i64 0, .int .i64 0, .int .i64 0, .slice none 0 0] t)) w.heap.size :=
  ⟨by simp, by simp, by simp, by simp, by simp, by simp, by simp, by simp, by simp, by simp, by simp, by simp⟩
/-- the box of a system and the result's cell -/
theorem two_box {w w1 : World} {mk : MK} {u : Value} {t t' : TypeId} (h : (w.alloc (.cells #[.int .i64 mk.c, .int .i64 mk.d, .int .i64 mk.s, .int .i64 mk.m, .int .i64 mk.l, u] t)).alloc (.cells #[.int .i64 0, .int .i64 0, .int .i64 0, .int .i64 0, .int .i64 0, .slice none 0 0] t') = w1) :
    Ext w w1 ∧ SysAt w1 w.heap.size mk u ∧ ResAt w1 (w.heap.size + 1) ∧ w1.heap.size = w.heap.size + 2 := by
  subst h
  obtain ⟨e0, s0⟩ := sys_box (w := w) (mk := mk) (u := u) (t := t) rfl
  refine ⟨e0.trans (Ext.alloc _ _), s0.ext (Ext.alloc _ _), ?_, by simp⟩
  have := res_new (w.alloc (.cells #[.int .i64 mk.c, .int .i64 mk.d, .int .i64 mk.s, .int .i64 mk.m, .int .i64 mk.l, u] t)) t'
  rwa [World.size_alloc] at this
theorem setCells6 {w w' : World} {b : Nat} {d0 d1 d2 d3 d4 d5 x0 x1 x2 x3 x4 x5 : Value}
    (h : (((((w.setCell ⟨b, 0, none⟩ x0).setCell ⟨b, 1, none⟩ x1).setCell ⟨b, 2, none⟩ x2).setCell ⟨b, 3, none⟩ x3).setCell ⟨b, 4, none⟩ x4).setCell ⟨b, 5, none⟩ x5 = w')
    (c0 : w.cell? ⟨b, 0, none⟩ = some d0) (c1 : w.cell? ⟨b, 1, none⟩ = some d1) (c2 : w.cell? ⟨b, 2, none⟩ = some d2) (c3 : w.cell? ⟨b, 3, none⟩ = some d3) (c4 : w.cell? ⟨b, 4, none⟩ = some d4) (c5 : w.cell? ⟨b, 5, none⟩ = some d5) :
    Within ⟨b, b + 1, true⟩ w w' ∧ w'.cell? ⟨b, 0, none⟩ = some x0 ∧ w'.cell? ⟨b, 1, none⟩ = some x1 ∧ w'.cell? ⟨b, 2, none⟩ = some x2 ∧ w'.cell? ⟨b, 3, none⟩ = some x3 ∧ w'.cell? ⟨b, 4, none⟩ = some x4 ∧ w'.cell? ⟨b, 5, none⟩ = some x5 := by
  subst h
  refine ⟨?_, ?_, ?_, ?_, ?_, ?_, ?_⟩
  · exact ((((((Within.refl _ w).setCell ⟨Nat.le_refl _, Nat.lt_succ_self _⟩ _).setCell ⟨Nat.le_refl _, Nat.lt_succ_self _⟩ _).setCell ⟨Nat.le_refl _, Nat.lt_succ_self _⟩ _).setCell ⟨Nat.le_refl _, Nat.lt_succ_self _⟩ _).setCell ⟨Nat.le_refl _, Nat.lt_succ_self _⟩ _).setCell ⟨Nat.le_refl _, Nat.lt_succ_self _⟩ _
  all_goals go_simp
theorem setCells6g {w w' : World} {b : Nat} {d0 d1 d2 d3 d4 d5 x0 x1 x2 x3 x4 x5 : Value}
    (h : (((((w.setCell ⟨b, 0, none⟩ x0).setCell ⟨b, 1, none⟩ x1).setCell ⟨b, 2, none⟩ x2).setCell ⟨b, 3, none⟩ x3).setCell ⟨b, 4, none⟩ x4).setCell ⟨b, 5, none⟩ x5 = w')
    (c0 : w.cell? ⟨b, 0, none⟩ = some d0) (c1 : w.cell? ⟨b, 1, none⟩ = some d1) (c2 : w.cell? ⟨b, 2, none⟩ = some d2) (c3 : w.cell? ⟨b, 3, none⟩ = some d3) (c4 : w.cell? ⟨b, 4, none⟩ = some d4) (c5 : w.cell? ⟨b, 5, none⟩ = some d5) {a : World} (ha : a.heap.size ≤ b) (hb : Ext a w) : Ext a w' :=
  Below.trans hb ((setCells6 h c0 c1 c2 c3 c4 c5).1.below (by simpa using ha))
/-- what a function hands back: a system and a code -/
def SysRes (w : World) (x : (MK × List (List Int)) × Int) (r : Value) (w' : World) : Prop := ∃ u, r = .tuple #[sysV x.1.1 u, .int .i64 x.2] ∧ RowsR (.new w w') w' u x.1.2
theorem SysRes.bad {w w' : World} {x : (MK × List (List Int)) × Int} {c : Int} (h : x = ((noSys, []), c)) : SysRes w x (.tuple #[sysV noSys (.slice none 0 0), .int .i64 c]) w' := by
  subst h; exact ⟨_, rfl, SliceR.nil _ _ _⟩
/-- 'append(s, x...)', s of the call's own, x any slice that reads as ys -/
theorem run_appendR {α : Type} {f : α → Value} {e : TypeId} {B : Nat} {w : World} {v : Value} {xs : List α} {P : Program} (t ty : TypeId) (x0 : α) (bytes : Nat) (ht : P.underlying t = some (.slice e)) (hinfo : (P.info? e).map (fun i => (i.zero, i.size, i.bytes)) = some (some (f x0), 1, bytes))
    (hcell : (f x0).cells = #[f x0]) (h1 : ∀ x, (f x).oneCell' = true) (hown : OwnP f e B w v xs)
    {E : Repr α} (hE : ∀ {z w u x}, E z w u x → u = f x) {z : Zone} {xv : Value} {ys : List α} (hr : SliceR E z w xv ys)
    (hn : xs.length + ys.length ≤ 1099511627776) (hby : bytes ≤ 64) (hB : B ≤ w.heap.size) :
    ∃ v' w', (Builtin.append_ #[t, t] ty #[v, xv]).run P w = .ok v' w' ∧ (OwnP f e B w' v' (xs ++ ys) ∧ w.grownBy w' v.ownBlock ∧ Below B w w' ∧ ∀ k, v'.ownBlock = some k → v.ownBlock = some k ∨ w.heap.size ≤ k) := by
  obtain ⟨i, hi, hz0, hz1, hz2⟩ := info_parts hinfo
  obtain ⟨ad, n, cap, rfl, hn', -, hcap, hmax, hnone, hel⟩ := SliceR.shape hr
  cases ad with
  | none =>
    obtain ⟨rfl, rfl⟩ := hnone rfl
    obtain rfl : ys = [] := List.eq_nil_of_length_eq_zero hn'.symm
    have hrun := run_append_owned_none (P := P) w B t ty e i 1 ht hi _ _ _ hown
    exact ⟨v, w, hrun, by simpa using hown, World.grownBy.refl _ _, Below.refl _ _, fun k hk => .inl hk⟩
  | some ad =>
    subst hn'
    have hbb : (xs.length + ys.length) * bytes ≤ 140737488355328 := Nat.le_trans (Nat.mul_le_mul hn hby) (by omega)
    obtain ⟨v', w', hrun, hv', hg, -, hat⟩ := run_append_own_at (P := P) (w := w) B t ty e i (f x0) 1 bytes ht hi hz0 hz1 hz2 (by rw [hcell]; rfl) (by omega) v xs.length (xs.map f) hown ad ys.length cap (ys.map f) (by simp)
      (fun j u hu => by
        rw [List.getElem?_map] at hu
        obtain ⟨y, hy, rfl⟩ := Option.map_eq_some_iff.1 hu
        obtain ⟨hj, rfl⟩ := List.getElem?_eq_some_iff.1 hy
        obtain ⟨b, off, he, _, _, _, u, y, hc, _, _, hu⟩ := hel j hj
        injection he with he
        subst he
        rw [Addr.add_lit, hc, hE hu])
      (fun u hu => by
        obtain ⟨y, _, rfl⟩ := List.mem_map.1 hu
        exact h1 y) (by unfold maxLen; omega) hbb hB
    refine ⟨v', w', hrun, ?_, hg, (Below.refl _ _).grown hg hB (fun k hk => (hown.block k hk).1), fun k hk => ?_⟩
    · unfold OwnP
      rw [List.length_append, List.map_append]
      exact hv'
    · rcases hat with hat | hat
      · exact .inl (hat ▸ hk)
      · right; rw [hat] at hk; injection hk with hk; omega
/-- 'append(out, row)', both of the call's own -/
theorem run_rowA {P : Program} {e e2 : TypeId} {B L : Nat} {wr w : World} {v : Value} {us : List (List Int)} (t ty : TypeId) (ht : P.underlying t = some (.slice e)) (hinfo : (P.info? e).map (fun i => (i.zero, i.size, i.bytes)) = some (some (.slice Option.none 0 0), 1, 24))
    (hown : OwnR true L IntsR e B wr v us) (hb : Ext wr w) {a : Option Addr} {n c : Nat} {row : List Int} (o : OwnP (Value.int .i64) e2 wr.heap.size w (.slice a n c) row) (hm : ∀ x ∈ row, I64 x) {g : Nat} (hg : w.heap.size = g)
    (hn : us.length + 1 ≤ 1099511627776) (hL : L ≤ wr.heap.size) (hB : B ≤ wr.heap.size) :
    ∃ v' w', (Builtin.append_ #[t, t] ty #[v, .slice (some ⟨g, 0, Option.none⟩) 1 1]).run P (w.alloc (.cells #[.slice a n c] e)) = .ok v' w' ∧ (OwnR true L IntsR e B w' v' (us ++ [row]) ∧ Below B wr w' ∧ ∃ a2 n2 c2, v' = .slice a2 n2 c2 ∧ n2 = us.length + 1) := by
  obtain ⟨v', w', hr, h1, h2, h3, h4, h5⟩ := run_appendRowA (P := P) (ty := ty) stable_ints slRepr_slice t ht hinfo hown hb (u := (a, n, c)) (y := row) (OwnP.ints o hm (Nat.le_refl _)) hg hn (fun k hk => Nat.le_trans hL hk) hB
  obtain ⟨a2, n2, c2, rfl, hl, -⟩ := h1.shape
  exact ⟨_, w', hr, h1, h2, a2, n2, c2, rfl, by simpa using hl⟩
theorem ResAt.fill {w w' : World} {b : Nat} {x0 x1 x2 x3 x4 x5 : Value} (R : ResAt w b)
    (h : (((((w.setCell ⟨b, 0, none⟩ x0).setCell ⟨b, 1, none⟩ x1).setCell ⟨b, 2, none⟩ x2).setCell ⟨b, 3, none⟩ x3).setCell ⟨b, 4, none⟩ x4).setCell ⟨b, 5, none⟩ x5 = w') :
    Within ⟨b, b + 1, true⟩ w w' ∧ w'.cell? ⟨b, 0, none⟩ = some x0 ∧ w'.cell? ⟨b, 1, none⟩ = some x1 ∧ w'.cell? ⟨b, 2, none⟩ = some x2 ∧ w'.cell? ⟨b, 3, none⟩ = some x3 ∧ w'.cell? ⟨b, 4, none⟩ = some x4 ∧ w'.cell? ⟨b, 5, none⟩ = some x5 := setCells6 h R.c0 R.c1 R.c2 R.c3 R.c4 R.c5
theorem ResAt.drewN {w : World} {b : Nat} (R : ResAt w b) (n : Nat) : ResAt (w.drewN n) b := R.ext (Ext.drewN _ _)
theorem Within.above {a w w' : World} {b : Nat} (h : Within ⟨b, b + 1, true⟩ w w') (ha : a.heap.size ≤ b) (e : Ext a w) : Ext a w' := Below.trans e (h.below ha)
end Go.Proofs.YtnndaboaeijbkaaDoor
