/- Proved: how many pins of each size several locks have (plain). -/
import Derived.Test.YtegmognpofcfiaaGreatUPinsOf
import Derived.Test.YtegmognpofcfiaaGreatUPkA
import Derived.Test.YtegmognpofcfiaaGreatUPkE
namespace Go.Proofs.YtegmognpofcfiaaGreat
open Go.ChangeShapes Go.WideShapes Go.ChangeAt Go.RowKit
set_option linter.unusedVariables false

abbrev S3 : Type := List Int × (List Int × List Int)
def bump (l : List Int) (i : Int) : List Int := l.set i.toNat (IntKind.i64.wrap (l.getD i.toNat 0 + 1))
theorem bump_len (l : List Int) (i : Int) : (bump l i).length = l.length := by simp [bump]
/-- the wafers of a stack, its first n -/
def wafTo (w st : List Int) : Nat → List Int
  | 0 => w
  | n+1 => bump (wafTo w st n) (st.getD (n+1) 0)
def stackS (s : S3) (st : List Int) : S3 := (bump s.1 (st.getD 0 0), (wafTo s.2.1 st (st.length - 2), bump s.2.2 (st.getD (st.length - 1) 0)))
def pinsS (s : S3) (ps : List (List Int)) : Nat → S3
  | 0 => s
  | n+1 => stackS (pinsS s ps n) (ps.getD n [])
def locksS (D : Int) (s : S3) (ls : List (List (List Int))) : Nat → S3
  | 0 => s
  | n+1 => pinsS (locksS D s ls n) (pinsL D (ls.getD n [])) (pinsL D (ls.getD n [])).length
def zeroS (D : Nat) : S3 := (List.replicate D 0, (List.replicate D 0, List.replicate D 0))
def stockL (D : Int) (ls : List (List (List Int))) : S3 := locksS D (zeroS D.toNat) ls ls.length
structure Len3 (D : Nat) (s : S3) : Prop where
  l0 : s.1.length = D
  l1 : s.2.1.length = D
  l2 : s.2.2.length = D
theorem wafTo_len (w st : List Int) (n : Nat) : (wafTo w st n).length = w.length := by
  induction n with
  | zero => rfl
  | succ n ih => show (bump _ _).length = _; rw [bump_len, ih]
theorem Len3.stack {D : Nat} {s : S3} (h : Len3 D s) (st : List Int) : Len3 D (stackS s st) := ⟨by show (bump _ _).length = _; rw [bump_len, h.l0], by show (wafTo _ _ _).length = _; rw [wafTo_len, h.l1], by show (bump _ _).length = _; rw [bump_len, h.l2]⟩
theorem Len3.pins {D : Nat} {s : S3} (h : Len3 D s) (ps : List (List Int)) (n : Nat) : Len3 D (pinsS s ps n) := by
  induction n with
  | zero => exact h
  | succ n ih => exact ih.stack _
theorem Len3.locks {D : Nat} {E : Int} {s : S3} (h : Len3 D s) (ls : List (List (List Int))) (n : Nat) : Len3 D (locksS E s ls n) := by
  induction n with
  | zero => exact h
  | succ n ih => exact ih.pins _ _
theorem Len3.zero (D : Nat) : Len3 D (zeroS D) := ⟨by simp [zeroS], by simp [zeroS], by simp [zeroS]⟩
theorem wrap_i64 (x : Int) : I64 (IntKind.i64.wrap x) := by
  rw [IntKind.wrap_i64]; unfold I64; omega
def Wide (l : List Int) : Prop := ∀ x ∈ l, I64 x
theorem Wide.bump {l : List Int} (h : Wide l) (i : Int) : Wide (bump l i) := by
  intro x hx
  unfold Go.Proofs.YtegmognpofcfiaaGreat.bump at hx
  rcases List.mem_or_eq_of_mem_set hx with h1 | h1
  · exact h x h1
  · rw [h1]; exact wrap_i64 _
theorem Wide.waf {w : List Int} (h : Wide w) (st : List Int) (n : Nat) : Wide (wafTo w st n) := by
  induction n with
  | zero => exact h
  | succ n ih => exact ih.bump _
structure Wide3 (s : S3) : Prop where
  w0 : Wide s.1
  w1 : Wide s.2.1
  w2 : Wide s.2.2
theorem Wide3.stack {s : S3} (h : Wide3 s) (st : List Int) : Wide3 (stackS s st) := ⟨h.w0.bump _, h.w1.waf _ _, h.w2.bump _⟩
theorem Wide3.pins {s : S3} (h : Wide3 s) (ps : List (List Int)) (n : Nat) : Wide3 (pinsS s ps n) := by
  induction n with
  | zero => exact h
  | succ n ih => exact ih.stack _
theorem Wide3.locks {E : Int} {s : S3} (h : Wide3 s) (ls : List (List (List Int))) (n : Nat) : Wide3 (locksS E s ls n) := by
  induction n with
  | zero => exact h
  | succ n ih => exact ih.pins _ _
theorem Wide3.zero (D : Nat) : Wide3 (zeroS D) := by
  have : Wide (List.replicate D 0) := fun x hx => by rw [List.eq_of_mem_replicate hx]; unfold I64; omega
  exact ⟨this, this, this⟩
/-- three lists in rows of their own that do not meet, and a code -/
def Stock3 (w : World) (x : S3) (c : Int) (r : Value) (w' : World) : Prop := ∃ u0 u1 u2 l0 h0 l1 h1 l2 h2, r = .tuple #[u0, u1, u2, .int .i64 c] ∧
  (w.heap.size ≤ l0 ∧ h0 ≤ w'.heap.size ∧ w.heap.size ≤ l1 ∧ h1 ≤ w'.heap.size ∧ w.heap.size ≤ l2 ∧ h2 ≤ w'.heap.size ∧ (h0 ≤ l1 ∨ h1 ≤ l0) ∧ (h0 ≤ l2 ∨ h2 ≤ l0) ∧ (h1 ≤ l2 ∨ h2 ≤ l1)) ∧
  IntsR ⟨l0, h0, true⟩ w' u0 x.1 ∧ IntsR ⟨l1, h1, true⟩ w' u1 x.2.1 ∧ IntsR ⟨l2, h2, true⟩ w' u2 x.2.2
theorem Stock3.none {w w' : World} {c : Int} (hs : w.heap.size ≤ w'.heap.size) : Stock3 w ([], ([], [])) c (.tuple #[.slice none 0 0, .slice none 0 0, .slice none 0 0, .int .i64 c]) w' :=
  ⟨_, _, _, w.heap.size, w.heap.size, w.heap.size, w.heap.size, w.heap.size, w.heap.size, rfl, ⟨Nat.le_refl _, hs, Nat.le_refl _, hs, Nat.le_refl _, hs, .inl (Nat.le_refl _), .inl (Nat.le_refl _), .inl (Nat.le_refl _)⟩, SliceR.nil _ _ _, SliceR.nil _ _ _, SliceR.nil _ _ _⟩
/-- the three rows while they are counted: blocks b, b+1, b+2 in some order -/
structure Rows3 (w : World) (B g0 g1 g2 D : Nat) (s : S3) : Prop where
  o0 : OwnP (Value.int .i64) 2 B w (.slice (some ⟨g0, 0, none⟩) D D) s.1
  o1 : OwnP (Value.int .i64) 2 B w (.slice (some ⟨g1, 0, none⟩) D D) s.2.1
  o2 : OwnP (Value.int .i64) 2 B w (.slice (some ⟨g2, 0, none⟩) D D) s.2.2
theorem Rows3.ext {w w' : World} {B g0 g1 g2 D : Nat} {s : S3} (h : Rows3 w B g0 g1 g2 D s) (e : Ext w w') : Rows3 w' B g0 g1 g2 D s := ⟨h.o0.ext e, h.o1.ext e, h.o2.ext e⟩
theorem OwnP.ofBlock {α : Type} {f : α → Value} {e : TypeId} {B g n cap : Nat} {w w' : World} {xs : List α} (h : OwnP f e B w (.slice (some ⟨g, 0, Option.none⟩) n cap) xs) (hb : w'.heap[g]? = w.heap[g]?) : OwnP f e B w' (.slice (some ⟨g, 0, Option.none⟩) n cap) xs := by
  obtain ⟨h1, h2⟩ := h
  refine ⟨h1, ?_⟩
  rcases h2 with ⟨h2, -⟩ | ⟨g', cap', cur, hv, hbg, hg, r⟩
  · cases h2
  · have : g = g' := by injection hv with e1 _ _; injection e1 with e1; injection e1
    subst this
    exact .inr ⟨g, cap', cur, hv, hbg, by rw [hb]; exact hg, r⟩
theorem set_other {w : World} {g k i : Nat} {u : Value} (h : i ≠ g) : (w.setCell ⟨g, k, none⟩ u).heap[i]? = w.heap[i]? := Below.heap_setCell _ _ _ _ h
theorem Rows3.set0 {w : World} {B g0 g1 g2 D : Nat} {s : S3} (h : Rows3 w B g0 g1 g2 D s) (n1 : g0 ≠ g1) (n2 : g0 ≠ g2) (k : Nat) (x : Int) : Rows3 (w.setCell ⟨g0, k, none⟩ (.int .i64 x)) B g0 g1 g2 D (s.1.set k x, s.2) :=
  ⟨OwnP.store h.o0 k x, h.o1.ofBlock (set_other (Ne.symm n1)), h.o2.ofBlock (set_other (Ne.symm n2))⟩
theorem Rows3.set1 {w : World} {B g0 g1 g2 D : Nat} {s : S3} (h : Rows3 w B g0 g1 g2 D s) (n1 : g0 ≠ g1) (n2 : g1 ≠ g2) (k : Nat) (x : Int) : Rows3 (w.setCell ⟨g1, k, none⟩ (.int .i64 x)) B g0 g1 g2 D (s.1, (s.2.1.set k x, s.2.2)) :=
  ⟨h.o0.ofBlock (set_other n1), OwnP.store h.o1 k x, h.o2.ofBlock (set_other (Ne.symm n2))⟩
theorem Rows3.set2 {w : World} {B g0 g1 g2 D : Nat} {s : S3} (h : Rows3 w B g0 g1 g2 D s) (n1 : g0 ≠ g2) (n2 : g1 ≠ g2) (k : Nat) (x : Int) : Rows3 (w.setCell ⟨g2, k, none⟩ (.int .i64 x)) B g0 g1 g2 D (s.1, (s.2.1, s.2.2.set k x)) :=
  ⟨h.o0.ofBlock (set_other n1), h.o1.ofBlock (set_other n2), OwnP.store h.o2 k x⟩
theorem OwnP.getD {e : TypeId} {B g n cap : Nat} {w : World} {xs : List Int} (h : OwnP (Value.int .i64) e B w (.slice (some ⟨g, 0, Option.none⟩) n cap) xs) {k : Nat} (hk : k < n) : w.cell? ⟨g, k, Option.none⟩ = some (.int .i64 (xs.getD k 0)) ∧ w.frozen? ⟨g, k, Option.none⟩ = false := by
  obtain ⟨h1, h2, h3⟩ := h.at hk
  exact ⟨by rw [h2]; simp [h1], h3⟩
theorem bump_nat (l : List Int) (k : Nat) : bump l (k : Int) = l.set k (IntKind.i64.wrap (l.getD k 0 + 1)) := rfl
theorem getElem_getD0 {xs : List Int} {j : Nat} (h : j < xs.length) : xs[j] = xs.getD j 0 := by simp [h]
/-- element c of a list of lists: its cells, while nothing but a zone apart turns -/
theorem rows_in {z Z : Zone} {w : World} {a : Option Addr} {n cap : Nat} {xss : List (List Int)} (h : RowsR z w (.slice a n cap) xss) (hz : ∀ k, z.Has k → Z.Has k → False) {c : Nat} (hc : c < n) :
    ∃ b off, a = some ⟨b, off, none⟩ ∧ ∃ a1 n1 c1, n1 = (xss.getD c []).length ∧ n1 ≤ c1 ∧ n1 ≤ 9223372036854775807 ∧ (∀ w', Within Z w w' → w'.cell? ⟨b, off + c, none⟩ = some (.slice a1 n1 c1)) ∧
      ∀ j, j < n1 → ∃ b1 o1, a1 = some ⟨b1, o1, none⟩ ∧ ∀ w', Within Z w w' → w'.cell? ⟨b1, o1 + j, none⟩ = some (.int .i64 ((xss.getD c []).getD j 0)) := by
  obtain ⟨a', n', c', he, hn, -, -, -, -, hel⟩ := SliceR.shape h
  injection he with e1 e2 e3
  subst e1; subst e2; subst e3
  obtain ⟨b, off, rfl, hb, -, -, u, y, hcc, hys, -, hu⟩ := hel c (by omega)
  have e0 : xss[c]'(by omega) = xss.getD c [] := by simp [show c < xss.length by omega]
  rw [e0] at hu
  obtain ⟨a1, n1, c1, rfl, hn1, hm1, hcap, -, -, h1⟩ := SliceR.shape hu
  refine ⟨b, off, rfl, a1, n1, c1, hn1, hcap, hm1, fun w' hw => (World.cell?_of_block (a := ⟨b, off + c, none⟩) (hw.block b (fun hZ => hz b hb hZ))).trans hcc, fun j hj => ?_⟩
  obtain ⟨b1, o1, rfl, hb1, -, -, u1, y1, hc1, -, -, rfl, -⟩ := h1 j (by omega)
  refine ⟨b1, o1, rfl, fun w' hw => ?_⟩
  rw [(World.cell?_of_block (a := ⟨b1, o1 + j, none⟩) (hw.block b1 (fun hZ => hz b1 (hys.1 b1 hb1) hZ))).trans hc1]
  exact congrArg (fun x => some (Value.int .i64 x)) (getElem_getD0 _)
theorem OwnP.inOne {B g n cap : Nat} {w : World} {xs : List Int} (h : OwnP (Value.int .i64) 2 B w (.slice (some ⟨g, 0, Option.none⟩) n cap) xs) (hm : Wide xs) : IntsR ⟨g, g + 1, true⟩ w (.slice (some ⟨g, 0, Option.none⟩) n cap) xs :=
  IntsO.ints ⟨hm, h.raise (fun k _ => Nat.zero_le k), fun k hk => by injection hk with hk; subst hk; exact ⟨Nat.le_refl _, Nat.lt_succ_self _⟩⟩
theorem pins_in {mk : MK} {l : List (List Int)} (h : LockOk mk l) {c : Nat} (hc : c < (pinsL mk.d l).length) : 2 ≤ ((pinsL mk.d l).getD c []).length ∧ ∀ x ∈ (pinsL mk.d l).getD c [], 0 ≤ x ∧ x < mk.d := by
  have hl : c < l.length := by unfold pinsL at hc; rwa [pinsTo_len] at hc
  have e : (pinsL mk.d l).getD c [] = stackL mk.d (l.getD c []) := by simp [pinsL, pinsTo, hl]
  have hs := h.set hl
  rw [e, stackL_len]
  exact ⟨by have := hs.ne; omega, stackL_in hs⟩
end Go.Proofs.YtegmognpofcfiaaGreat
