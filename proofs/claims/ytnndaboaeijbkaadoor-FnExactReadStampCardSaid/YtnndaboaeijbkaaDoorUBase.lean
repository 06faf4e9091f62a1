/- Proved: Base. -/
import Derived.WalkKit
import Derived.ProofKit
import Derived.OpenShut
import Derived.WalkSpells
import Derived.BigQuiet
import Derived.Deep.QuietTactic
import Derived.Lib.Hide
namespace Go.Proofs.YtnndaboaeijbkaaDoor
open Go.ChangeShapes Go.WideShapes Go.ChangeAt Go.RowKit

theorem ret_bool {a b : Bool} (h : a = b) : Ending.returned (.bool a) = .returned (.bool b) := by rw [h]
theorem ret_bool' {a b : Bool} (h : b = a) : Ending.returned (.bool a) = .returned (.bool b) := by rw [h]
theorem ret_int {a b : Int} (h : a = b) : Ending.returned (.int .i64 a) = .returned (.int .i64 b) := by rw [h]
def I64 (x : Int) : Prop := -9223372036854775808 ≤ x ∧ x ≤ 9223372036854775807

/-- the blocks from lo to hi - 1; own: they may be written -/
structure Zone where
  lo : Nat
  hi : Nat
  own : Bool
def Zone.Has (z : Zone) (k : Nat) : Prop := z.lo ≤ k ∧ k < z.hi
def Zone.Sub (y z : Zone) : Prop := (∀ k, y.Has k → z.Has k) ∧ (z.own = true → y.own = true)
def Zone.Apart (y z : Zone) : Prop := ∀ k, y.Has k → z.Has k → False
def Same (z : Zone) (w w' : World) : Prop := ∀ k, z.Has k → k < w.heap.size → w'.heap[k]? = w.heap[k]?
def Zone.new (w w' : World) : Zone := ⟨w.heap.size, w'.heap.size, true⟩
def Zone.old (w : World) : Zone := ⟨0, w.heap.size, false⟩

abbrev Repr (α : Type) := Zone → World → Value → α → Prop

def IntR : Repr Int := fun _ _ u x => u = .int .i64 x ∧ I64 x
def BoolR : Repr Bool := fun _ _ u x => u = .bool x
def StrR : Repr ByteArray := fun _ _ u x => u = .string x ∧ x.size ≤ maxLen

def SliceR {α : Type} (E : Repr α) : Repr (List α) := fun z w v xs =>
  ∃ (a : Option Addr) (cap : Nat), v = .slice a xs.length cap ∧ xs.length ≤ cap ∧ cap ≤ maxLen ∧ (a = none → xs = [] ∧ cap = 0) ∧
    ∀ ad, a = some ad → 0 < xs.length → ad.spot = none ∧ z.Has ad.block ∧ ad.block < w.heap.size ∧
      (z.own = true → ∀ i, i < xs.length → w.frozen? ⟨ad.block, ad.off + i, none⟩ = false) ∧
      ∃ Z : Nat → Zone, (∀ i, i < xs.length → (Z i).Sub z) ∧
        (z.own = true → (∀ i, i < xs.length → ¬ (Z i).Has ad.block) ∧ ∀ i j, i < j → j < xs.length → (Z i).Apart (Z j)) ∧
        ∀ i (h : i < xs.length), ∃ u, w.cell? ⟨ad.block, ad.off + i, none⟩ = some u ∧ E (Z i) w u xs[i]

/-- what reads E: it goes by the blocks of the zone alone -/
structure Stable {α : Type} (E : Repr α) : Prop where
  keep : ∀ {z w w' v x}, E z w v x → Same z w w' → E z w' v x
  sub : ∀ {y z w v x}, E y w v x → y.Sub z → E z w v x

theorem Zone.Sub.refl (z : Zone) : z.Sub z := ⟨fun _ h => h, fun h => h⟩
theorem Zone.Sub.trans {a b c : Zone} (h : a.Sub b) (k : b.Sub c) : a.Sub c := ⟨fun i x => k.1 i (h.1 i x), fun x => h.2 (k.2 x)⟩
theorem Same.sub {y z : Zone} {w w' : World} (h : Same z w w') (hs : y.Sub z) : Same y w w' := fun k hk hl => h k (hs.1 k hk) hl

theorem stable_int : Stable IntR := ⟨fun h _ => h, fun h _ => h⟩
theorem stable_bool : Stable BoolR := ⟨fun h _ => h, fun h _ => h⟩
theorem stable_str : Stable StrR := ⟨fun h _ => h, fun h _ => h⟩

theorem stable_slice {α : Type} {E : Repr α} (hE : Stable E) : Stable (SliceR E) := by
  constructor
  · rintro z w w' v xs ⟨a, cap, rfl, h1, h2, h3, h4⟩ hs
    refine ⟨a, cap, rfl, h1, h2, h3, fun ad had hpos => ?_⟩
    obtain ⟨k1, k2, k3, k4, Z, k5, k6, k7⟩ := h4 ad had hpos
    have hb := hs ad.block k2 k3
    have hlt : ad.block < w'.heap.size := by
      rcases Nat.lt_or_ge ad.block w'.heap.size with h | h
      · exact h
      · rw [Array.getElem?_eq_none h, Array.getElem?_eq_getElem k3] at hb; cases hb
    refine ⟨k1, k2, hlt, fun ho i hi => ?_, Z, k5, k6, fun i hi => ?_⟩
    · rw [World.frozen?_of_block (w := w) (a := ⟨ad.block, ad.off + i, none⟩) hb]; exact k4 ho i hi
    · obtain ⟨u, c1, c2⟩ := k7 i hi
      exact ⟨u, by rw [World.cell?_of_block (w := w) (a := ⟨ad.block, ad.off + i, none⟩) hb]; exact c1, hE.keep c2 (hs.sub (k5 i hi))⟩
  · rintro y z w v xs ⟨a, cap, rfl, h1, h2, h3, h4⟩ hs
    refine ⟨a, cap, rfl, h1, h2, h3, fun ad had hpos => ?_⟩
    obtain ⟨k1, k2, k3, k4, Z, k5, k6, k7⟩ := h4 ad had hpos
    refine ⟨k1, hs.1 _ k2, k3, fun ho => k4 (hs.2 ho), Z, fun i hi => (k5 i hi).trans hs, fun ho => k6 (hs.2 ho), k7⟩

abbrev IntsR : Repr (List Int) := SliceR IntR
abbrev RowsR : Repr (List (List Int)) := SliceR IntsR
abbrev BoolsR : Repr (List Bool) := SliceR BoolR
abbrev StrsR : Repr (List ByteArray) := SliceR StrR
theorem stable_ints : Stable IntsR := stable_slice stable_int
theorem stable_rows : Stable RowsR := stable_slice stable_ints
theorem stable_bools : Stable BoolsR := stable_slice stable_bool
theorem stable_strs : Stable StrsR := stable_slice stable_str

theorem _root_.Go.RowKit.Below.sameZone {w w' : World} (h : Below w.heap.size w w') (z : Zone) : Same z w w' := fun k _ hl => h.block k hl
theorem Stable.below {α : Type} {E : Repr α} (hE : Stable E) {z w w' v x} (h : E z w v x) (hb : Below w.heap.size w w') : E z w' v x := hE.keep h (hb.sameZone z)
theorem _root_.Go.RowKit.Below.hiZone {B : Nat} {w w' : World} (h : Below B w w') (hB : w.heap.size ≤ B) (z : Zone) : Same z w w' := fun k _ hl => h.block k (by omega)

/-- what a call hands back: the value, and that old memory is as it was -/
def Ret (w : World) (P : Value → World → Prop) (e : Ending) (w' : World) : Prop := ∃ v, e = .returned v ∧ P v w' ∧ Below w.heap.size w w'
/-- nothing but a count of draws has turned -/
def Drew (w w' : World) : Prop := ∃ n, w' = w.drewN n
theorem Drew.refl (w : World) : Drew w w := ⟨0, rfl⟩
theorem Drew.drewN {a w : World} (h : Drew a w) (n : Nat) : Drew a (w.drewN n) := by obtain ⟨k, rfl⟩ := h; exact ⟨_, World.drewN_drewN ..⟩
theorem Drew.drew {a w : World} (h : Drew a w) : Drew a w.drew := h.drewN 1
theorem Drew.trans {a b c : World} (h : Drew a b) (k : Drew b c) : Drew a c := by obtain ⟨n, rfl⟩ := k; exact h.drewN n
theorem Drew.cell {w w' : World} (h : Drew w w') (p : Addr) : w'.cell? p = w.cell? p := by obtain ⟨n, rfl⟩ := h; rfl
theorem Drew.below {w w' : World} (h : Drew w w') (B : Nat) : Below B w w' := by obtain ⟨n, rfl⟩ := h; exact ⟨rfl, rfl, rfl, Nat.le_refl _, fun _ _ => rfl⟩
theorem Drew.size {w w' : World} (h : Drew w w') : w'.heap.size = w.heap.size := by obtain ⟨n, rfl⟩ := h; rfl
theorem Drew.heap {w w' : World} (h : Drew w w') : w'.heap = w.heap := by obtain ⟨n, rfl⟩ := h; rfl
/-- .. of a call that only reads -/
def RetQ (w : World) (v : Value) (e : Ending) (w' : World) : Prop := e = .returned v ∧ Drew w w'
theorem RetQ.quiet {P : Program} {f : FuncId} {args : Array Value} {w : World} {n : Nat} {v : Value} (h : Calls P f args (w.drewN n) (RetQ (w.drewN n) v)) : Calls P f args (w.drewN n) fun e w'' => e = .returned v ∧ ∃ m, w'' = w.drewN m :=
  Calls.quiet_of (h.mono fun _ _ ⟨he, hd⟩ => ⟨he, hd⟩)
theorem _root_.Go.RowKit.Below.drewN {B : Nat} {a w : World} (h : Below B a w) (n : Nat) : Below B a (w.drewN n) := ⟨h.os, h.tape, h.output, h.size, h.block⟩
theorem RetQ.ret {w : World} {v : Value} {e : Ending} {w' : World} (h : RetQ w v e w') : Ret w (fun r _ => r = v) e w' := by
  obtain ⟨rfl, hd⟩ := h
  exact ⟨v, rfl, rfl, hd.below _⟩

/-! ### one element of a slice, for the walk -/
theorem SliceR.shape {α : Type} {E : Repr α} {z w v xs} (h : SliceR E z w v xs) : ∃ (a : Option Addr) (n cap : Nat), v = .slice a n cap ∧ n = xs.length ∧ n ≤ 9223372036854775807 ∧ n ≤ cap ∧ cap ≤ maxLen ∧ (a = none → n = 0 ∧ cap = 0) ∧
    ∀ i (hi : i < xs.length), ∃ b off, a = some ⟨b, off, none⟩ ∧ z.Has b ∧ b < w.heap.size ∧ (z.own = true → w.frozen? ⟨b, off + i, none⟩ = false) ∧ ∃ u y, w.cell? ⟨b, off + i, none⟩ = some u ∧ y.Sub z ∧ (z.own = true → ¬ y.Has b) ∧ E y w u xs[i] := by
  obtain ⟨a, cap, rfl, h1, h2, h3, h4⟩ := h
  have h2' := h2
  unfold maxLen at h2'
  refine ⟨a, _, cap, rfl, rfl, by omega, h1, h2, fun hn => ⟨by simp [(h3 hn).1], (h3 hn).2⟩, fun i hi => ?_⟩
  cases a with
  | none => have := (h3 rfl).1; subst this; simp at hi
  | some ad =>
    obtain ⟨k1, k2, k3, k4, Z, k5, k6, k7⟩ := h4 ad rfl (by omega)
    obtain ⟨bl, off, sp⟩ := ad
    simp only at k1; subst k1
    obtain ⟨u, c1, c2⟩ := k7 i hi
    exact ⟨bl, off, rfl, k2, k3, fun ho => k4 ho i hi, u, Z i, c1, k5 i hi, fun ho => (k6 ho).1 i hi, c2⟩

/-- a slice of integers: element i, by getD -/
theorem IntsR.shape {z w v xs} (h : IntsR z w v xs) : ∃ (a : Option Addr) (n cap : Nat), v = .slice a n cap ∧ n = xs.length ∧ n ≤ 9223372036854775807 ∧ n ≤ cap ∧ cap ≤ maxLen ∧ (a = none → n = 0 ∧ cap = 0) ∧
    ∀ i, i < n → ∃ b off, a = some ⟨b, off, none⟩ ∧ w.cell? ⟨b, off + i, none⟩ = some (.int .i64 (xs.getD i 0)) ∧ I64 (xs.getD i 0) ∧ (0 < i → w.cell? ⟨b, off + (i - 1), none⟩ = some (.int .i64 (xs.getD (i-1) 0)) ∧ I64 (xs.getD (i-1) 0)) := by
  obtain ⟨a, n, cap, rfl, rfl, h1, h2, h3, h4, h5⟩ := SliceR.shape h
  refine ⟨a, _, cap, rfl, rfl, h1, h2, h3, h4, fun i hi => ?_⟩
  obtain ⟨b, off, rfl, _, _, _, u, y, c1, _, _, rfl, c3⟩ := h5 i hi
  refine ⟨b, off, rfl, by simpa [hi] using c1, by simpa [hi] using c3, fun hp => ?_⟩
  obtain ⟨b', off', he, _, _, _, u, y, c1, _, _, rfl, c3⟩ := h5 (i - 1) (by omega)
  obtain ⟨rfl, rfl⟩ : b = b' ∧ off = off' := by simpa using he
  have hi' : i - 1 < xs.length := by omega
  exact ⟨by simpa [hi'] using c1, by simpa [hi'] using c3⟩

theorem IntsR.mem {z w v xs} (h : IntsR z w v xs) : ∀ x ∈ xs, I64 x := by
  intro x hx
  obtain ⟨i, hi, rfl⟩ := List.getElem_of_mem hx
  obtain ⟨_, _, _, _, _, _, _, _, _, h5⟩ := SliceR.shape h
  obtain ⟨_, _, _, _, _, _, _, _, _, _, _, _, c3⟩ := h5 i hi
  exact c3

/-- a slice of other things: element i -/
theorem SliceR.elem {α : Type} {E : Repr α} (hE : Stable E) {z w v xs} (h : SliceR E z w v xs) : ∃ (a : Option Addr) (n cap : Nat), v = .slice a n cap ∧ n = xs.length ∧ n ≤ 9223372036854775807 ∧
    ∀ i (hi : i < xs.length), ∃ b off, a = some ⟨b, off, none⟩ ∧ b < w.heap.size ∧ ∃ u, w.cell? ⟨b, off + i, none⟩ = some u ∧ E ⟨z.lo, z.hi, false⟩ w u xs[i] := by
  obtain ⟨a, n, cap, rfl, h0, h1, h2, h3, h4, h5⟩ := SliceR.shape h
  refine ⟨a, n, cap, rfl, h0, h1, fun i hi => ?_⟩
  obtain ⟨b, off, rfl, _, c0, _, u, y, c1, c2, _, c3⟩ := h5 i hi
  exact ⟨b, off, rfl, c0, u, c1, hE.sub c3 ⟨c2.1, fun h => by cases h⟩⟩

/-! ### what a call has made itself -/
/-- v is a row of the call's own, from block B on: its elements are f of xs -/
def OwnP {α : Type} (f : α → Value) (e : TypeId) (B : Nat) (w : World) (v : Value) (xs : List α) : Prop := w.ownsRow B e 1 v xs.length (xs.map f)

section
variable {α : Type} {f : α → Value} {e : TypeId} {B : Nat} {w w' : World} {v : Value} {xs : List α}

theorem OwnP.shape (h : OwnP f e B w v xs) : ∃ (a : Option Addr) (n cap : Nat), v = .slice a n cap ∧ n = xs.length ∧ n ≤ 9223372036854775807 ∧
    ∀ i (hi : i < xs.length), ∃ b, a = some ⟨b, 0, none⟩ ∧ B ≤ b ∧ b < w.heap.size ∧ w.cell? ⟨b, i, none⟩ = some (f xs[i]) ∧ w.frozen? ⟨b, i, none⟩ = false := by
  obtain ⟨h1, h2⟩ := h
  rcases h2 with ⟨rfl, h0⟩ | ⟨g, cap, cur, rfl, hb, hg, hnc, hcm, hcs, htake⟩
  · exact ⟨none, 0, 0, rfl, by omega, by omega, fun i hi => by omega⟩
  · unfold maxLen at hcm
    refine ⟨_, _, cap, rfl, rfl, by omega, fun i hi => ⟨g, rfl, hb, (Array.getElem?_eq_some_iff.1 hg).1, ?_, frozen_of_row w g _ cur e hg⟩⟩
    rw [cell_of_row w g i cur e (0, 0) hg]
    have : (cur.toList.take (xs.length * 1))[i]? = (xs.map f)[i]? := by rw [htake]
    rw [List.getElem?_take, if_pos (by omega)] at this
    simpa [hi] using this

theorem OwnP.reads {E : Repr α} (h : OwnP f e B w v xs) (hE : ∀ z x, x ∈ xs → E z w (f x) x) {lo hi : Nat} (hlo : lo ≤ B) (hhi : w.heap.size ≤ hi) : SliceR E ⟨lo, hi, true⟩ w v xs := by
  obtain ⟨h1, h2⟩ := h
  rcases h2 with ⟨rfl, h0⟩ | ⟨g, cap, cur, rfl, hb, hg, hnc, hcm, hcs, htake⟩
  · obtain rfl : xs = [] := List.eq_nil_of_length_eq_zero h0
    exact ⟨none, 0, rfl, Nat.le_refl _, Nat.zero_le _, fun _ => ⟨rfl, rfl⟩, fun _ h _ => by cases h⟩
  · have hgl : g < w.heap.size := (Array.getElem?_eq_some_iff.1 hg).1
    refine ⟨some ⟨g, 0, none⟩, cap, rfl, hnc, hcm, (fun h => by cases h), fun ad had _ => ?_⟩
    cases had
    refine ⟨rfl, ⟨Nat.le_trans hlo hb, Nat.lt_of_lt_of_le hgl hhi⟩, hgl, fun _ i _ => frozen_of_row w g _ cur e hg, fun _ => ⟨0, 0, true⟩, fun i _ => ⟨fun k hk => absurd hk.2 (Nat.not_lt_zero _), fun _ => rfl⟩, fun _ => ⟨fun i _ hk => absurd hk.2 (Nat.not_lt_zero _), fun i j _ _ k hk => absurd hk.2 (Nat.not_lt_zero _)⟩, fun i hi' => ?_⟩
    refine ⟨f xs[i], ?_, hE _ _ (List.getElem_mem _)⟩
    show w.cell? ⟨g, 0 + i, none⟩ = _
    rw [Nat.zero_add, cell_of_row w g i cur e (0, 0) hg]
    have : (cur.toList.take (xs.length * 1))[i]? = (xs.map f)[i]? := by rw [htake]
    rw [List.getElem?_take, if_pos (by omega)] at this
    simpa [hi'] using this

theorem OwnP.ints {xs : List Int} (h : OwnP (Value.int .i64) e B w v xs) (hi : ∀ x ∈ xs, I64 x) {lo : Nat} (hlo : lo ≤ B) : IntsR ⟨lo, w.heap.size, true⟩ w v xs :=
  OwnP.reads h (fun _ x hx => ⟨rfl, hi x hx⟩) hlo (Nat.le_refl _)

theorem OwnP.kept {row : Option Nat} (h : OwnP f e B w v xs) (hg : w.grownBy w' row) (hne : v.ownBlock = none ∨ v.ownBlock ≠ row) : OwnP f e B w' v xs := World.ownsRow.kept h hg hne
theorem OwnP.alloc (h : OwnP f e B w v xs) (o : Obj) : OwnP f e B (w.alloc o) v xs := World.ownsRow.alloc h o
theorem OwnP.drewN (h : OwnP f e B w v xs) (n : Nat) : OwnP f e B (w.drewN n) v xs := h
theorem OwnP.block (h : OwnP f e B w v xs) : ∀ k, v.ownBlock = some k → B ≤ k ∧ k < w.heap.size := World.ownsRow.lt h
/-- a callee that leaves old memory alone leaves it -/
theorem OwnP.below (h : OwnP f e B w v xs) (hb : Below w.heap.size w w') : OwnP f e B w' v xs := by
  obtain ⟨h1, h2⟩ := h
  refine ⟨h1, ?_⟩
  rcases h2 with h2 | ⟨g, cap, cur, hv, hbg, hg, r⟩
  · exact .inl h2
  · exact .inr ⟨g, cap, cur, hv, hbg, by rw [hb.block g (Array.getElem?_eq_some_iff.1 hg).1]; exact hg, r⟩

theorem OwnP.none : OwnP f e B w (.slice none 0 0) [] := World.ownsRow_nil w B e 1
theorem OwnP.empty (hB : B ≤ w.heap.size) : OwnP f e B (w.alloc (.cells #[] e)) (.slice (some ⟨w.heap.size, 0, Option.none⟩) 0 0) [] := World.ownsRow_made w #[] 0 hB (Nat.zero_le _) rfl
theorem OwnP.one (hB : B ≤ w.heap.size) (x : α) : OwnP f e B (w.alloc (.cells #[f x] e)) (.slice (some ⟨w.heap.size, 0, Option.none⟩) 1 1) [x] := World.ownsRow_lit w #[f x] 1 hB (by unfold maxLen; omega) rfl
theorem OwnP.lit (hB : B ≤ w.heap.size) (ys : List α) (cs : Array Value) (hc : cs.toList = ys.map f) (hm : ys.length ≤ maxLen) : OwnP f e B (w.alloc (.cells cs e)) (.slice (some ⟨w.heap.size, 0, Option.none⟩) ys.length ys.length) ys := by
  unfold OwnP
  rw [← hc]
  exact World.ownsRow_lit w cs _ hB hm (by have := congrArg List.length hc; simp at this; omega)

theorem OwnP.len {a : Option Addr} {n cap : Nat} (h : OwnP f e B w (.slice a n cap) xs) : n = xs.length := by
  obtain ⟨_, _, _, he, h0, _⟩ := h.shape
  injection he with _ he _
  omega
theorem OwnP.at {g n cap : Nat} (h : OwnP f e B w (.slice (some ⟨g, 0, Option.none⟩) n cap) xs) {k : Nat} (hk : k < n) : ∃ hk' : k < xs.length, w.cell? ⟨g, k, Option.none⟩ = some (f xs[k]) ∧ w.frozen? ⟨g, k, Option.none⟩ = false := by
  obtain ⟨_, _, _, he, h0, _, h2⟩ := h.shape
  injection he with ha hn _
  obtain ⟨b', hb, _, _, h3, h4⟩ := h2 k (by omega)
  rw [hb] at ha
  injection ha with ha; injection ha with ha _ _
  subst ha
  exact ⟨by omega, h3, h4⟩

/-- a store into element k -/
theorem OwnP.store {g n cap : Nat} (h : OwnP f e B w (.slice (some ⟨g, 0, Option.none⟩) n cap) xs) (k : Nat) (x : α) : OwnP f e B (w.setCell ⟨g, k, Option.none⟩ (f x)) (.slice (some ⟨g, 0, Option.none⟩) n cap) (xs.set k x) := by
  have hn : n = xs.length := by
    rcases h.2 with ⟨h1, h2⟩ | ⟨g', cap', cur, h1, _⟩
    · cases h1
    · simp at h1; exact h1.2.1
  subst hn
  have := (World.ownsRow.stored h k (f x)).1
  unfold OwnP
  rwa [List.length_set, List.map_set]

/-- 'make([]T, n)' -/
theorem wpList_makeP {P : Program} {ops : Array Oper} {rest : List Oper} {o : Oper} {a : Act} {Q : Exit → Act → World → Prop}
    (hg : o.guard = Option.none) (l c : Operand) (t : TypeId) (hop : o.op = Op.makeSlice t l c) (e : TypeId) (B : Nat) (f : α → Value) (x0 : α) (bytes : Nat) (h1 : P.underlying t = some (.slice e)) (h2 : (P.info? e).map (fun i => (i.zero, i.size, i.bytes)) = some (some (f x0), 1, bytes))
    (hcell : (f x0).cells = #[f x0]) (n : Nat) (hl : a.eval l = .int .i64 n) (hc : a.eval c = .int .i64 n) (hn : n ≤ 1099511627776) (hby : bytes ≤ 64) (hB : B ≤ w.heap.size)
    (hK : ∀ w', OwnP f e B w' (.slice (some ⟨w.heap.size, 0, Option.none⟩) n n) (List.replicate n x0) → Below w.heap.size w w' → w'.heap.size = w.heap.size + 1 → wpList P ops Q rest (a.put o.dst (.slice (some ⟨w.heap.size, 0, Option.none⟩) n n)) w') :
    wpList P ops Q (o :: rest) a w := by
  obtain ⟨i, hi, hz0, hz1, hz2⟩ := info_parts h2
  refine wpList_plain hg fun K hK' => ?_
  have hbb : bytes * n ≤ 281474976710656 := Nat.le_trans (Nat.mul_le_mul hby hn) (by omega)
  have hbi : (i.bytes : Int) * (n : Int) ≤ 281474976710656 := by
    have h : ((bytes * n : Nat) : Int) ≤ 281474976710656 := by omega
    rw [hz2]; rwa [Int.natCast_mul] at h
  have hr := run_make (P := P) w t e i (f x0) h1 hi hz0 .i64 .i64 n n (by omega) (Int.le_refl _) hbi (by omega)
  simp only [Int.toNat_natCast, hz1, Nat.mul_one] at hr
  unfold Oper.wp
  simp [execOp, hop, hl, hc, hr, Result.andThen]
  refine hK' _ _ (hK _ ?_ ((Below.refl _ _).alloc (Nat.le_refl _) _) (by simp))
  unfold OwnP
  have e1 : (madeCells (f x0).cells n).toList = (List.replicate n x0).map f := by rw [hcell, toList_madeCells_one]; simp
  rw [← e1, List.length_replicate]
  exact World.ownsRow_lit w _ n hB (by unfold maxLen; omega) (by rw [size_madeCells]; omega)

/-- 'append(s, x...)', s of the call's own: whatever is appended is read as ys -/
theorem wpList_appendP {P : Program} {ops : Array Oper} {rest : List Oper} {o : Oper} {a : Act} {Q : Exit → Act → World → Prop} (hgd : o.guard = Option.none) (s x : Operand) (t : TypeId)
    (ho : o.op = .call { callee := .builtin .append, args := #[s, x], argTypes := #[t, t] }) (e : TypeId) (B : Nat) (f : α → Value) (x0 : α) (bytes : Nat) (ht : P.underlying t = some (.slice e)) (hinfo : (P.info? e).map (fun i => (i.zero, i.size, i.bytes)) = some (some (f x0), 1, bytes))
    (hcell : (f x0).cells = #[f x0]) (h1 : ∀ x, (f x).oneCell' = true) (v : Value) (xs : List α) (hs : a.eval s = v) (hown : OwnP f e B w v xs)
    (ad : Addr) (m c : Nat) (ys : List α) (hx : a.eval x = .slice (some ad) m c) (hm : m = ys.length) (hnews : ∀ j (hj : j < ys.length), w.cell? (ad.add j) = some (f ys[j]))
    (hn : xs.length + ys.length ≤ 1099511627776) (hby : bytes ≤ 64) (hB : B ≤ w.heap.size)
    (h : ∀ v' w', OwnP f e B w' v' (xs ++ ys) → w.grownBy w' v.ownBlock → wpList P ops Q rest (a.put o.dst v') w') : wpList P ops Q (o :: rest) a w := by
  obtain ⟨i, hi, hz0, hz1, hz2⟩ := info_parts hinfo
  have hbb : (xs.length + ys.length) * bytes ≤ 140737488355328 := Nat.le_trans (Nat.mul_le_mul hn hby) (by omega)
  subst hm
  refine wpList_append_own w hgd s x t ho B e i (f x0) 1 bytes ht hi hz0 hz1 hz2 (by rw [hcell]; rfl) (by omega) v xs.length (xs.map f) hs hown ad ys.length c (ys.map f) hx (by simp) ?_ ?_ (by unfold maxLen; omega) hbb hB ?_
  · intro j u hu
    rw [List.getElem?_map] at hu
    obtain ⟨y, hy, rfl⟩ := Option.map_eq_some_iff.1 hu
    obtain ⟨hj, rfl⟩ := List.getElem?_eq_some_iff.1 hy
    exact hnews j hj
  · intro u hu
    obtain ⟨y, _, rfl⟩ := List.mem_map.1 hu
    exact h1 y
  · intro v' w' hv' hg _
    refine h v' w' ?_ hg
    unfold OwnP
    rw [List.length_append, List.map_append]
    exact hv'
end

/-! ### writing into what is owned -/
/-- the blocks of the zone may have been written; nothing else has turned -/
structure Within (z : Zone) (w w' : World) : Prop where
  os : w'.os = w.os
  tape : w'.tape = w.tape
  output : w'.output = w.output
  size : w'.heap.size = w.heap.size
  block : ∀ k, ¬ z.Has k → w'.heap[k]? = w.heap[k]?

theorem Within.refl (z : Zone) (w : World) : Within z w w := ⟨rfl, rfl, rfl, rfl, fun _ _ => rfl⟩
theorem Within.drewN {z : Zone} {a w : World} (h : Within z a w) (n : Nat) : Within z a (w.drewN n) := ⟨h.os, h.tape, h.output, h.size, h.block⟩
theorem Within.trans {z : Zone} {a b c : World} (h : Within z a b) (k : Within z b c) : Within z a c := ⟨k.os.trans h.os, k.tape.trans h.tape, k.output.trans h.output, k.size.trans h.size, fun i hi => (k.block i hi).trans (h.block i hi)⟩
theorem Within.sub {y z : Zone} {w w' : World} (h : Within y w w') (hs : y.Sub z) : Within z w w' := ⟨h.os, h.tape, h.output, h.size, fun k hk => h.block k (fun hy => hk (hs.1 k hy))⟩
theorem Within.setCell {z : Zone} {a w : World} (h : Within z a w) {p : Addr} (hp : z.Has p.block) (u : Value) : Within z a (w.setCell p u) :=
  h.trans ⟨rfl, rfl, rfl, by simp [World.setCell], fun k hk => Below.heap_setCell _ _ _ _ (fun e => hk (e ▸ hp))⟩
theorem Within.below {z : Zone} {w w' : World} (h : Within z w w') {B : Nat} (hB : B ≤ z.lo) : Below B w w' := ⟨h.os, h.tape, h.output, (by rw [h.size]; exact Nat.le_refl _), fun k hk => h.block k (fun hz => by have := hz.1; omega)⟩
theorem Within.same {y z : Zone} {w w' : World} (h : Within y w w') (ha : z.Apart y) : Same z w w' := fun k hk _ => h.block k (fun hy => ha k hk hy)
theorem Stable.within {α : Type} {E : Repr α} (hE : Stable E) {y z w w' v x} (h : E z w v x) (hw : Within y w w') (ha : z.Apart y) : E z w' v x := hE.keep h (hw.same ha)

theorem SliceR.store {α : Type} {E : Repr α} (hE : Stable E) {z : Zone} {w : World} {b off n cap : Nat} {xs : List α} (h : SliceR E z w (.slice (some ⟨b, off, none⟩) n cap) xs) (ho : z.own = true) (i : Nat) (hi : i < n) (u : Value) (x : α) (hu : ∀ y w', E y w' u x) :
    SliceR E z (w.setCell ⟨b, off + i, none⟩ u) (.slice (some ⟨b, off, none⟩) n cap) (xs.set i x) := by
  obtain ⟨a, cap', he, h1, h2, h3, h4⟩ := h
  injection he with ha hn hc
  subst ha; subst hc; subst hn
  refine ⟨some ⟨b, off, none⟩, cap, by simp, by simpa using h1, h2, (fun h => by cases h), fun ad had _ => ?_⟩
  cases had
  obtain ⟨k1, k2, k3, k4, Z, k5, k6, k7⟩ := h4 _ rfl (by omega)
  refine ⟨k1, k2, by simpa [World.setCell] using k3, fun ho j hj => ?_, Z, fun j hj => k5 j (by simpa using hj), fun ho => ⟨fun j hj => (k6 ho).1 j (by simpa using hj), fun j l hjl hl => (k6 ho).2 j l hjl (by simpa using hl)⟩, fun j hj => ?_⟩
  · rw [World.frozen?_setCell]; exact k4 ho j (by simpa using hj)
  · have hj' : j < xs.length := by simpa using hj
    obtain ⟨u', c1, c2⟩ := k7 j hj'
    by_cases e : j = i
    · subst e
      exact ⟨u, World.cell?_setCell_same _ _ _ c1, by rw [List.getElem_set_self]; exact hu _ _⟩
    · refine ⟨u', ?_, ?_⟩
      · rw [World.cell?_setCell_other _ _ _ _ (by intro h; injection h with _ h _; simp only at h; omega)]; exact c1
      · rw [List.getElem_set_ne (by omega)]
        refine hE.keep c2 (fun k hk _ => Below.heap_setCell _ _ _ _ (fun e => ?_))
        exact (k6 ho).1 j hj' (e ▸ hk)

/-- an element's own zone, written by whoever -/
theorem SliceR.inner {α : Type} {E : Repr α} (hE : Stable E) {z : Zone} {w : World} {v : Value} {xs : List α} (h : SliceR E z w v xs) (ho : z.own = true) (i : Nat) (hi : i < xs.length) :
    ∃ b off n cap u Y, v = .slice (some ⟨b, off, none⟩) n cap ∧ n = xs.length ∧ w.cell? ⟨b, off + i, none⟩ = some u ∧ E Y w u xs[i] ∧ Y.Sub z ∧ Y.own = true ∧
      ∀ w' x', Within Y w w' → E Y w' u x' → SliceR E z w' v (xs.set i x') := by
  obtain ⟨a, cap, rfl, h1, h2, h3, h4⟩ := h
  cases a with
  | none => rw [(h3 rfl).1] at hi; simp at hi
  | some ad =>
    obtain ⟨k1, k2, k3, k4, Z, k5, k6, k7⟩ := h4 _ rfl (by omega)
    obtain ⟨b, off, sp⟩ := ad
    simp only at k1; subst k1
    obtain ⟨u, c1, c2⟩ := k7 i hi
    refine ⟨b, off, _, cap, u, Z i, rfl, rfl, c1, c2, k5 i hi, (k5 i hi).2 ho, fun w' x' hw hx => ?_⟩
    have hb : w'.heap[b]? = w.heap[b]? := hw.block b ((k6 ho).1 i hi)
    refine ⟨some ⟨b, off, none⟩, cap, by simp, by simpa using h1, h2, (fun h => by cases h), fun ad had _ => ?_⟩
    cases had
    refine ⟨rfl, k2, by rw [hw.size]; exact k3, fun ho j hj => ?_, Z, fun j hj => k5 j (by simpa using hj), fun ho => ⟨fun j hj => (k6 ho).1 j (by simpa using hj), fun j l hjl hl => (k6 ho).2 j l hjl (by simpa using hl)⟩, fun j hj => ?_⟩
    · rw [World.frozen?_of_block (w := w) (a := ⟨b, off + j, none⟩) hb]; exact k4 ho j (by simpa using hj)
    · have hj' : j < xs.length := by simpa using hj
      obtain ⟨u', c1', c2'⟩ := k7 j hj'
      refine ⟨u', by rw [World.cell?_of_block (w := w) (a := ⟨b, off + j, none⟩) hb]; exact c1', ?_⟩
      by_cases e : j = i
      · subst e
        have : u' = u := by rw [c1'] at c1; injection c1
        subst this
        rw [List.getElem_set_self]; exact hx
      · rw [List.getElem_set_ne (by omega)]
        refine hE.within c2' hw ?_
        rcases Nat.lt_or_gt_of_ne e with hlt | hgt
        · exact (k6 ho).2 j i hlt hi
        · exact fun k a b => (k6 ho).2 i j hgt hj' k b a

theorem Stable.drew {α : Type} {E : Repr α} (hE : Stable E) {z w w' v x} (h : E z w v x) (hd : Drew w w') : E z w' v x := hE.below h (hd.below _)
theorem Stable.drewN {α : Type} {E : Repr α} (hE : Stable E) {z w v x} (h : E z w v x) (n : Nat) : E z (w.drewN n) v x := hE.keep h (fun _ _ _ => rfl)
theorem SliceR.nil {α : Type} (E : Repr α) (z : Zone) (w : World) : SliceR E z w (.slice none 0 0) [] := ⟨none, 0, rfl, Nat.le_refl _, Nat.zero_le _, fun _ => ⟨rfl, rfl⟩, fun _ h _ => by cases h⟩

/-- a store of an element that a callee has just made -/
theorem SliceR.storeNew {α : Type} {E : Repr α} (hE : Stable E) {z : Zone} {w w1 : World} {b off n cap : Nat} {xs : List α} (h : SliceR E z w (.slice (some ⟨b, off, none⟩) n cap) xs) (ho : z.own = true) (hz : z.hi ≤ w.heap.size) (i : Nat) (hi : i < n) (u : Value) (x : α)
    (hb : Below w.heap.size w w1) (hu : E ⟨w.heap.size, w1.heap.size, true⟩ w1 u x) :
    SliceR E ⟨z.lo, w1.heap.size, true⟩ (w1.setCell ⟨b, off + i, none⟩ u) (.slice (some ⟨b, off, none⟩) n cap) (xs.set i x) := by
  obtain ⟨a, cap', he, h1, h2, h3, h4⟩ := h
  injection he with ha hn hc
  subst ha; subst hc; subst hn
  have hsz := hb.size
  refine ⟨some ⟨b, off, none⟩, cap, by simp, by simpa using h1, h2, (fun h => by cases h), fun ad had _ => ?_⟩
  cases had
  obtain ⟨k1, k2, k3, k4, Z, k5, k6, k7⟩ := h4 _ rfl (by omega)
  simp only at k2 k3 k4 k7
  have hbz := k2.2
  have k6' := k6 ho
  have hset : ∀ k, k ≠ b → (w1.setCell ⟨b, off + i, none⟩ u).heap[k]? = w1.heap[k]? := fun k hk => Below.heap_setCell _ _ _ _ hk
  refine ⟨k1, ⟨k2.1, by show b < w1.heap.size; omega⟩, by simp only [World.setCell, Array.size_modify]; omega, fun _ j hj => ?_, fun j => if j = i then ⟨w.heap.size, w1.heap.size, true⟩ else Z j, fun j hj => ?_, fun _ => ⟨fun j hj => ?_, fun j l hjl hl => ?_⟩, fun j hj => ?_⟩
  · rw [World.frozen?_setCell, World.frozen?_of_block (w := w) (a := ⟨b, off + j, none⟩) (hb.block b (by omega))]; exact k4 ho j (by simpa using hj)
  · by_cases e : j = i
    · simp only [e, if_true]
      exact ⟨fun k hk => ⟨by have h1 := k2.1; have h2 := hk.1; simp only at h1 h2 ⊢; omega, hk.2⟩, fun _ => rfl⟩
    · simp only [e, if_false]
      have hs := k5 j (by simpa using hj)
      exact ⟨fun k hk => ⟨(hs.1 k hk).1, by have := (hs.1 k hk).2; show k < w1.heap.size; omega⟩, fun _ => hs.2 ho⟩
  · by_cases e : j = i
    · simp only [e, if_true]; intro hk; have := hk.1; simp only at this; omega
    · simp only [e, if_false]; exact k6'.1 j (by simpa using hj)
  · have hl' : l < xs.length := by simpa using hl
    have hj' : j < xs.length := by omega
    intro k ha hc
    by_cases e1 : j = i
    · have e2 : l ≠ i := by omega
      simp only [e1, e2, if_true, if_false] at ha hc
      have q1 := ha.1
      have q2 := ((k5 l hl').1 k hc).2
      simp only at q1; omega
    · by_cases e2 : l = i
      · simp only [e1, e2, if_true, if_false] at ha hc
        have q1 := hc.1
        have q2 := ((k5 j hj').1 k ha).2
        simp only at q1; omega
      · simp only [e1, e2, if_false] at ha hc
        exact k6'.2 j l hjl hl' k ha hc
  · have hj' : j < xs.length := by simpa using hj
    obtain ⟨u', c1, c2⟩ := k7 j hj'
    have c1' : w1.cell? ⟨b, off + j, none⟩ = some u' := by rw [hb.cell (p := ⟨b, off + j, none⟩) (by show b < _; omega)]; exact c1
    by_cases e : j = i
    · subst e
      refine ⟨u, World.cell?_setCell_same _ _ _ c1', ?_⟩
      simp only [if_true, List.getElem_set_self]
      refine hE.keep hu (fun k hk _ => hset k ?_)
      have q := hk.1; simp only at q; omega
    · refine ⟨u', ?_, ?_⟩
      · rw [World.cell?_setCell_other _ _ _ _ (by intro h; injection h with _ h _; simp only at h; omega)]; exact c1'
      · simp only [e, if_false]
        rw [List.getElem_set_ne (by omega)]
        refine hE.keep (hE.below c2 hb) (fun k hk _ => hset k (fun e => ?_))
        exact k6'.1 j hj' (e ▸ hk)

theorem _root_.Go.Calls.vq {P : Program} {f : FuncId} {args : Array Value} {w : World} {v v' : Value} (h : Calls P f args w (RetQ w v)) (e : v = v') : Calls P f args w (RetQ w v') := e ▸ h

theorem SliceR.slot {α : Type} {E : Repr α} {z : Zone} {w : World} {b off n cap : Nat} {xs : List α} (h : SliceR E z w (.slice (some ⟨b, off, none⟩) n cap) xs) (ho : z.own = true) {k : Nat} (hk : k < n) :
    n = xs.length ∧ z.Has b ∧ b < w.heap.size ∧ w.frozen? ⟨b, off + k, none⟩ = false ∧ ∃ d, w.cell? ⟨b, off + k, none⟩ = some d := by
  obtain ⟨a, n', cap', he, hn, -, -, -, -, hel⟩ := SliceR.shape h
  injection he with e1 e2 e3
  subst e1; subst e2; subst e3
  obtain ⟨b', off', e, hb1, hb2, hf, u, y, hc, -⟩ := hel k (by omega)
  injection e with e; injection e with e1 e2 _
  subst e1; subst e2
  exact ⟨hn, hb1, hb2, hf ho, u, hc⟩

/-- a call of function F enters it (F has a body) -/
def Goes (P : Program) (F : FuncId) : Prop := ∀ args w, (callFunc F args).run P w = .ok (.enter F args) w
theorem goes_of {P : Program} {F : FuncId} {fn : Func} (hf : P.funcs[F]? = some fn) (hn : (fn.name == "runtime.NumGoroutine") = false) (hb : fn.body.isNone = false) : Goes P F := by
  intro args w
  have h1 : ¬ fn.name = "runtime.NumGoroutine" := by simpa using hn
  have h2 : ¬ fn.body = none := by cases h : fn.body <;> simp_all
  simp [callFunc, hf, h1, h2]

/-- 'append(s, x...)', s of the call's own, x any slice that reads as ys -/
theorem wpList_appendR {α : Type} {f : α → Value} {e : TypeId} {B : Nat} {w : World} {v : Value} {xs : List α} {P : Program} {ops : Array Oper} {rest : List Oper} {o : Oper} {a : Act} {Q : Exit → Act → World → Prop} (hgd : o.guard = Option.none) (s x : Operand) (t : TypeId)
    (ho : o.op = .call { callee := .builtin .append, args := #[s, x], argTypes := #[t, t] }) (x0 : α) (bytes : Nat) (ht : P.underlying t = some (.slice e)) (hinfo : (P.info? e).map (fun i => (i.zero, i.size, i.bytes)) = some (some (f x0), 1, bytes))
    (hcell : (f x0).cells = #[f x0]) (h1 : ∀ x, (f x).oneCell' = true) (hs : a.eval s = v) (hown : OwnP f e B w v xs)
    {E : Repr α} (hE : ∀ {z w u x}, E z w u x → u = f x) {z : Zone} {xv : Value} {ys : List α} (hx : a.eval x = xv) (hr : SliceR E z w xv ys)
    (hn : xs.length + ys.length ≤ 1099511627776) (hby : bytes ≤ 64) (hB : B ≤ w.heap.size)
    (h : ∀ v' w', OwnP f e B w' v' (xs ++ ys) → w.grownBy w' v.ownBlock → wpList P ops Q rest (a.put o.dst v') w') : wpList P ops Q (o :: rest) a w := by
  obtain ⟨ad, n, cap, rfl, hn', -, -, -, hnone, hel⟩ := SliceR.shape hr
  cases ad with
  | some ad =>
    refine wpList_appendP hgd s x t ho e B f x0 bytes ht hinfo hcell h1 v xs hs hown ad n cap ys hx hn' (fun j hj => ?_) hn hby hB h
    obtain ⟨b, off, he, _, _, _, u, y, hc, _, _, hu⟩ := hel j hj
    injection he with he
    subst he
    rw [Addr.add_lit, hc, hE hu]
  | none =>
    obtain ⟨rfl, rfl⟩ := hnone rfl
    obtain rfl : ys = [] := List.eq_nil_of_length_eq_zero hn'.symm
    refine wpList_plain hgd fun K hK' => ?_
    obtain ⟨i, hi, hz0, hz1, hz2⟩ := info_parts hinfo
    have hrun := run_append_owned_none (P := P) w B t o.type e i 1 ht hi _ _ _ hown
    unfold Oper.wp
    simp [execOp, ho, resolve, invoke, builtin, hs, hx, hrun, Result.andThen]
    refine hK' _ _ (h v w (by simpa using hown) (World.grownBy.refl _ _))
end Go.Proofs.YtnndaboaeijbkaaDoor
