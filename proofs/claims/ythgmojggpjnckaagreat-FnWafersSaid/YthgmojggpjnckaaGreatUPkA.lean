/- Proved: Base; whether a number lies between two others: program and reference; how wide an integer and a list are; small laws on lists that a call makes itself; a later world: what was there is as it was; IsMaker: program and reference compute the same; impl.IsRising and spec.l01Rises return whether a list rises strictly within 0 to n - 1, for every list of integers; allWithin and IsTable: program and reference compute the same, for every list of lists; whether a list are cuts of a maker, as the reference tells it; spec.l01Has for lists of integers; the first index whose element has something; slices.Index and slices.Contains for lists of integers; the number of different numbers of a list: program and reference; lists of lists that a call makes itself; the absolute value of a number that is not too large, program and reference; an append of one element, and where what comes back lies. -/
import Derived.Test.YthgmojggpjnckaaGreatChecked
import Derived.WalkKit
import Derived.ProofKit
import Derived.OpenShut
import Derived.WalkSpells
import Derived.BigQuiet
import Derived.Deep.QuietTactic
import Derived.Lib.Hide
import Derived.Maps.AppendAt
namespace Go.Proofs.YthgmojggpjnckaaGreat
open Go.ChangeShapes Go.WideShapes Go.ChangeAt Go.RowKit

theorem ret_bool {a b : Bool} (h : a = b) : Ending.returned (.bool a) = .returned (.bool b) := by rw [h]
theorem ret_bool' {a b : Bool} (h : b = a) : Ending.returned (.bool a) = .returned (.bool b) := by rw [h]
theorem ret_int {a b : Int} (h : a = b) : Ending.returned (.int .i64 a) = .returned (.int .i64 b) := by rw [h]
def I64 (x : Int) : Prop := -9223372036854775808 ≤ x ∧ x ≤ 9223372036854775807

/-- the blocks from lo to hi - 1; own: they may be written -/
structure Zone where
  lo : Nat
  hi : Nat
  own : Bool
def Zone.Has (z : Zone) (k : Nat) : Prop := z.lo ≤ k ∧ k < z.hi
def Zone.Sub (y z : Zone) : Prop := (∀ k, y.Has k → z.Has k) ∧ (z.own = true → y.own = true)
def Zone.Apart (y z : Zone) : Prop := ∀ k, y.Has k → z.Has k → False
def Same (z : Zone) (w w' : World) : Prop := ∀ k, z.Has k → k < w.heap.size → w'.heap[k]? = w.heap[k]?
def Zone.new (w w' : World) : Zone := ⟨w.heap.size, w'.heap.size, true⟩
def Zone.old (w : World) : Zone := ⟨0, w.heap.size, false⟩

abbrev Repr (α : Type) := Zone → World → Value → α → Prop

def IntR : Repr Int := fun _ _ u x => u = .int .i64 x ∧ I64 x
def BoolR : Repr Bool := fun _ _ u x => u = .bool x
def StrR : Repr ByteArray := fun _ _ u x => u = .string x ∧ x.size ≤ maxLen

def SliceR {α : Type} (E : Repr α) : Repr (List α) := fun z w v xs =>
  ∃ (a : Option Addr) (cap : Nat), v = .slice a xs.length cap ∧ xs.length ≤ cap ∧ cap ≤ maxLen ∧ (a = none → xs = [] ∧ cap = 0) ∧
    ∀ ad, a = some ad → 0 < xs.length → ad.spot = none ∧ z.Has ad.block ∧ ad.block < w.heap.size ∧
      (z.own = true → ∀ i, i < xs.length → w.frozen? ⟨ad.block, ad.off + i, none⟩ = false) ∧
      ∃ Z : Nat → Zone, (∀ i, i < xs.length → (Z i).Sub z) ∧
        (z.own = true → (∀ i, i < xs.length → ¬ (Z i).Has ad.block) ∧ ∀ i j, i < j → j < xs.length → (Z i).Apart (Z j)) ∧
        ∀ i (h : i < xs.length), ∃ u, w.cell? ⟨ad.block, ad.off + i, none⟩ = some u ∧ E (Z i) w u xs[i]

/-- what reads E: it goes by the blocks of the zone alone -/
structure Stable {α : Type} (E : Repr α) : Prop where
  keep : ∀ {z w w' v x}, E z w v x → Same z w w' → E z w' v x
  sub : ∀ {y z w v x}, E y w v x → y.Sub z → E z w v x

theorem Zone.Sub.refl (z : Zone) : z.Sub z := ⟨fun _ h => h, fun h => h⟩
theorem Zone.Sub.trans {a b c : Zone} (h : a.Sub b) (k : b.Sub c) : a.Sub c := ⟨fun i x => k.1 i (h.1 i x), fun x => h.2 (k.2 x)⟩
theorem Same.sub {y z : Zone} {w w' : World} (h : Same z w w') (hs : y.Sub z) : Same y w w' := fun k hk hl => h k (hs.1 k hk) hl

theorem stable_int : Stable IntR := ⟨fun h _ => h, fun h _ => h⟩
theorem stable_bool : Stable BoolR := ⟨fun h _ => h, fun h _ => h⟩
theorem stable_str : Stable StrR := ⟨fun h _ => h, fun h _ => h⟩

theorem stable_slice {α : Type} {E : Repr α} (hE : Stable E) : Stable (SliceR E) := by
  constructor
  · rintro z w w' v xs ⟨a, cap, rfl, h1, h2, h3, h4⟩ hs
    refine ⟨a, cap, rfl, h1, h2, h3, fun ad had hpos => ?_⟩
    obtain ⟨k1, k2, k3, k4, Z, k5, k6, k7⟩ := h4 ad had hpos
    have hb := hs ad.block k2 k3
    have hlt : ad.block < w'.heap.size := by
      rcases Nat.lt_or_ge ad.block w'.heap.size with h | h
      · exact h
      · rw [Array.getElem?_eq_none h, Array.getElem?_eq_getElem k3] at hb; cases hb
    refine ⟨k1, k2, hlt, fun ho i hi => ?_, Z, k5, k6, fun i hi => ?_⟩
    · rw [World.frozen?_of_block (w := w) (a := ⟨ad.block, ad.off + i, none⟩) hb]; exact k4 ho i hi
    · obtain ⟨u, c1, c2⟩ := k7 i hi
      exact ⟨u, by rw [World.cell?_of_block (w := w) (a := ⟨ad.block, ad.off + i, none⟩) hb]; exact c1, hE.keep c2 (hs.sub (k5 i hi))⟩
  · rintro y z w v xs ⟨a, cap, rfl, h1, h2, h3, h4⟩ hs
    refine ⟨a, cap, rfl, h1, h2, h3, fun ad had hpos => ?_⟩
    obtain ⟨k1, k2, k3, k4, Z, k5, k6, k7⟩ := h4 ad had hpos
    refine ⟨k1, hs.1 _ k2, k3, fun ho => k4 (hs.2 ho), Z, fun i hi => (k5 i hi).trans hs, fun ho => k6 (hs.2 ho), k7⟩

abbrev IntsR : Repr (List Int) := SliceR IntR
abbrev RowsR : Repr (List (List Int)) := SliceR IntsR
abbrev BoolsR : Repr (List Bool) := SliceR BoolR
abbrev StrsR : Repr (List ByteArray) := SliceR StrR
theorem stable_ints : Stable IntsR := stable_slice stable_int
theorem stable_rows : Stable RowsR := stable_slice stable_ints
theorem stable_bools : Stable BoolsR := stable_slice stable_bool
theorem stable_strs : Stable StrsR := stable_slice stable_str

theorem _root_.Go.RowKit.Below.sameZone {w w' : World} (h : Below w.heap.size w w') (z : Zone) : Same z w w' := fun k _ hl => h.block k hl
theorem Stable.below {α : Type} {E : Repr α} (hE : Stable E) {z w w' v x} (h : E z w v x) (hb : Below w.heap.size w w') : E z w' v x := hE.keep h (hb.sameZone z)
theorem _root_.Go.RowKit.Below.hiZone {B : Nat} {w w' : World} (h : Below B w w') (hB : w.heap.size ≤ B) (z : Zone) : Same z w w' := fun k _ hl => h.block k (by omega)

/-- what a call hands back: the value, and that old memory is as it was -/
def Ret (w : World) (P : Value → World → Prop) (e : Ending) (w' : World) : Prop := ∃ v, e = .returned v ∧ P v w' ∧ Below w.heap.size w w'
/-- nothing but a count of draws has turned -/
def Drew (w w' : World) : Prop := ∃ n, w' = w.drewN n
theorem Drew.refl (w : World) : Drew w w := ⟨0, rfl⟩
theorem Drew.drewN {a w : World} (h : Drew a w) (n : Nat) : Drew a (w.drewN n) := by obtain ⟨k, rfl⟩ := h; exact ⟨_, World.drewN_drewN ..⟩
theorem Drew.drew {a w : World} (h : Drew a w) : Drew a w.drew := h.drewN 1
theorem Drew.trans {a b c : World} (h : Drew a b) (k : Drew b c) : Drew a c := by obtain ⟨n, rfl⟩ := k; exact h.drewN n
theorem Drew.cell {w w' : World} (h : Drew w w') (p : Addr) : w'.cell? p = w.cell? p := by obtain ⟨n, rfl⟩ := h; rfl
theorem Drew.below {w w' : World} (h : Drew w w') (B : Nat) : Below B w w' := by obtain ⟨n, rfl⟩ := h; exact ⟨rfl, rfl, rfl, Nat.le_refl _, fun _ _ => rfl⟩
theorem Drew.size {w w' : World} (h : Drew w w') : w'.heap.size = w.heap.size := by obtain ⟨n, rfl⟩ := h; rfl
theorem Drew.heap {w w' : World} (h : Drew w w') : w'.heap = w.heap := by obtain ⟨n, rfl⟩ := h; rfl
/-- .. of a call that only reads -/
def RetQ (w : World) (v : Value) (e : Ending) (w' : World) : Prop := e = .returned v ∧ Drew w w'
theorem RetQ.quiet {P : Program} {f : FuncId} {args : Array Value} {w : World} {n : Nat} {v : Value} (h : Calls P f args (w.drewN n) (RetQ (w.drewN n) v)) : Calls P f args (w.drewN n) fun e w'' => e = .returned v ∧ ∃ m, w'' = w.drewN m :=
  Calls.quiet_of (h.mono fun _ _ ⟨he, hd⟩ => ⟨he, hd⟩)
theorem _root_.Go.RowKit.Below.drewN {B : Nat} {a w : World} (h : Below B a w) (n : Nat) : Below B a (w.drewN n) := ⟨h.os, h.tape, h.output, h.size, h.block⟩
theorem RetQ.ret {w : World} {v : Value} {e : Ending} {w' : World} (h : RetQ w v e w') : Ret w (fun r _ => r = v) e w' := by
  obtain ⟨rfl, hd⟩ := h
  exact ⟨v, rfl, rfl, hd.below _⟩

/-! ### one element of a slice, for the walk -/
theorem SliceR.shape {α : Type} {E : Repr α} {z w v xs} (h : SliceR E z w v xs) : ∃ (a : Option Addr) (n cap : Nat), v = .slice a n cap ∧ n = xs.length ∧ n ≤ 9223372036854775807 ∧ n ≤ cap ∧ cap ≤ maxLen ∧ (a = none → n = 0 ∧ cap = 0) ∧
    ∀ i (hi : i < xs.length), ∃ b off, a = some ⟨b, off, none⟩ ∧ z.Has b ∧ b < w.heap.size ∧ (z.own = true → w.frozen? ⟨b, off + i, none⟩ = false) ∧ ∃ u y, w.cell? ⟨b, off + i, none⟩ = some u ∧ y.Sub z ∧ (z.own = true → ¬ y.Has b) ∧ E y w u xs[i] := by
  obtain ⟨a, cap, rfl, h1, h2, h3, h4⟩ := h
  have h2' := h2
  unfold maxLen at h2'
  refine ⟨a, _, cap, rfl, rfl, by omega, h1, h2, fun hn => ⟨by simp [(h3 hn).1], (h3 hn).2⟩, fun i hi => ?_⟩
  cases a with
  | none => have := (h3 rfl).1; subst this; simp at hi
  | some ad =>
    obtain ⟨k1, k2, k3, k4, Z, k5, k6, k7⟩ := h4 ad rfl (by omega)
    obtain ⟨bl, off, sp⟩ := ad
    simp only at k1; subst k1
    obtain ⟨u, c1, c2⟩ := k7 i hi
    exact ⟨bl, off, rfl, k2, k3, fun ho => k4 ho i hi, u, Z i, c1, k5 i hi, fun ho => (k6 ho).1 i hi, c2⟩

/-- a slice of integers: element i, by getD -/
theorem IntsR.shape {z w v xs} (h : IntsR z w v xs) : ∃ (a : Option Addr) (n cap : Nat), v = .slice a n cap ∧ n = xs.length ∧ n ≤ 9223372036854775807 ∧ n ≤ cap ∧ cap ≤ maxLen ∧ (a = none → n = 0 ∧ cap = 0) ∧
    ∀ i, i < n → ∃ b off, a = some ⟨b, off, none⟩ ∧ w.cell? ⟨b, off + i, none⟩ = some (.int .i64 (xs.getD i 0)) ∧ I64 (xs.getD i 0) ∧ (0 < i → w.cell? ⟨b, off + (i - 1), none⟩ = some (.int .i64 (xs.getD (i-1) 0)) ∧ I64 (xs.getD (i-1) 0)) := by
  obtain ⟨a, n, cap, rfl, rfl, h1, h2, h3, h4, h5⟩ := SliceR.shape h
  refine ⟨a, _, cap, rfl, rfl, h1, h2, h3, h4, fun i hi => ?_⟩
  obtain ⟨b, off, rfl, _, _, _, u, y, c1, _, _, rfl, c3⟩ := h5 i hi
  refine ⟨b, off, rfl, by simpa [hi] using c1, by simpa [hi] using c3, fun hp => ?_⟩
  obtain ⟨b', off', he, _, _, _, u, y, c1, _, _, rfl, c3⟩ := h5 (i - 1) (by omega)
  obtain ⟨rfl, rfl⟩ : b = b' ∧ off = off' := by simpa using he
  have hi' : i - 1 < xs.length := by omega
  exact ⟨by simpa [hi'] using c1, by simpa [hi'] using c3⟩

theorem IntsR.mem {z w v xs} (h : IntsR z w v xs) : ∀ x ∈ xs, I64 x := by
  intro x hx
  obtain ⟨i, hi, rfl⟩ := List.getElem_of_mem hx
  obtain ⟨_, _, _, _, _, _, _, _, _, h5⟩ := SliceR.shape h
  obtain ⟨_, _, _, _, _, _, _, _, _, _, _, _, c3⟩ := h5 i hi
  exact c3

/-- a slice of other things: element i -/
theorem SliceR.elem {α : Type} {E : Repr α} (hE : Stable E) {z w v xs} (h : SliceR E z w v xs) : ∃ (a : Option Addr) (n cap : Nat), v = .slice a n cap ∧ n = xs.length ∧ n ≤ 9223372036854775807 ∧
    ∀ i (hi : i < xs.length), ∃ b off, a = some ⟨b, off, none⟩ ∧ b < w.heap.size ∧ ∃ u, w.cell? ⟨b, off + i, none⟩ = some u ∧ E ⟨z.lo, z.hi, false⟩ w u xs[i] := by
  obtain ⟨a, n, cap, rfl, h0, h1, h2, h3, h4, h5⟩ := SliceR.shape h
  refine ⟨a, n, cap, rfl, h0, h1, fun i hi => ?_⟩
  obtain ⟨b, off, rfl, _, c0, _, u, y, c1, c2, _, c3⟩ := h5 i hi
  exact ⟨b, off, rfl, c0, u, c1, hE.sub c3 ⟨c2.1, fun h => by cases h⟩⟩

/-! ### what a call has made itself -/
/-- v is a row of the call's own, from block B on: its elements are f of xs -/
def OwnP {α : Type} (f : α → Value) (e : TypeId) (B : Nat) (w : World) (v : Value) (xs : List α) : Prop := w.ownsRow B e 1 v xs.length (xs.map f)

section
variable {α : Type} {f : α → Value} {e : TypeId} {B : Nat} {w w' : World} {v : Value} {xs : List α}

theorem OwnP.shape (h : OwnP f e B w v xs) : ∃ (a : Option Addr) (n cap : Nat), v = .slice a n cap ∧ n = xs.length ∧ n ≤ 9223372036854775807 ∧
    ∀ i (hi : i < xs.length), ∃ b, a = some ⟨b, 0, none⟩ ∧ B ≤ b ∧ b < w.heap.size ∧ w.cell? ⟨b, i, none⟩ = some (f xs[i]) ∧ w.frozen? ⟨b, i, none⟩ = false := by
  obtain ⟨h1, h2⟩ := h
  rcases h2 with ⟨rfl, h0⟩ | ⟨g, cap, cur, rfl, hb, hg, hnc, hcm, hcs, htake⟩
  · exact ⟨none, 0, 0, rfl, by omega, by omega, fun i hi => by omega⟩
  · unfold maxLen at hcm
    refine ⟨_, _, cap, rfl, rfl, by omega, fun i hi => ⟨g, rfl, hb, (Array.getElem?_eq_some_iff.1 hg).1, ?_, frozen_of_row w g _ cur e hg⟩⟩
    rw [cell_of_row w g i cur e (0, 0) hg]
    have : (cur.toList.take (xs.length * 1))[i]? = (xs.map f)[i]? := by rw [htake]
    rw [List.getElem?_take, if_pos (by omega)] at this
    simpa [hi] using this

theorem OwnP.reads {E : Repr α} (h : OwnP f e B w v xs) (hE : ∀ z x, x ∈ xs → E z w (f x) x) {lo hi : Nat} (hlo : lo ≤ B) (hhi : w.heap.size ≤ hi) : SliceR E ⟨lo, hi, true⟩ w v xs := by
  obtain ⟨h1, h2⟩ := h
  rcases h2 with ⟨rfl, h0⟩ | ⟨g, cap, cur, rfl, hb, hg, hnc, hcm, hcs, htake⟩
  · obtain rfl : xs = [] := List.eq_nil_of_length_eq_zero h0
    exact ⟨none, 0, rfl, Nat.le_refl _, Nat.zero_le _, fun _ => ⟨rfl, rfl⟩, fun _ h _ => by cases h⟩
  · have hgl : g < w.heap.size := (Array.getElem?_eq_some_iff.1 hg).1
    refine ⟨some ⟨g, 0, none⟩, cap, rfl, hnc, hcm, (fun h => by cases h), fun ad had _ => ?_⟩
    cases had
    refine ⟨rfl, ⟨Nat.le_trans hlo hb, Nat.lt_of_lt_of_le hgl hhi⟩, hgl, fun _ i _ => frozen_of_row w g _ cur e hg, fun _ => ⟨0, 0, true⟩, fun i _ => ⟨fun k hk => absurd hk.2 (Nat.not_lt_zero _), fun _ => rfl⟩, fun _ => ⟨fun i _ hk => absurd hk.2 (Nat.not_lt_zero _), fun i j _ _ k hk => absurd hk.2 (Nat.not_lt_zero _)⟩, fun i hi' => ?_⟩
    refine ⟨f xs[i], ?_, hE _ _ (List.getElem_mem _)⟩
    show w.cell? ⟨g, 0 + i, none⟩ = _
    rw [Nat.zero_add, cell_of_row w g i cur e (0, 0) hg]
    have : (cur.toList.take (xs.length * 1))[i]? = (xs.map f)[i]? := by rw [htake]
    rw [List.getElem?_take, if_pos (by omega)] at this
    simpa [hi'] using this

theorem OwnP.ints {xs : List Int} (h : OwnP (Value.int .i64) e B w v xs) (hi : ∀ x ∈ xs, I64 x) {lo : Nat} (hlo : lo ≤ B) : IntsR ⟨lo, w.heap.size, true⟩ w v xs :=
  OwnP.reads h (fun _ x hx => ⟨rfl, hi x hx⟩) hlo (Nat.le_refl _)

theorem OwnP.kept {row : Option Nat} (h : OwnP f e B w v xs) (hg : w.grownBy w' row) (hne : v.ownBlock = none ∨ v.ownBlock ≠ row) : OwnP f e B w' v xs := World.ownsRow.kept h hg hne
theorem OwnP.alloc (h : OwnP f e B w v xs) (o : Obj) : OwnP f e B (w.alloc o) v xs := World.ownsRow.alloc h o
theorem OwnP.drewN (h : OwnP f e B w v xs) (n : Nat) : OwnP f e B (w.drewN n) v xs := h
theorem OwnP.block (h : OwnP f e B w v xs) : ∀ k, v.ownBlock = some k → B ≤ k ∧ k < w.heap.size := World.ownsRow.lt h
/-- a callee that leaves old memory alone leaves it -/
theorem OwnP.below (h : OwnP f e B w v xs) (hb : Below w.heap.size w w') : OwnP f e B w' v xs := by
  obtain ⟨h1, h2⟩ := h
  refine ⟨h1, ?_⟩
  rcases h2 with h2 | ⟨g, cap, cur, hv, hbg, hg, r⟩
  · exact .inl h2
  · exact .inr ⟨g, cap, cur, hv, hbg, by rw [hb.block g (Array.getElem?_eq_some_iff.1 hg).1]; exact hg, r⟩

theorem OwnP.none : OwnP f e B w (.slice none 0 0) [] := World.ownsRow_nil w B e 1
theorem OwnP.empty (hB : B ≤ w.heap.size) : OwnP f e B (w.alloc (.cells #[] e)) (.slice (some ⟨w.heap.size, 0, Option.none⟩) 0 0) [] := World.ownsRow_made w #[] 0 hB (Nat.zero_le _) rfl
theorem OwnP.one (hB : B ≤ w.heap.size) (x : α) : OwnP f e B (w.alloc (.cells #[f x] e)) (.slice (some ⟨w.heap.size, 0, Option.none⟩) 1 1) [x] := World.ownsRow_lit w #[f x] 1 hB (by unfold maxLen; omega) rfl
theorem OwnP.lit (hB : B ≤ w.heap.size) (ys : List α) (cs : Array Value) (hc : cs.toList = ys.map f) (hm : ys.length ≤ maxLen) : OwnP f e B (w.alloc (.cells cs e)) (.slice (some ⟨w.heap.size, 0, Option.none⟩) ys.length ys.length) ys := by
  unfold OwnP
  rw [← hc]
  exact World.ownsRow_lit w cs _ hB hm (by have := congrArg List.length hc; simp at this; omega)

theorem OwnP.len {a : Option Addr} {n cap : Nat} (h : OwnP f e B w (.slice a n cap) xs) : n = xs.length := by
  obtain ⟨_, _, _, he, h0, _⟩ := h.shape
  injection he with _ he _
  omega
theorem OwnP.at {g n cap : Nat} (h : OwnP f e B w (.slice (some ⟨g, 0, Option.none⟩) n cap) xs) {k : Nat} (hk : k < n) : ∃ hk' : k < xs.length, w.cell? ⟨g, k, Option.none⟩ = some (f xs[k]) ∧ w.frozen? ⟨g, k, Option.none⟩ = false := by
  obtain ⟨_, _, _, he, h0, _, h2⟩ := h.shape
  injection he with ha hn _
  obtain ⟨b', hb, _, _, h3, h4⟩ := h2 k (by omega)
  rw [hb] at ha
  injection ha with ha; injection ha with ha _ _
  subst ha
  exact ⟨by omega, h3, h4⟩

/-- a store into element k -/
theorem OwnP.store {g n cap : Nat} (h : OwnP f e B w (.slice (some ⟨g, 0, Option.none⟩) n cap) xs) (k : Nat) (x : α) : OwnP f e B (w.setCell ⟨g, k, Option.none⟩ (f x)) (.slice (some ⟨g, 0, Option.none⟩) n cap) (xs.set k x) := by
  have hn : n = xs.length := by
    rcases h.2 with ⟨h1, h2⟩ | ⟨g', cap', cur, h1, _⟩
    · cases h1
    · simp at h1; exact h1.2.1
  subst hn
  have := (World.ownsRow.stored h k (f x)).1
  unfold OwnP
  rwa [List.length_set, List.map_set]

/-- 'make([]T, n)' -/
theorem wpList_makeP {P : Program} {ops : Array Oper} {rest : List Oper} {o : Oper} {a : Act} {Q : Exit → Act → World → Prop}
    (hg : o.guard = Option.none) (l c : Operand) (t : TypeId) (hop : o.op = Op.makeSlice t l c) (e : TypeId) (B : Nat) (f : α → Value) (x0 : α) (bytes : Nat) (h1 : P.underlying t = some (.slice e)) (h2 : (P.info? e).map (fun i => (i.zero, i.size, i.bytes)) = some (some (f x0), 1, bytes))
    (hcell : (f x0).cells = #[f x0]) (n : Nat) (hl : a.eval l = .int .i64 n) (hc : a.eval c = .int .i64 n) (hn : n ≤ 1099511627776) (hby : bytes ≤ 64) (hB : B ≤ w.heap.size)
    (hK : ∀ w', OwnP f e B w' (.slice (some ⟨w.heap.size, 0, Option.none⟩) n n) (List.replicate n x0) → Below w.heap.size w w' → w'.heap.size = w.heap.size + 1 → wpList P ops Q rest (a.put o.dst (.slice (some ⟨w.heap.size, 0, Option.none⟩) n n)) w') :
    wpList P ops Q (o :: rest) a w := by
  obtain ⟨i, hi, hz0, hz1, hz2⟩ := info_parts h2
  refine wpList_plain hg fun K hK' => ?_
  have hbb : bytes * n ≤ 281474976710656 := Nat.le_trans (Nat.mul_le_mul hby hn) (by omega)
  have hbi : (i.bytes : Int) * (n : Int) ≤ 281474976710656 := by
    have h : ((bytes * n : Nat) : Int) ≤ 281474976710656 := by omega
    rw [hz2]; rwa [Int.natCast_mul] at h
  have hr := run_make (P := P) w t e i (f x0) h1 hi hz0 .i64 .i64 n n (by omega) (Int.le_refl _) hbi (by omega)
  simp only [Int.toNat_natCast, hz1, Nat.mul_one] at hr
  unfold Oper.wp
  simp [execOp, hop, hl, hc, hr, Result.andThen]
  refine hK' _ _ (hK _ ?_ ((Below.refl _ _).alloc (Nat.le_refl _) _) (by simp))
  unfold OwnP
  have e1 : (madeCells (f x0).cells n).toList = (List.replicate n x0).map f := by rw [hcell, toList_madeCells_one]; simp
  rw [← e1, List.length_replicate]
  exact World.ownsRow_lit w _ n hB (by unfold maxLen; omega) (by rw [size_madeCells]; omega)

/-- 'append(s, x...)', s of the call's own: whatever is appended is read as ys -/
theorem wpList_appendP {P : Program} {ops : Array Oper} {rest : List Oper} {o : Oper} {a : Act} {Q : Exit → Act → World → Prop} (hgd : o.guard = Option.none) (s x : Operand) (t : TypeId)
    (ho : o.op = .call { callee := .builtin .append, args := #[s, x], argTypes := #[t, t] }) (e : TypeId) (B : Nat) (f : α → Value) (x0 : α) (bytes : Nat) (ht : P.underlying t = some (.slice e)) (hinfo : (P.info? e).map (fun i => (i.zero, i.size, i.bytes)) = some (some (f x0), 1, bytes))
    (hcell : (f x0).cells = #[f x0]) (h1 : ∀ x, (f x).oneCell' = true) (v : Value) (xs : List α) (hs : a.eval s = v) (hown : OwnP f e B w v xs)
    (ad : Addr) (m c : Nat) (ys : List α) (hx : a.eval x = .slice (some ad) m c) (hm : m = ys.length) (hnews : ∀ j (hj : j < ys.length), w.cell? (ad.add j) = some (f ys[j]))
    (hn : xs.length + ys.length ≤ 1099511627776) (hby : bytes ≤ 64) (hB : B ≤ w.heap.size)
    (h : ∀ v' w', OwnP f e B w' v' (xs ++ ys) → w.grownBy w' v.ownBlock → wpList P ops Q rest (a.put o.dst v') w') : wpList P ops Q (o :: rest) a w := by
  obtain ⟨i, hi, hz0, hz1, hz2⟩ := info_parts hinfo
  have hbb : (xs.length + ys.length) * bytes ≤ 140737488355328 := Nat.le_trans (Nat.mul_le_mul hn hby) (by omega)
  subst hm
  refine wpList_append_own w hgd s x t ho B e i (f x0) 1 bytes ht hi hz0 hz1 hz2 (by rw [hcell]; rfl) (by omega) v xs.length (xs.map f) hs hown ad ys.length c (ys.map f) hx (by simp) ?_ ?_ (by unfold maxLen; omega) hbb hB ?_
  · intro j u hu
    rw [List.getElem?_map] at hu
    obtain ⟨y, hy, rfl⟩ := Option.map_eq_some_iff.1 hu
    obtain ⟨hj, rfl⟩ := List.getElem?_eq_some_iff.1 hy
    exact hnews j hj
  · intro u hu
    obtain ⟨y, _, rfl⟩ := List.mem_map.1 hu
    exact h1 y
  · intro v' w' hv' hg _
    refine h v' w' ?_ hg
    unfold OwnP
    rw [List.length_append, List.map_append]
    exact hv'
end

/-! ### writing into what is owned -/
/-- the blocks of the zone may have been written; nothing else has turned -/
structure Within (z : Zone) (w w' : World) : Prop where
  os : w'.os = w.os
  tape : w'.tape = w.tape
  output : w'.output = w.output
  size : w'.heap.size = w.heap.size
  block : ∀ k, ¬ z.Has k → w'.heap[k]? = w.heap[k]?

theorem Within.refl (z : Zone) (w : World) : Within z w w := ⟨rfl, rfl, rfl, rfl, fun _ _ => rfl⟩
theorem Within.drewN {z : Zone} {a w : World} (h : Within z a w) (n : Nat) : Within z a (w.drewN n) := ⟨h.os, h.tape, h.output, h.size, h.block⟩
theorem Within.trans {z : Zone} {a b c : World} (h : Within z a b) (k : Within z b c) : Within z a c := ⟨k.os.trans h.os, k.tape.trans h.tape, k.output.trans h.output, k.size.trans h.size, fun i hi => (k.block i hi).trans (h.block i hi)⟩
theorem Within.sub {y z : Zone} {w w' : World} (h : Within y w w') (hs : y.Sub z) : Within z w w' := ⟨h.os, h.tape, h.output, h.size, fun k hk => h.block k (fun hy => hk (hs.1 k hy))⟩
theorem Within.setCell {z : Zone} {a w : World} (h : Within z a w) {p : Addr} (hp : z.Has p.block) (u : Value) : Within z a (w.setCell p u) :=
  h.trans ⟨rfl, rfl, rfl, by simp [World.setCell], fun k hk => Below.heap_setCell _ _ _ _ (fun e => hk (e ▸ hp))⟩
theorem Within.below {z : Zone} {w w' : World} (h : Within z w w') {B : Nat} (hB : B ≤ z.lo) : Below B w w' := ⟨h.os, h.tape, h.output, (by rw [h.size]; exact Nat.le_refl _), fun k hk => h.block k (fun hz => by have := hz.1; omega)⟩
theorem Within.same {y z : Zone} {w w' : World} (h : Within y w w') (ha : z.Apart y) : Same z w w' := fun k hk _ => h.block k (fun hy => ha k hk hy)
theorem Stable.within {α : Type} {E : Repr α} (hE : Stable E) {y z w w' v x} (h : E z w v x) (hw : Within y w w') (ha : z.Apart y) : E z w' v x := hE.keep h (hw.same ha)

theorem SliceR.store {α : Type} {E : Repr α} (hE : Stable E) {z : Zone} {w : World} {b off n cap : Nat} {xs : List α} (h : SliceR E z w (.slice (some ⟨b, off, none⟩) n cap) xs) (ho : z.own = true) (i : Nat) (hi : i < n) (u : Value) (x : α) (hu : ∀ y w', E y w' u x) :
    SliceR E z (w.setCell ⟨b, off + i, none⟩ u) (.slice (some ⟨b, off, none⟩) n cap) (xs.set i x) := by
  obtain ⟨a, cap', he, h1, h2, h3, h4⟩ := h
  injection he with ha hn hc
  subst ha; subst hc; subst hn
  refine ⟨some ⟨b, off, none⟩, cap, by simp, by simpa using h1, h2, (fun h => by cases h), fun ad had _ => ?_⟩
  cases had
  obtain ⟨k1, k2, k3, k4, Z, k5, k6, k7⟩ := h4 _ rfl (by omega)
  refine ⟨k1, k2, by simpa [World.setCell] using k3, fun ho j hj => ?_, Z, fun j hj => k5 j (by simpa using hj), fun ho => ⟨fun j hj => (k6 ho).1 j (by simpa using hj), fun j l hjl hl => (k6 ho).2 j l hjl (by simpa using hl)⟩, fun j hj => ?_⟩
  · rw [World.frozen?_setCell]; exact k4 ho j (by simpa using hj)
  · have hj' : j < xs.length := by simpa using hj
    obtain ⟨u', c1, c2⟩ := k7 j hj'
    by_cases e : j = i
    · subst e
      exact ⟨u, World.cell?_setCell_same _ _ _ c1, by rw [List.getElem_set_self]; exact hu _ _⟩
    · refine ⟨u', ?_, ?_⟩
      · rw [World.cell?_setCell_other _ _ _ _ (by intro h; injection h with _ h _; simp only at h; omega)]; exact c1
      · rw [List.getElem_set_ne (by omega)]
        refine hE.keep c2 (fun k hk _ => Below.heap_setCell _ _ _ _ (fun e => ?_))
        exact (k6 ho).1 j hj' (e ▸ hk)

/-- an element's own zone, written by whoever -/
theorem SliceR.inner {α : Type} {E : Repr α} (hE : Stable E) {z : Zone} {w : World} {v : Value} {xs : List α} (h : SliceR E z w v xs) (ho : z.own = true) (i : Nat) (hi : i < xs.length) :
    ∃ b off n cap u Y, v = .slice (some ⟨b, off, none⟩) n cap ∧ n = xs.length ∧ w.cell? ⟨b, off + i, none⟩ = some u ∧ E Y w u xs[i] ∧ Y.Sub z ∧ Y.own = true ∧
      ∀ w' x', Within Y w w' → E Y w' u x' → SliceR E z w' v (xs.set i x') := by
  obtain ⟨a, cap, rfl, h1, h2, h3, h4⟩ := h
  cases a with
  | none => rw [(h3 rfl).1] at hi; simp at hi
  | some ad =>
    obtain ⟨k1, k2, k3, k4, Z, k5, k6, k7⟩ := h4 _ rfl (by omega)
    obtain ⟨b, off, sp⟩ := ad
    simp only at k1; subst k1
    obtain ⟨u, c1, c2⟩ := k7 i hi
    refine ⟨b, off, _, cap, u, Z i, rfl, rfl, c1, c2, k5 i hi, (k5 i hi).2 ho, fun w' x' hw hx => ?_⟩
    have hb : w'.heap[b]? = w.heap[b]? := hw.block b ((k6 ho).1 i hi)
    refine ⟨some ⟨b, off, none⟩, cap, by simp, by simpa using h1, h2, (fun h => by cases h), fun ad had _ => ?_⟩
    cases had
    refine ⟨rfl, k2, by rw [hw.size]; exact k3, fun ho j hj => ?_, Z, fun j hj => k5 j (by simpa using hj), fun ho => ⟨fun j hj => (k6 ho).1 j (by simpa using hj), fun j l hjl hl => (k6 ho).2 j l hjl (by simpa using hl)⟩, fun j hj => ?_⟩
    · rw [World.frozen?_of_block (w := w) (a := ⟨b, off + j, none⟩) hb]; exact k4 ho j (by simpa using hj)
    · have hj' : j < xs.length := by simpa using hj
      obtain ⟨u', c1', c2'⟩ := k7 j hj'
      refine ⟨u', by rw [World.cell?_of_block (w := w) (a := ⟨b, off + j, none⟩) hb]; exact c1', ?_⟩
      by_cases e : j = i
      · subst e
        have : u' = u := by rw [c1'] at c1; injection c1
        subst this
        rw [List.getElem_set_self]; exact hx
      · rw [List.getElem_set_ne (by omega)]
        refine hE.within c2' hw ?_
        rcases Nat.lt_or_gt_of_ne e with hlt | hgt
        · exact (k6 ho).2 j i hlt hi
        · exact fun k a b => (k6 ho).2 i j hgt hj' k b a

theorem Stable.drew {α : Type} {E : Repr α} (hE : Stable E) {z w w' v x} (h : E z w v x) (hd : Drew w w') : E z w' v x := hE.below h (hd.below _)
theorem Stable.drewN {α : Type} {E : Repr α} (hE : Stable E) {z w v x} (h : E z w v x) (n : Nat) : E z (w.drewN n) v x := hE.keep h (fun _ _ _ => rfl)
theorem SliceR.nil {α : Type} (E : Repr α) (z : Zone) (w : World) : SliceR E z w (.slice none 0 0) [] := ⟨none, 0, rfl, Nat.le_refl _, Nat.zero_le _, fun _ => ⟨rfl, rfl⟩, fun _ h _ => by cases h⟩

/-- a store of an element that a callee has just made -/
theorem SliceR.storeNew {α : Type} {E : Repr α} (hE : Stable E) {z : Zone} {w w1 : World} {b off n cap : Nat} {xs : List α} (h : SliceR E z w (.slice (some ⟨b, off, none⟩) n cap) xs) (ho : z.own = true) (hz : z.hi ≤ w.heap.size) (i : Nat) (hi : i < n) (u : Value) (x : α)
    (hb : Below w.heap.size w w1) (hu : E ⟨w.heap.size, w1.heap.size, true⟩ w1 u x) :
    SliceR E ⟨z.lo, w1.heap.size, true⟩ (w1.setCell ⟨b, off + i, none⟩ u) (.slice (some ⟨b, off, none⟩) n cap) (xs.set i x) := by
  obtain ⟨a, cap', he, h1, h2, h3, h4⟩ := h
  injection he with ha hn hc
  subst ha; subst hc; subst hn
  have hsz := hb.size
  refine ⟨some ⟨b, off, none⟩, cap, by simp, by simpa using h1, h2, (fun h => by cases h), fun ad had _ => ?_⟩
  cases had
  obtain ⟨k1, k2, k3, k4, Z, k5, k6, k7⟩ := h4 _ rfl (by omega)
  simp only at k2 k3 k4 k7
  have hbz := k2.2
  have k6' := k6 ho
  have hset : ∀ k, k ≠ b → (w1.setCell ⟨b, off + i, none⟩ u).heap[k]? = w1.heap[k]? := fun k hk => Below.heap_setCell _ _ _ _ hk
  refine ⟨k1, ⟨k2.1, by show b < w1.heap.size; omega⟩, by simp only [World.setCell, Array.size_modify]; omega, fun _ j hj => ?_, fun j => if j = i then ⟨w.heap.size, w1.heap.size, true⟩ else Z j, fun j hj => ?_, fun _ => ⟨fun j hj => ?_, fun j l hjl hl => ?_⟩, fun j hj => ?_⟩
  · rw [World.frozen?_setCell, World.frozen?_of_block (w := w) (a := ⟨b, off + j, none⟩) (hb.block b (by omega))]; exact k4 ho j (by simpa using hj)
  · by_cases e : j = i
    · simp only [e, if_true]
      exact ⟨fun k hk => ⟨by have h1 := k2.1; have h2 := hk.1; simp only at h1 h2 ⊢; omega, hk.2⟩, fun _ => rfl⟩
    · simp only [e, if_false]
      have hs := k5 j (by simpa using hj)
      exact ⟨fun k hk => ⟨(hs.1 k hk).1, by have := (hs.1 k hk).2; show k < w1.heap.size; omega⟩, fun _ => hs.2 ho⟩
  · by_cases e : j = i
    · simp only [e, if_true]; intro hk; have := hk.1; simp only at this; omega
    · simp only [e, if_false]; exact k6'.1 j (by simpa using hj)
  · have hl' : l < xs.length := by simpa using hl
    have hj' : j < xs.length := by omega
    intro k ha hc
    by_cases e1 : j = i
    · have e2 : l ≠ i := by omega
      simp only [e1, e2, if_true, if_false] at ha hc
      have q1 := ha.1
      have q2 := ((k5 l hl').1 k hc).2
      simp only at q1; omega
    · by_cases e2 : l = i
      · simp only [e1, e2, if_true, if_false] at ha hc
        have q1 := hc.1
        have q2 := ((k5 j hj').1 k ha).2
        simp only at q1; omega
      · simp only [e1, e2, if_false] at ha hc
        exact k6'.2 j l hjl hl' k ha hc
  · have hj' : j < xs.length := by simpa using hj
    obtain ⟨u', c1, c2⟩ := k7 j hj'
    have c1' : w1.cell? ⟨b, off + j, none⟩ = some u' := by rw [hb.cell (p := ⟨b, off + j, none⟩) (by show b < _; omega)]; exact c1
    by_cases e : j = i
    · subst e
      refine ⟨u, World.cell?_setCell_same _ _ _ c1', ?_⟩
      simp only [if_true, List.getElem_set_self]
      refine hE.keep hu (fun k hk _ => hset k ?_)
      have q := hk.1; simp only at q; omega
    · refine ⟨u', ?_, ?_⟩
      · rw [World.cell?_setCell_other _ _ _ _ (by intro h; injection h with _ h _; simp only at h; omega)]; exact c1'
      · simp only [e, if_false]
        rw [List.getElem_set_ne (by omega)]
        refine hE.keep (hE.below c2 hb) (fun k hk _ => hset k (fun e => ?_))
        exact k6'.1 j hj' (e ▸ hk)

theorem _root_.Go.Calls.vq {P : Program} {f : FuncId} {args : Array Value} {w : World} {v v' : Value} (h : Calls P f args w (RetQ w v)) (e : v = v') : Calls P f args w (RetQ w v') := e ▸ h

theorem SliceR.slot {α : Type} {E : Repr α} {z : Zone} {w : World} {b off n cap : Nat} {xs : List α} (h : SliceR E z w (.slice (some ⟨b, off, none⟩) n cap) xs) (ho : z.own = true) {k : Nat} (hk : k < n) :
    n = xs.length ∧ z.Has b ∧ b < w.heap.size ∧ w.frozen? ⟨b, off + k, none⟩ = false ∧ ∃ d, w.cell? ⟨b, off + k, none⟩ = some d := by
  obtain ⟨a, n', cap', he, hn, -, -, -, -, hel⟩ := SliceR.shape h
  injection he with e1 e2 e3
  subst e1; subst e2; subst e3
  obtain ⟨b', off', e, hb1, hb2, hf, u, y, hc, -⟩ := hel k (by omega)
  injection e with e; injection e with e1 e2 _
  subst e1; subst e2
  exact ⟨hn, hb1, hb2, hf ho, u, hc⟩

/-- a call of function F enters it (F has a body) -/
def Goes (P : Program) (F : FuncId) : Prop := ∀ args w, (callFunc F args).run P w = .ok (.enter F args) w
theorem goes_of {P : Program} {F : FuncId} {fn : Func} (hf : P.funcs[F]? = some fn) (hn : (fn.name == "runtime.NumGoroutine") = false) (hb : fn.body.isNone = false) : Goes P F := by
  intro args w
  have h1 : ¬ fn.name = "runtime.NumGoroutine" := by simpa using hn
  have h2 : ¬ fn.body = none := by cases h : fn.body <;> simp_all
  simp [callFunc, hf, h1, h2]

/-- 'append(s, x...)', s of the call's own, x any slice that reads as ys -/
theorem wpList_appendR {α : Type} {f : α → Value} {e : TypeId} {B : Nat} {w : World} {v : Value} {xs : List α} {P : Program} {ops : Array Oper} {rest : List Oper} {o : Oper} {a : Act} {Q : Exit → Act → World → Prop} (hgd : o.guard = Option.none) (s x : Operand) (t : TypeId)
    (ho : o.op = .call { callee := .builtin .append, args := #[s, x], argTypes := #[t, t] }) (x0 : α) (bytes : Nat) (ht : P.underlying t = some (.slice e)) (hinfo : (P.info? e).map (fun i => (i.zero, i.size, i.bytes)) = some (some (f x0), 1, bytes))
    (hcell : (f x0).cells = #[f x0]) (h1 : ∀ x, (f x).oneCell' = true) (hs : a.eval s = v) (hown : OwnP f e B w v xs)
    {E : Repr α} (hE : ∀ {z w u x}, E z w u x → u = f x) {z : Zone} {xv : Value} {ys : List α} (hx : a.eval x = xv) (hr : SliceR E z w xv ys)
    (hn : xs.length + ys.length ≤ 1099511627776) (hby : bytes ≤ 64) (hB : B ≤ w.heap.size)
    (h : ∀ v' w', OwnP f e B w' v' (xs ++ ys) → w.grownBy w' v.ownBlock → wpList P ops Q rest (a.put o.dst v') w') : wpList P ops Q (o :: rest) a w := by
  obtain ⟨ad, n, cap, rfl, hn', -, -, -, hnone, hel⟩ := SliceR.shape hr
  cases ad with
  | some ad =>
    refine wpList_appendP hgd s x t ho e B f x0 bytes ht hinfo hcell h1 v xs hs hown ad n cap ys hx hn' (fun j hj => ?_) hn hby hB h
    obtain ⟨b, off, he, _, _, _, u, y, hc, _, _, hu⟩ := hel j hj
    injection he with he
    subst he
    rw [Addr.add_lit, hc, hE hu]
  | none =>
    obtain ⟨rfl, rfl⟩ := hnone rfl
    obtain rfl : ys = [] := List.eq_nil_of_length_eq_zero hn'.symm
    refine wpList_plain hgd fun K hK' => ?_
    obtain ⟨i, hi, hz0, hz1, hz2⟩ := info_parts hinfo
    have hrun := run_append_owned_none (P := P) w B t o.type e i 1 ht hi _ _ _ hown
    unfold Oper.wp
    simp [execOp, ho, resolve, invoke, builtin, hs, hx, hrun, Result.andThen]
    refine hK' _ _ (h v w (by simpa using hown) (World.grownBy.refl _ _))

open Go.ChangeShapes Go.WideShapes Go.ChangeAt Go.RowKit
set_option linter.unusedVariables false

def inB (n lo hi : Int) : Bool := decide (lo ≤ n) && decide (n ≤ hi)

theorem l01In_c (w : World) (n lo hi : Int) : Calls Tryz.prog 54 #[.int .i64 n, .int .i64 lo, .int .i64 hi] w (RetQ w (.bool (inB n lo hi))) := by
  by_cases h1 : lo ≤ n
  · have HH : Hid (inB n lo hi = decide (n ≤ hi)) := by show _ = _; simp [inB, h1]
    go_enter Tryz.func54, Tryz.ntmps54
    go_wp2
    go_ret
    exact ⟨ret_bool' HH.out, Drew.refl _⟩
  · have HH : Hid (inB n lo hi = false) := by show _ = _; simp [inB, h1]
    go_enter Tryz.func54, Tryz.ntmps54
    go_wp2
    go_ret
    exact ⟨ret_bool' HH.out, Drew.refl _⟩

theorem within_c (w : World) (n lo hi : Int) : Calls Tryz.prog 51 #[.int .i64 n, .int .i64 lo, .int .i64 hi] w (RetQ w (.bool (inB n lo hi))) := by
  by_cases h1 : lo ≤ n
  · have HH : Hid (inB n lo hi = decide (n ≤ hi)) := by show _ = _; simp [inB, h1]
    go_enter Tryz.func51, Tryz.ntmps51
    go_wp2
    go_ret
    exact ⟨ret_bool' HH.out, Drew.refl _⟩
  · have HH : Hid (inB n lo hi = false) := by show _ = _; simp [inB, h1]
    go_enter Tryz.func51, Tryz.ntmps51
    go_wp2
    go_ret
    exact ⟨ret_bool' HH.out, Drew.refl _⟩

open Go.ChangeShapes Go.WideShapes Go.ChangeAt Go.RowKit
set_option linter.unusedVariables false

theorem Tryz.infoI64 : (Tryz.prog.info? 2).map (fun i => (i.zero, i.size, i.bytes)) = some (some (.int .i64 0), 1, 8) := by kernel_rfl
theorem Tryz.infoInts : (Tryz.prog.info? 41).map (fun i => (i.zero, i.size, i.bytes)) = some (some (.slice none 0 0), 1, 24) := by kernel_rfl

open Go.ChangeShapes Go.WideShapes Go.ChangeAt Go.RowKit
set_option linter.unusedVariables false

theorem grownBy_trans {a b c : World} {row : Option Nat} (h : a.grownBy b row) (k : b.grownBy c row) : a.grownBy c row :=
  ⟨k.os.trans h.os, k.tape.trans h.tape, k.output.trans h.output, Nat.le_trans h.size k.size, fun i hi hr => (k.block i (Nat.lt_of_lt_of_le hi h.size) hr).trans (h.block i hi hr)⟩

/-- 'append(s, y)', s of the call's own -/
theorem wpList_append1 {α : Type} {f : α → Value} {e : TypeId} {B : Nat} {w : World} {v : Value} {xs : List α} {P : Program} {ops : Array Oper} {rest : List Oper} {o : Oper} {a : Act} {Q : Exit → Act → World → Prop} (hgd : o.guard = Option.none) (s x : Operand) (t : TypeId)
    (ho : o.op = .call { callee := .builtin .append, args := #[s, x], argTypes := #[t, t] }) (x0 : α) (bytes : Nat) (ht : P.underlying t = some (.slice e)) (hinfo : (P.info? e).map (fun i => (i.zero, i.size, i.bytes)) = some (some (f x0), 1, bytes))
    (hcell : (f x0).cells = #[f x0]) (h1 : ∀ x, (f x).oneCell' = true) (hs : a.eval s = v) (hown : OwnP f e B w v xs) (y : α) (hx : a.eval x = .slice (some ⟨w.heap.size, 0, none⟩) 1 1)
    (hn : xs.length + 1 ≤ 1099511627776) (hby : bytes ≤ 64) (hB : B ≤ w.heap.size)
    (h : ∀ v' w', OwnP f e B w' v' (xs ++ [y]) → w.grownBy w' v.ownBlock → Below B w w' → wpList P ops Q rest (a.put o.dst v') w') : wpList P ops Q (o :: rest) a (w.alloc (.cells #[f y] e)) := by
  refine wpList_appendP hgd s x t ho e B f x0 bytes ht hinfo hcell h1 v xs hs (hown.alloc _) ⟨w.heap.size, 0, none⟩ 1 1 [y] hx rfl (fun j hj => ?_) hn hby (by simp; omega) (fun v' w' ho' hg => ?_)
  · have : j = 0 := by simpa using hj
    subst this
    rw [Addr.add_zero']
    simp
  · have hg' : w.grownBy w' v.ownBlock := grownBy_trans (World.grownBy_alloc w _ _) hg
    exact h v' w' ho' hg' ((Below.refl _ _).grown hg' hB (fun k hk => (hown.block k hk).1))

/-- the numbers below k that have it -/
def upto (p : Int → Bool) (k : Nat) : List Int := ((List.range k).filter fun (i : Nat) => p (i : Int)).map fun (i : Nat) => (i : Int)
theorem upto_zero (p : Int → Bool) : upto p 0 = [] := rfl
theorem upto_yes {p : Int → Bool} {k : Nat} (h : p k = true) : upto p (k+1) = upto p k ++ [(k : Int)] := by simp [upto, List.range_succ, h]
theorem upto_no {p : Int → Bool} {k : Nat} (h : p k = false) : upto p (k+1) = upto p k := by simp [upto, List.range_succ, h]
theorem upto_length (p : Int → Bool) (k : Nat) : (upto p k).length ≤ k := by
  have := List.length_filter_le (fun (i : Nat) => p (i : Int)) (List.range k)
  simpa [upto] using this
theorem upto_mem {p : Int → Bool} {k : Nat} {x : Int} : x ∈ upto p k ↔ 0 ≤ x ∧ x < k ∧ p x = true := by
  simp only [upto, List.mem_map, List.mem_filter, List.mem_range]
  constructor
  · rintro ⟨i, ⟨h1, h2⟩, rfl⟩; exact ⟨by omega, by omega, h2⟩
  · rintro ⟨h1, h2, h3⟩; exact ⟨x.toNat, ⟨by omega, by rw [show ((x.toNat : Nat) : Int) = x by omega]; exact h3⟩, by omega⟩
theorem upto_i64 {p : Int → Bool} {k : Nat} (hk : k ≤ 9223372036854775807) : ∀ x ∈ upto p k, I64 x := fun x hx => by
  have := upto_mem.1 hx; unfold I64; omega

/-- a bool and a code -/
def BoolCode (x : Bool × Int) : Value := .tuple #[.bool x.1, .int .i64 x.2]
def IntCode (x : Int × Int) : Value := .tuple #[.int .i64 x.1, .int .i64 x.2]
theorem BoolCode_mk {x : Bool × Int} {a : Bool} {b : Int} (h : x = (a, b)) : (.tuple #[.bool a, .int .i64 b] : Value) = BoolCode x := by rw [h]; rfl
theorem IntCode_mk {x : Int × Int} {a : Int} {b : Int} (h : x = (a, b)) : (.tuple #[.int .i64 a, .int .i64 b] : Value) = IntCode x := by rw [h]; rfl

/-- a list that the call has made, and a code -/
def IntsCode (w : World) (x : List Int × Int) (r : Value) (w' : World) : Prop := ∃ u, r = .tuple #[u, .int .i64 x.2] ∧ IntsR (.new w w') w' u x.1
def RowsCode (w : World) (x : List (List Int) × Int) (r : Value) (w' : World) : Prop := ∃ u, r = .tuple #[u, .int .i64 x.2] ∧ RowsR (.new w w') w' u x.1
theorem IntsCode_nil {w w' : World} {x : List Int × Int} {c : Int} (h : x = ([], c)) : IntsCode w x (.tuple #[.slice none 0 0, .int .i64 c]) w' := by rw [h]; exact ⟨_, rfl, SliceR.nil _ _ _⟩
theorem RowsCode_nil {w w' : World} {x : List (List Int) × Int} {c : Int} (h : x = ([], c)) : RowsCode w x (.tuple #[.slice none 0 0, .int .i64 c]) w' := by rw [h]; exact ⟨_, rfl, SliceR.nil _ _ _⟩
theorem IntsCode_own {w w' : World} {x : List Int × Int} {c : Int} {ys : List Int} {u : Value} {e : TypeId} (h : x = (ys, c)) (ho : OwnP (Value.int .i64) e w.heap.size w' u ys) (hm : ∀ y ∈ ys, I64 y) : IntsCode w x (.tuple #[u, .int .i64 c]) w' := by
  rw [h]; exact ⟨_, rfl, OwnP.ints ho hm (Nat.le_refl _)⟩
theorem IntsCode_mk {w w' : World} {x : List Int × Int} {c : Int} {ys : List Int} {u : Value} (h : x = (ys, c)) (hr : IntsR (.new w w') w' u ys) : IntsCode w x (.tuple #[u, .int .i64 c]) w' := by
  rw [h]; exact ⟨_, rfl, hr⟩

/-- 'append(s, x...)' as one step of a region that draws its order -/
theorem step_appendR {α : Type} {f : α → Value} {e : TypeId} {B : Nat} {w : World} {v : Value} {xs : List α} {P : Program} {ops : Array Oper} {o : Oper} {a : Act} {K : Act → World → Prop} {Q : Exit → Act → World → Prop} {X : Prop} (hgd : o.guard = Option.none) (s x : Operand) (t : TypeId)
    (ho : o.op = .call { callee := .builtin .append, args := #[s, x], argTypes := #[t, t] }) (x0 : α) (bytes : Nat) (ht : P.underlying t = some (.slice e)) (hinfo : (P.info? e).map (fun i => (i.zero, i.size, i.bytes)) = some (some (f x0), 1, bytes))
    (hcell : (f x0).cells = #[f x0]) (h1 : ∀ x, (f x).oneCell' = true) (hs : a.eval s = v) (hown : OwnP f e B w v xs)
    {E : Repr α} (hE : ∀ {z w u x}, E z w u x → u = f x) {z : Zone} {xv : Value} {ys : List α} (hx : a.eval x = xv) (hr : SliceR E z w xv ys)
    (hn : xs.length + ys.length ≤ 1099511627776) (hby : bytes ≤ 64) (hB : B ≤ w.heap.size)
    (h : ∀ v' w', OwnP f e B w' v' (xs ++ ys) → w.grownBy w' v.ownBlock → K (a.put o.dst v') w') : if Region.wanted o (yielded ops a.tmps) = true then Oper.wp P o a w K Q else X := by
  have hw : Region.wanted o (yielded ops a.tmps) = true := by simp [Region.wanted, hgd]
  rw [if_pos hw]
  obtain ⟨i, hi, hz0, hz1, hz2⟩ := info_parts hinfo
  have hbb : (xs.length + ys.length) * bytes ≤ 140737488355328 := Nat.le_trans (Nat.mul_le_mul hn hby) (by omega)
  obtain ⟨ad, n, cap, rfl, hn', -, -, -, hnone, hel⟩ := SliceR.shape hr
  cases ad with
  | some ad =>
    subst hn'
    refine wp_append_own w s x t ho B e i (f x0) 1 bytes ht hi hz0 hz1 hz2 (by rw [hcell]; rfl) (by omega) v xs.length (xs.map f) hs hown ad ys.length cap (ys.map f) hx (by simp) ?_ ?_ (by unfold maxLen; omega) hbb hB ?_
    · intro j u hu
      rw [List.getElem?_map] at hu
      obtain ⟨y, hy, rfl⟩ := Option.map_eq_some_iff.1 hu
      obtain ⟨hj, rfl⟩ := List.getElem?_eq_some_iff.1 hy
      obtain ⟨b, off, he, _, _, _, u', y', hc, _, _, hu'⟩ := hel j hj
      injection he with he
      subst he
      rw [Addr.add_lit, hc, hE hu']
    · intro u hu
      obtain ⟨y, _, rfl⟩ := List.mem_map.1 hu
      exact h1 y
    · intro v' w' hv' hg _
      refine h v' w' ?_ hg
      unfold OwnP
      rw [List.length_append, List.map_append]
      exact hv'
  | none =>
    obtain ⟨rfl, rfl⟩ := hnone rfl
    obtain rfl : ys = [] := List.eq_nil_of_length_eq_zero hn'.symm
    have hrun := run_append_owned_none (P := P) w B t o.type e i 1 ht hi _ _ _ hown
    unfold Oper.wp
    simp [execOp, ho, resolve, invoke, builtin, hs, hx, hrun, Result.andThen]
    exact h v w (by simpa using hown) (World.grownBy.refl _ _)

/-- a slice cut at k: its front and its rest -/
theorem SliceR.front {α : Type} {E : Repr α} {z : Zone} {w : World} {a : Option Addr} {n cap : Nat} {xs : List α} (h : SliceR E z w (.slice a n cap) xs) (k : Nat) (hk : k ≤ n) : SliceR E z w (.slice a k cap) (xs.take k) := by
  obtain ⟨a', cap', he, h1, h2, h3, h4⟩ := h
  injection he with e1 e2 e3
  subst e1; subst e2; subst e3
  have hl : (xs.take k).length = k := by simp; omega
  refine ⟨a, cap, by rw [hl], by omega, h2, fun h => ⟨by rw [(h3 h).1]; simp, (h3 h).2⟩, fun ad had hpos => ?_⟩
  rw [hl] at hpos
  obtain ⟨k1, k2, k3, k4, Z, k5, k6, k7⟩ := h4 ad had (by omega)
  refine ⟨k1, k2, k3, fun ho i hi => k4 ho i (by omega), Z, fun i hi => k5 i (by omega), fun ho => ⟨fun i hi => (k6 ho).1 i (by omega), fun i j hij hj => (k6 ho).2 i j hij (by omega)⟩, fun i hi => ?_⟩
  obtain ⟨u, c1, c2⟩ := k7 i (by omega)
  exact ⟨u, c1, by rw [List.getElem_take]; exact c2⟩
theorem SliceR.rest {α : Type} {E : Repr α} {z : Zone} {w : World} {b off : Nat} {n cap : Nat} {xs : List α} (h : SliceR E z w (.slice (some ⟨b, off, none⟩) n cap) xs) (k : Nat) (hk : k ≤ n) {a : Option Addr} (ha : a = if cap = k then some ⟨b, off, none⟩ else some ⟨b, off + k, none⟩) :
    SliceR E z w (.slice a (n - k) (cap - k)) (xs.drop k) := by
  obtain ⟨a', cap', he, h1, h2, h3, h4⟩ := h
  injection he with e1 e2 e3
  subst e1; subst e2; subst e3
  have hl : (xs.drop k).length = xs.length - k := by simp
  refine ⟨a, cap - k, by rw [hl], by omega, by unfold maxLen at *; omega, (fun h => by rw [ha] at h; split at h <;> cases h), fun ad had hpos => ?_⟩
  rw [hl] at hpos
  have hne : ¬ cap = k := by omega
  rw [ha, if_neg hne] at had
  cases had
  obtain ⟨k1, k2, k3, k4, Z, k5, k6, k7⟩ := h4 _ rfl (by omega)
  refine ⟨rfl, k2, k3, fun ho i hi => ?_, fun i => Z (k + i), fun i hi => k5 (k + i) (by omega), fun ho => ⟨fun i hi => (k6 ho).1 (k + i) (by omega), fun i j hij hj => (k6 ho).2 (k + i) (k + j) (by omega) (by omega)⟩, fun i hi => ?_⟩
  · have := k4 ho (k + i) (by omega)
    show w.frozen? ⟨b, off + k + i, none⟩ = false
    rw [Nat.add_assoc]; exact this
  · obtain ⟨u, c1, c2⟩ := k7 (k + i) (by omega)
    refine ⟨u, ?_, by rw [List.getElem_drop]; exact c2⟩
    show w.cell? ⟨b, off + k + i, none⟩ = some u
    rw [Nat.add_assoc]; exact c1

open Go.ChangeShapes Go.WideShapes Go.ChangeAt Go.RowKit
set_option linter.unusedVariables false

/-- a later world: what was there is as it was -/
def Ext (w w' : World) : Prop := Below w.heap.size w w'
theorem Ext.of {w w' : World} (h : Below w.heap.size w w') : Ext w w' := h
theorem Ext.below {w w' : World} (h : Ext w w') : Below w.heap.size w w' := h
theorem Ext.refl (w : World) : Ext w w := Below.refl _ _
theorem Ext.trans {a b c : World} (h : Ext a b) (k : Ext b c) : Ext a c := Below.trans h (Below.mono k (Below.size h))
theorem Ext.alloc (w : World) (o : Obj) : Ext w (w.alloc o) := (Below.refl _ _).alloc (Nat.le_refl _) o
theorem Ext.drew (w : World) : Ext w w.drew := (Below.refl _ _).drew
theorem Ext.drewN (w : World) (n : Nat) : Ext w (w.drewN n) := (Below.refl _ _).drewN n
theorem Ext.ofDrew {w w' : World} (h : Drew w w') : Ext w w' := h.below _
theorem Ext.size {w w' : World} (h : Ext w w') : w.heap.size ≤ w'.heap.size := Below.size h
theorem Ext.cell {w w' : World} (h : Ext w w') {p : Addr} {u : Value} (hc : w.cell? p = some u) : w'.cell? p = some u := (Below.cell h (World.block_lt_of_cell? _ _ hc)).trans hc
theorem Ext.to {a w w' : World} {B : Nat} (h : Ext w w') (k : Below B a w) (hB : B ≤ w.heap.size) : Below B a w' := k.trans (Below.mono h hB)
theorem Ext.to' {a w w' : World} (h : Ext a w) (k : Below a.heap.size w w') : Ext a w' := Below.trans h k
theorem Stable.ext {α : Type} {E : Repr α} (hE : Stable E) {z w w' v x} (h : E z w v x) (he : Ext w w') : E z w' v x := hE.below h he
theorem Stable.grow {α : Type} {E : Repr α} (hE : Stable E) {w a b c v x} (h : E (.new a b) b v x) (h1 : Ext w a) (h2 : Ext b c) : E (.new w c) c v x :=
  hE.sub (hE.ext h h2) ⟨fun k hk => ⟨Nat.le_trans h1.size hk.1, Nat.lt_of_lt_of_le hk.2 h2.size⟩, fun _ => rfl⟩
theorem ints_one (w : World) (d : Int) (e : TypeId) (hd : I64 d) : IntsR ⟨w.heap.size, (w.alloc (.cells #[.int .i64 d] e)).heap.size, true⟩ (w.alloc (.cells #[.int .i64 d] e)) (.slice (some ⟨w.heap.size, 0, none⟩) 1 1) [d] :=
  OwnP.ints (OwnP.one (Nat.le_refl _) d) (by intro y hy; rw [List.mem_singleton.1 hy]; exact hd) (Nat.le_refl _)
theorem ints_one_at {w : World} {g : Nat} (hg : w.heap.size = g) (d : Int) (e : TypeId) (hd : I64 d) : IntsR ⟨w.heap.size, (w.alloc (.cells #[.int .i64 d] e)).heap.size, true⟩ (w.alloc (.cells #[.int .i64 d] e)) (.slice (some ⟨g, 0, none⟩) 1 1) [d] := by
  subst hg; exact ints_one w d e hd
/-- a struct of two words by value lies in a block of its own -/
theorem box2 (w : World) (x y : Value) (t : TypeId) : Ext w (w.alloc (.cells #[x, y] t)) ∧ (w.alloc (.cells #[x, y] t)).cell? ⟨w.heap.size, 0, none⟩ = some x ∧ (w.alloc (.cells #[x, y] t)).cell? ⟨w.heap.size, 1, none⟩ = some y ∧ (w.alloc (.cells #[x, y] t)).heap.size = w.heap.size + 1 :=
  ⟨Ext.alloc _ _, by simp, by simp, by simp⟩
theorem Ret.mk {w w' : World} {P : Value → World → Prop} {v : Value} (h : P v w') (he : Ext w w') : Ret w P (.returned v) w' := ⟨v, rfl, h, he⟩
theorem ret_ext {w w' : World} {P : Value → World → Prop} {e : Ending} (h : Ret w P e w') : ∃ v, e = .returned v ∧ P v w' ∧ Ext w w' := h
theorem retq_ext {w w' : World} {v : Value} {e : Ending} (h : RetQ w v e w') : e = .returned v ∧ Drew w w' ∧ Ext w w' := ⟨h.1, h.2, h.2.below _⟩
theorem OwnP.ext {α : Type} {f : α → Value} {e : TypeId} {B : Nat} {w w' : World} {v : Value} {xs : List α} (h : OwnP f e B w v xs) (he : Ext w w') : OwnP f e B w' v xs := h.below he
theorem OwnP.grow {α : Type} {f : α → Value} {e : TypeId} {w a b c : World} {v : Value} {xs : List α} (h : OwnP f e a.heap.size b v xs) (h1 : Ext w a) (h2 : Ext b c) : OwnP f e w.heap.size c v xs := by
  obtain ⟨g1, g2⟩ := h.below h2
  refine ⟨g1, ?_⟩
  rcases g2 with g2 | ⟨g, cap, cur, hv, hb, r⟩
  · exact .inl g2
  · exact .inr ⟨g, cap, cur, hv, Nat.le_trans h1.size hb, r⟩
theorem OwnP.lower {α : Type} {f : α → Value} {e : TypeId} {B B' : Nat} {w : World} {v : Value} {xs : List α} (h : OwnP f e B w v xs) (hB : B' ≤ B) : OwnP f e B' w v xs := by
  obtain ⟨h1, h2⟩ := h
  refine ⟨h1, ?_⟩
  rcases h2 with h2 | ⟨g, cap, cur, hv, hb, r⟩
  · exact .inl h2
  · exact .inr ⟨g, cap, cur, hv, Nat.le_trans hB hb, r⟩
/-- element k of a row of the call's own, by getD -/
theorem OwnP.elem {α : Type} {f : α → Value} {e : TypeId} {B : Nat} {w : World} {a : Option Addr} {n cap : Nat} {xs : List α} (h : OwnP f e B w (.slice a n cap) xs) (d : α) (k : Nat) (hk : k < n) :
    ∃ g, a = some ⟨g, 0, Option.none⟩ ∧ B ≤ g ∧ g < w.heap.size ∧ w.cell? ⟨g, k, Option.none⟩ = some (f (xs.getD k d)) ∧ w.frozen? ⟨g, k, Option.none⟩ = false := by
  obtain ⟨a', n', cap', he, hn, -, hel⟩ := h.shape
  injection he with e1 e2 e3
  subst e1; subst e2; subst e3
  obtain ⟨g, h1, h2, h3, h4, h5⟩ := hel k (by omega)
  have hk' : k < xs.length := by omega
  exact ⟨g, h1, h2, h3, by simpa [hk'] using h4, h5⟩

open Go.ChangeShapes Go.WideShapes Go.ChangeAt Go.RowKit
set_option linter.unusedVariables false

/-- the numbers of a maker -/
structure MK where
  c : Int
  d : Int
  s : Int
  m : Int
  l : Int
def MK.v (m : MK) : Value := .agg #[.int .i64 m.c, .int .i64 m.d, .int .i64 m.s, .int .i64 m.m, .int .i64 m.l]
def MK.wide (m : MK) : Prop := I64 m.c ∧ I64 m.d ∧ I64 m.s ∧ I64 m.m ∧ I64 m.l
def isMaker (m : MK) : Bool := inB m.c 2 6 && (inB m.d 2 8 && (inB m.s 1 (m.d - 1) && (inB m.m 1 m.c && inB m.l 1 (min m.c m.d))))
theorem inB_iff {n lo hi : Int} : inB n lo hi = true ↔ lo ≤ n ∧ n ≤ hi := by simp [inB]
theorem isMaker_iff {m : MK} : isMaker m = true ↔ (2 ≤ m.c ∧ m.c ≤ 6) ∧ (2 ≤ m.d ∧ m.d ≤ 8) ∧ (1 ≤ m.s ∧ m.s ≤ m.d - 1) ∧ (1 ≤ m.m ∧ m.m ≤ m.c) ∧ (1 ≤ m.l ∧ m.l ≤ min m.c m.d) := by
  unfold isMaker; simp only [Bool.and_eq_true, inB_iff]

set_option maxRecDepth 20000 in
set_option maxHeartbeats 1000000 in
theorem IsMaker_c (w : World) (mk : MK) : Calls Tryz.prog 50 #[mk.v] w (Ret w fun r _ => r = .bool (isMaker mk)) := by
  obtain ⟨c, d, s, m, l⟩ := mk
  unfold MK.v isMaker
  simp only
  go_enter Tryz.func50, Tryz.ntmps50
  go_wp2_with fail
  generalize hw0 : World.alloc _ _ = w0
  have e0 : Ext w w0 := by rw [← hw0]; exact Ext.alloc _ _
  have c0 : w0.cell? ⟨w.heap.size, 0, none⟩ = some (.int .i64 c) := by rw [← hw0]; clear hw0; go_simp
  have c1 : w0.cell? ⟨w.heap.size, 1, none⟩ = some (.int .i64 d) := by rw [← hw0]; clear hw0; go_simp
  have c2 : w0.cell? ⟨w.heap.size, 2, none⟩ = some (.int .i64 s) := by rw [← hw0]; clear hw0; go_simp
  have c3 : w0.cell? ⟨w.heap.size, 3, none⟩ = some (.int .i64 m) := by rw [← hw0]; clear hw0; go_simp
  have c4 : w0.cell? ⟨w.heap.size, 4, none⟩ = some (.int .i64 l) := by rw [← hw0]; clear hw0; go_simp
  clear hw0
  have hcall := within_c w0 c 2 6
  refine Calls.mono hcall ?_
  rintro e w1 hr
  obtain ⟨rfl, hd, g0⟩ := retq_ext hr
  clear hr hcall
  have e1 := e0.trans g0
  replace c0 := (hd.cell _).trans c0
  replace c1 := (hd.cell _).trans c1
  replace c2 := (hd.cell _).trans c2
  replace c3 := (hd.cell _).trans c3
  replace c4 := (hd.cell _).trans c4
  cases h0 : inB c 2 6 with
  | false =>
    go_wp2_with fail
    go_ret
    exact ⟨.bool false, rfl, congrArg Value.bool (by simp [h0]), e1⟩
  | true =>
    have hcall := within_c w1 d 2 8
    go_wp2_with fail
    refine Calls.mono hcall ?_
    rintro e w2 hr
    obtain ⟨rfl, hd, g1⟩ := retq_ext hr
    clear hr hcall
    have e2 := e1.trans g1
    replace c0 := (hd.cell _).trans c0
    replace c1 := (hd.cell _).trans c1
    replace c2 := (hd.cell _).trans c2
    replace c3 := (hd.cell _).trans c3
    replace c4 := (hd.cell _).trans c4
    cases h1 : inB d 2 8 with
    | false =>
      go_wp2_with fail
      go_ret
      exact ⟨.bool false, rfl, congrArg Value.bool (by simp [h0, h1]), e2⟩
    | true =>
      have hd2 := inB_iff.1 h1
      have hcall := within_c w2 s 1 (d - 1)
      go_wp2_with fail
      refine Calls.mono hcall ?_
      rintro e w3 hr
      obtain ⟨rfl, hd, g2⟩ := retq_ext hr
      clear hr hcall
      have e3 := e2.trans g2
      replace c0 := (hd.cell _).trans c0
      replace c1 := (hd.cell _).trans c1
      replace c2 := (hd.cell _).trans c2
      replace c3 := (hd.cell _).trans c3
      replace c4 := (hd.cell _).trans c4
      cases h2 : inB s 1 (d - 1) with
      | false =>
        go_wp2_with fail
        go_ret
        exact ⟨.bool false, rfl, congrArg Value.bool (by simp [h0, h1, h2]), e3⟩
      | true =>
        have hcall := within_c w3 m 1 c
        go_wp2_with fail
        refine Calls.mono hcall ?_
        rintro e w4 hr
        obtain ⟨rfl, hd, g3⟩ := retq_ext hr
        clear hr hcall
        have e4 := e3.trans g3
        replace c0 := (hd.cell _).trans c0
        replace c1 := (hd.cell _).trans c1
        replace c2 := (hd.cell _).trans c2
        replace c3 := (hd.cell _).trans c3
        replace c4 := (hd.cell _).trans c4
        cases h3 : inB m 1 c with
        | false =>
          go_wp2_with fail
          go_ret
          exact ⟨.bool false, rfl, congrArg Value.bool (by simp [h0, h1, h2, h3]), e4⟩
        | true =>
          by_cases hcd : d < c
          · have hmin : min c d = d := by omega
            have hcall := within_c w4 l 1 d
            go_wp2_with fail
            refine Calls.mono hcall ?_
            rintro e w5 hr
            obtain ⟨rfl, hd, g4⟩ := retq_ext hr
            clear hr hcall
            have e5 := e4.trans g4
            replace c0 := (hd.cell _).trans c0
            replace c1 := (hd.cell _).trans c1
            replace c2 := (hd.cell _).trans c2
            replace c3 := (hd.cell _).trans c3
            replace c4 := (hd.cell _).trans c4
            cases h4 : inB l 1 d with
            | false =>
              go_wp2_with fail
              go_ret
              exact ⟨.bool false, rfl, congrArg Value.bool (by simp [h0, h1, h2, h3, hmin, h4]), e5⟩
            | true =>
              go_wp2_with fail
              go_ret
              exact ⟨.bool true, rfl, congrArg Value.bool (by simp [h0, h1, h2, h3, hmin, h4]), e5⟩
          · have hmin : min c d = c := by omega
            have hcall := within_c w4 l 1 c
            go_wp2_with fail
            refine Calls.mono hcall ?_
            rintro e w5 hr
            obtain ⟨rfl, hd, g4⟩ := retq_ext hr
            clear hr hcall
            have e5 := e4.trans g4
            replace c0 := (hd.cell _).trans c0
            replace c1 := (hd.cell _).trans c1
            replace c2 := (hd.cell _).trans c2
            replace c3 := (hd.cell _).trans c3
            replace c4 := (hd.cell _).trans c4
            cases h4 : inB l 1 c with
            | false =>
              go_wp2_with fail
              go_ret
              exact ⟨.bool false, rfl, congrArg Value.bool (by simp [h0, h1, h2, h3, hmin, h4]), e5⟩
            | true =>
              go_wp2_with fail
              go_ret
              exact ⟨.bool true, rfl, congrArg Value.bool (by simp [h0, h1, h2, h3, hmin, h4]), e5⟩

set_option maxRecDepth 20000 in
set_option maxHeartbeats 1000000 in
theorem IsMakerSpec_c (w : World) (mk : MK) : Calls Tryz.prog 53 #[mk.v] w (Ret w fun r _ => r = .bool (isMaker mk)) := by
  obtain ⟨c, d, s, m, l⟩ := mk
  unfold MK.v isMaker
  simp only
  go_enter Tryz.func53, Tryz.ntmps53
  go_wp2_with fail
  generalize hw0 : World.alloc _ _ = w0
  have e0 : Ext w w0 := by rw [← hw0]; exact Ext.alloc _ _
  have c0 : w0.cell? ⟨w.heap.size, 0, none⟩ = some (.int .i64 c) := by rw [← hw0]; clear hw0; go_simp
  have c1 : w0.cell? ⟨w.heap.size, 1, none⟩ = some (.int .i64 d) := by rw [← hw0]; clear hw0; go_simp
  have c2 : w0.cell? ⟨w.heap.size, 2, none⟩ = some (.int .i64 s) := by rw [← hw0]; clear hw0; go_simp
  have c3 : w0.cell? ⟨w.heap.size, 3, none⟩ = some (.int .i64 m) := by rw [← hw0]; clear hw0; go_simp
  have c4 : w0.cell? ⟨w.heap.size, 4, none⟩ = some (.int .i64 l) := by rw [← hw0]; clear hw0; go_simp
  clear hw0
  have hcall := l01In_c w0 c 2 6
  refine Calls.mono hcall ?_
  rintro e w1 hr
  obtain ⟨rfl, hd, g0⟩ := retq_ext hr
  clear hr hcall
  have e1 := e0.trans g0
  replace c0 := (hd.cell _).trans c0
  replace c1 := (hd.cell _).trans c1
  replace c2 := (hd.cell _).trans c2
  replace c3 := (hd.cell _).trans c3
  replace c4 := (hd.cell _).trans c4
  cases h0 : inB c 2 6 with
  | false =>
    go_wp2_with fail
    go_ret
    exact ⟨.bool false, rfl, congrArg Value.bool (by simp [h0]), e1⟩
  | true =>
    have hcall := l01In_c w1 d 2 8
    go_wp2_with fail
    refine Calls.mono hcall ?_
    rintro e w2 hr
    obtain ⟨rfl, hd, g1⟩ := retq_ext hr
    clear hr hcall
    have e2 := e1.trans g1
    replace c0 := (hd.cell _).trans c0
    replace c1 := (hd.cell _).trans c1
    replace c2 := (hd.cell _).trans c2
    replace c3 := (hd.cell _).trans c3
    replace c4 := (hd.cell _).trans c4
    cases h1 : inB d 2 8 with
    | false =>
      go_wp2_with fail
      go_ret
      exact ⟨.bool false, rfl, congrArg Value.bool (by simp [h0, h1]), e2⟩
    | true =>
      have hd2 := inB_iff.1 h1
      have hcall := l01In_c w2 s 1 (d - 1)
      go_wp2_with fail
      refine Calls.mono hcall ?_
      rintro e w3 hr
      obtain ⟨rfl, hd, g2⟩ := retq_ext hr
      clear hr hcall
      have e3 := e2.trans g2
      replace c0 := (hd.cell _).trans c0
      replace c1 := (hd.cell _).trans c1
      replace c2 := (hd.cell _).trans c2
      replace c3 := (hd.cell _).trans c3
      replace c4 := (hd.cell _).trans c4
      cases h2 : inB s 1 (d - 1) with
      | false =>
        go_wp2_with fail
        go_ret
        exact ⟨.bool false, rfl, congrArg Value.bool (by simp [h0, h1, h2]), e3⟩
      | true =>
        have hcall := l01In_c w3 m 1 c
        go_wp2_with fail
        refine Calls.mono hcall ?_
        rintro e w4 hr
        obtain ⟨rfl, hd, g3⟩ := retq_ext hr
        clear hr hcall
        have e4 := e3.trans g3
        replace c0 := (hd.cell _).trans c0
        replace c1 := (hd.cell _).trans c1
        replace c2 := (hd.cell _).trans c2
        replace c3 := (hd.cell _).trans c3
        replace c4 := (hd.cell _).trans c4
        cases h3 : inB m 1 c with
        | false =>
          go_wp2_with fail
          go_ret
          exact ⟨.bool false, rfl, congrArg Value.bool (by simp [h0, h1, h2, h3]), e4⟩
        | true =>
          by_cases hcd : d < c
          · have hmin : min c d = d := by omega
            have hcall := l01In_c w4 l 1 d
            go_wp2_with fail
            refine Calls.mono hcall ?_
            rintro e w5 hr
            obtain ⟨rfl, hd, g4⟩ := retq_ext hr
            clear hr hcall
            have e5 := e4.trans g4
            replace c0 := (hd.cell _).trans c0
            replace c1 := (hd.cell _).trans c1
            replace c2 := (hd.cell _).trans c2
            replace c3 := (hd.cell _).trans c3
            replace c4 := (hd.cell _).trans c4
            cases h4 : inB l 1 d with
            | false =>
              go_wp2_with fail
              go_ret
              exact ⟨.bool false, rfl, congrArg Value.bool (by simp [h0, h1, h2, h3, hmin, h4]), e5⟩
            | true =>
              go_wp2_with fail
              go_ret
              exact ⟨.bool true, rfl, congrArg Value.bool (by simp [h0, h1, h2, h3, hmin, h4]), e5⟩

          · have hmin : min c d = c := by omega
            have hcall := l01In_c w4 l 1 c
            go_wp2_with fail
            refine Calls.mono hcall ?_
            rintro e w5 hr
            obtain ⟨rfl, hd, g4⟩ := retq_ext hr
            clear hr hcall
            have e5 := e4.trans g4
            replace c0 := (hd.cell _).trans c0
            replace c1 := (hd.cell _).trans c1
            replace c2 := (hd.cell _).trans c2
            replace c3 := (hd.cell _).trans c3
            replace c4 := (hd.cell _).trans c4
            cases h4 : inB l 1 c with
            | false =>
              go_wp2_with fail
              go_ret
              exact ⟨.bool false, rfl, congrArg Value.bool (by simp [h0, h1, h2, h3, hmin, h4]), e5⟩
            | true =>
              go_wp2_with fail
              go_ret
              exact ⟨.bool true, rfl, congrArg Value.bool (by simp [h0, h1, h2, h3, hmin, h4]), e5⟩

open Go.ChangeShapes Go.WideShapes Go.ChangeAt Go.RowKit
/-- strictly rising within 0 to n - 1 -/
def risingAt (xs : List Int) (n : Int) (i : Nat) : Bool := decide (0 ≤ xs.getD i 0 ∧ xs.getD i 0 < n ∧ (0 < i → xs.getD (i-1) 0 < xs.getD i 0))
def rising (xs : List Int) (n : Int) : Bool := (List.range xs.length).all (risingAt xs n)

theorem rising_true {xs n} (h : ∀ i, i < xs.length → risingAt xs n i = true) : rising xs n = true := by
  unfold rising; rw [List.all_eq_true]; intro i hi; exact h i (List.mem_range.1 hi)
theorem rising_false {xs n} (i : Nat) (hi : i < xs.length) (h : risingAt xs n i = false) : rising xs n = false := by
  unfold rising; rw [List.all_eq_false]; exact ⟨i, List.mem_range.2 hi, by simp [h]⟩

set_option maxHeartbeats 400000 in
theorem IsRising_c (w : World) (v : Value) (z : Zone) (xs : List Int) (n : Int) (h : IntsR z w v xs) (hn : I64 n) :
    Calls Tryz.prog 163 #[v, .int .i64 n] w (RetQ w (.bool (rising xs n))) := by
  obtain ⟨a, len, cap, rfl, hlen, hmax, -, -, -, hel⟩ := IntsR.shape h
  have Hlen := Lib.hid hlen; clear hlen h
  have Hel := Lib.hid hel; clear hel
  unfold I64 at hn
  obtain ⟨n1, n2⟩ := hn
  go_enter Tryz.func163, Tryz.ntmps163
  go_wp2
  go_loop [9] (fun t => ∃ i : Nat, i ≤ len ∧ t = .int .i64 i ∧ ∀ j, j < i → risingAt xs n j = true) (fun t => len - (intOf t).toNat)
  case atStart => exact ⟨0, Nat.zero_le _, rfl, by simp⟩
  case round =>
    obtain ⟨i, hi, rfl, hall⟩ := hrel
    have Hall := Lib.hid hall; clear hall
    by_cases hlt : i < len
    · obtain ⟨b, off, rfl, hc, ⟨hx1, hx2⟩, hp⟩ := Hel.out i hlt
      have Hri : Hid (risingAt xs n i = decide (0 ≤ xs.getD i 0 ∧ xs.getD i 0 < n ∧ (0 < i → xs.getD (i-1) 0 < xs.getD i 0))) := rfl
      have Hgo : Hid (risingAt xs n i = true → ∀ j, j < i + 1 → risingAt xs n j = true) := fun h j hj => by
        by_cases e : j = i
        · rw [e]; exact h
        · exact Hall.out j (by omega)
      have Hno : Hid (risingAt xs n i = false → rising xs n = false) := fun h => rising_false i (by have := Hlen.out; omega) h
      generalize hx : xs.getD i 0 = x at *
      generalize hy : xs.getD (i-1) 0 = y at *
      clear hx hy
      by_cases h0 : 0 < i
      · obtain ⟨hp1, hp2, hp3⟩ := hp h0
        clear hp
        go_wp2
        all_goals first
          | (go_round
             case rel => exact ⟨i + 1, by omega, by go_num, Hgo.out (by rw [Hri.out, decide_eq_true_iff]; refine ⟨?_, ?_, fun _ => ?_⟩ <;> omega)⟩
             case measure => simp [intOf]; omega)
          | (go_ret; exact ⟨ret_bool' (Hno.out (by rw [Hri.out, decide_eq_false_iff_not]; intro ⟨g1, g2, g3⟩; have := g3 h0; omega)), Drew.refl _⟩)
      · clear hp
        go_wp2
        all_goals first
          | (go_round
             case rel => exact ⟨i + 1, by omega, by go_num, Hgo.out (by rw [Hri.out, decide_eq_true_iff]; refine ⟨?_, ?_, fun _ => ?_⟩ <;> omega)⟩
             case measure => simp [intOf]; omega)
          | (go_ret; exact ⟨ret_bool' (Hno.out (by rw [Hri.out, decide_eq_false_iff_not]; intro ⟨g1, g2, g3⟩; omega)), Drew.refl _⟩)
    · go_wp2
      go_ret
      exact ⟨ret_bool (rising_true (fun j hj => Hall.out j (by have := Hlen.out; omega))).symm, Drew.refl _⟩

set_option maxHeartbeats 800000 in
theorem l01Rises_c (w : World) (v : Value) (z : Zone) (xs : List Int) (n : Int) (h : IntsR z w v xs) (hn : I64 n) :
    Calls Tryz.prog 178 #[v, .int .i64 n] w (RetQ w (.bool (rising xs n))) := by
  obtain ⟨a, len, cap, rfl, hlen, hmax, -, -, -, hel⟩ := IntsR.shape h
  have Hlen := Lib.hid hlen; clear hlen h
  have Hel := Lib.hid hel; clear hel
  unfold I64 at hn
  obtain ⟨n1, n2⟩ := hn
  go_enter Tryz.func178, Tryz.ntmps178
  go_wp2
  go_loopw [5] (fun t wr => ∃ i : Nat, i ≤ len ∧ t = .int .i64 i ∧ (∀ j, j < i → risingAt xs n j = true) ∧ Drew w wr) (fun t _ => len - (intOf t).toNat)
  case atStart => exact ⟨0, Nat.zero_le _, rfl, by simp, Drew.refl _⟩
  case round =>
    obtain ⟨i, hi, rfl, hall, hd⟩ := hrel
    have Hall := Lib.hid hall; clear hall
    by_cases hlt : i < len
    · obtain ⟨b, off, rfl, hc, ⟨hx1, hx2⟩, hp⟩ := Hel.out i hlt
      have Hri : Hid (risingAt xs n i = decide (0 ≤ xs.getD i 0 ∧ xs.getD i 0 < n ∧ (0 < i → xs.getD (i-1) 0 < xs.getD i 0))) := rfl
      have Hgo : Hid (risingAt xs n i = true → ∀ j, j < i + 1 → risingAt xs n j = true) := fun h j hj => by
        by_cases e : j = i
        · rw [e]; exact h
        · exact Hall.out j (by omega)
      have Hno : Hid (risingAt xs n i = false → rising xs n = false) := fun h => rising_false i (by have := Hlen.out; omega) h
      have hc := (hd.cell _).trans hc
      have hp : 0 < i → wr.cell? ⟨b, off + (i-1), none⟩ = some (.int .i64 (xs.getD (i-1) 0)) ∧ I64 (xs.getD (i-1) 0) := fun h => ⟨(hd.cell _).trans (hp h).1, (hp h).2⟩
      generalize hx : xs.getD i 0 = x at *
      generalize hy : xs.getD (i-1) 0 = y at *
      clear hx hy
      by_cases c1 : x < 0
      · clear hp
        have d1 : decide (x < 0) = true := by simpa using c1
        go_wp2
        go_quiet (fail)
        go_wp2
        go_ret; exact ⟨ret_bool' (Hno.out (by rw [Hri.out, decide_eq_false_iff_not]; intro ⟨g1, g2, g3⟩; omega)), hd.drewN _⟩
      have d1 : decide (x < 0) = false := by simpa using c1
      by_cases c2 : n ≤ x
      · clear hp
        have d2 : decide (n ≤ x) = true := by simpa using c2
        go_wp2
        go_quiet (fail)
        go_wp2
        go_ret; exact ⟨ret_bool' (Hno.out (by rw [Hri.out, decide_eq_false_iff_not]; intro ⟨g1, g2, g3⟩; omega)), hd.drewN _⟩
      have d2 : decide (n ≤ x) = false := by simpa using c2
      by_cases h0 : 0 < i
      · have d3 : decide ((0:Int) < (i:Int)) = true := by simpa using h0
        obtain ⟨hp1, hp2, hp3⟩ := hp h0
        clear hp
        by_cases c4 : x ≤ y
        · have d4 : decide (x ≤ y) = true := by simpa using c4
          go_wp2
          go_quiet (fail)
          go_wp2
          go_ret; exact ⟨ret_bool' (Hno.out (by rw [Hri.out, decide_eq_false_iff_not]; intro ⟨g1, g2, g3⟩; have := g3 h0; omega)), hd.drewN _⟩
        · have d4 : decide (x ≤ y) = false := by simpa using c4
          go_wp2
          go_quiet (fail)
          go_wp2
          go_roundw
          case rel => exact ⟨i + 1, by omega, by go_num, Hgo.out (by rw [Hri.out, decide_eq_true_iff]; refine ⟨?_, ?_, fun _ => ?_⟩ <;> omega), hd.drewN _⟩
          case measure => simp [intOf]; omega
      · clear hp
        have d3 : decide ((0:Int) < (i:Int)) = false := by simpa using h0
        go_wp2
        go_quiet (fail)
        go_wp2
        go_roundw
        case rel => exact ⟨i + 1, by omega, by go_num, Hgo.out (by rw [Hri.out, decide_eq_true_iff]; refine ⟨?_, ?_, fun _ => ?_⟩ <;> omega), hd.drewN _⟩
        case measure => simp [intOf]; omega
    · go_wp2
      go_ret
      exact ⟨ret_bool (rising_true (fun j hj => Hall.out j (by have := Hlen.out; omega))).symm, hd⟩

open Go.ChangeShapes Go.WideShapes Go.ChangeAt Go.RowKit
set_option linter.unusedVariables false

def allB (xs : List Int) (lo hi : Int) : Bool := xs.all fun x => inB x lo hi
theorem allB_bad {xs : List Int} {lo hi : Int} (k : Nat) (h : k < xs.length) (hx : inB (xs.getD k 0) lo hi = false) : allB xs lo hi = false := by
  unfold allB; rw [List.all_eq_false]; exact ⟨xs[k], List.getElem_mem h, by simpa [h] using hx⟩
theorem allB_good {xs : List Int} {lo hi : Int} (h : ∀ k, k < xs.length → inB (xs.getD k 0) lo hi = true) : allB xs lo hi = true := by
  unfold allB; rw [List.all_eq_true]; intro y hy
  obtain ⟨i, hi, rfl⟩ := List.getElem_of_mem hy
  have := h i hi
  simpa [hi] using this

set_option maxHeartbeats 400000 in
theorem allWithin_c (w : World) (v : Value) (z : Zone) (xs : List Int) (lo hi : Int) (h : IntsR z w v xs) :
    Calls Tryz.prog 76 #[v, .int .i64 lo, .int .i64 hi] w (RetQ w (.bool (allB xs lo hi))) := by
  obtain ⟨a, len, cap, rfl, hlen, hmax, -, -, -, hel⟩ := IntsR.shape h
  have Hlen := Lib.hid hlen; clear hlen h
  have Hel := Lib.hid hel; clear hel
  go_enter Tryz.func76, Tryz.ntmps76
  go_wp2
  go_loopw [11] (fun t wr => ∃ i : Nat, i ≤ len ∧ t = .int .i64 i ∧ (∀ j, j < i → inB (xs.getD j 0) lo hi = true) ∧ Drew w wr) (fun t _ => len - (intOf t).toNat)
  case atStart => exact ⟨0, Nat.zero_le _, rfl, by simp, Drew.refl _⟩
  case round =>
    obtain ⟨i, hil, rfl, hall, hd⟩ := hrel
    have Hall := Lib.hid hall; clear hall
    by_cases hlt : i < len
    · obtain ⟨b, off, rfl, hc, hx, -⟩ := Hel.out i hlt
      replace hc := (hd.cell _).trans hc
      have Hgo : Hid (inB (xs.getD i 0) lo hi = true → ∀ j, j < i + 1 → inB (xs.getD j 0) lo hi = true) := fun h j hj => by
        by_cases e : j = i
        · rw [e]; exact h
        · exact Hall.out j (by omega)
      have Hno : Hid (inB (xs.getD i 0) lo hi = false → allB xs lo hi = false) := fun h => allB_bad i (by have := Hlen.out; omega) h
      generalize xs.getD i 0 = x at *
      have hcall := within_c wr x lo hi
      generalize inB x lo hi = q at *
      go_wp2_with fail
      refine Calls.mono hcall ?_
      rintro e w2 ⟨rfl, hd2⟩
      clear hcall
      cases q with
      | true =>
        go_wp2
        go_roundw
        case rel => exact ⟨i + 1, by omega, by go_num, Hgo.out (by simp), hd.trans hd2⟩
        case measure => simp [intOf]; omega
      | false =>
        go_wp2
        go_ret
        exact ⟨ret_bool' (Hno.out (by simp)), hd.trans hd2⟩
    · go_wp2
      go_ret
      exact ⟨ret_bool' (allB_good (fun j hj => Hall.out j (by have := Hlen.out; omega))), hd⟩

def tabRow (m : Nat) (r : List Int) : Bool := decide (r.length = m) && (decide (1 ≤ r.length ∧ r.length ≤ 12) && allB r 0 1)
def isTable (t : List (List Int)) : Bool := t.all (tabRow (t.getD 0 []).length) && decide (1 ≤ t.length ∧ t.length ≤ 10)
theorem isTable_bad {t : List (List Int)} (k : Nat) (hk : k < t.length) (h : tabRow (t.getD 0 []).length t[k] = false) : isTable t = false := by
  have : t.all (tabRow (t.getD 0 []).length) = false := by rw [List.all_eq_false]; exact ⟨_, List.getElem_mem hk, by rw [h]; simp⟩
  unfold isTable; rw [this]; rfl
theorem isTable_good {t : List (List Int)} (h : ∀ k (hk : k < t.length), tabRow (t.getD 0 []).length t[k] = true) : isTable t = decide (1 ≤ t.length ∧ t.length ≤ 10) := by
  have : t.all (tabRow (t.getD 0 []).length) = true := by
    rw [List.all_eq_true]; intro y hy
    obtain ⟨i, hi, rfl⟩ := List.getElem_of_mem hy
    exact h i hi
  unfold isTable; rw [this]; rfl
theorem tabRow_len {m : Nat} {r : List Int} (h : r.length ≠ m) : tabRow m r = false := by unfold tabRow; rw [decide_eq_false h]; rfl
theorem tabRow_many {m : Nat} {r : List Int} (h : ¬ (1 ≤ r.length ∧ r.length ≤ 12)) : tabRow m r = false := by unfold tabRow; rw [decide_eq_false h]; simp
theorem tabRow_in {m : Nat} {r : List Int} (h : r.length = m) (h' : 1 ≤ r.length ∧ r.length ≤ 12) : tabRow m r = allB r 0 1 := by unfold tabRow; rw [decide_eq_true h, decide_eq_true h']; rfl

set_option maxRecDepth 20000 in
set_option maxHeartbeats 1000000 in
theorem IsTable_c (w : World) (v : Value) (z : Zone) (t : List (List Int)) (h : RowsR z w v t) :
    Calls Tryz.prog 103 #[v] w (RetQ w (.bool (isTable t))) := by
  obtain ⟨a, len, cap, rfl, hlen, hmax, hel⟩ := SliceR.elem stable_ints h
  have Hlen := Lib.hid hlen; clear hlen h
  have Hel := Lib.hid hel; clear hel
  go_enter Tryz.func103, Tryz.ntmps103
  go_wp2
  go_loopw [7] (fun s wr => ∃ k : Nat, k ≤ len ∧ s = .int .i64 k ∧ (∀ j (hj : j < t.length), j < k → tabRow (t.getD 0 []).length t[j] = true) ∧ Drew w wr) (fun s _ => len - (intOf s).toNat)
  case atStart => exact ⟨0, Nat.zero_le _, rfl, by simp, Drew.refl _⟩
  case round =>
    obtain ⟨k, hk, rfl, hall, hd⟩ := hrel
    have Hall := Lib.hid hall; clear hall
    by_cases hlt : k < len
    · have l1 : k < t.length := by rw [← Hlen.out]; exact hlt
      have l0 : 0 < t.length := by omega
      obtain ⟨b, off, rfl, -, u, hcu, hu⟩ := Hel.out k l1
      obtain ⟨_, _, he, -, u0, hcu0, hu0⟩ := Hel.out 0 l0
      injection he with he; injection he with he1 he2 _
      subst he1; subst he2
      replace hcu := (hd.cell _).trans hcu
      replace hcu0 := (hd.cell _).trans hcu0
      rw [Nat.add_zero] at hcu0
      have Hgo : Hid (tabRow (t.getD 0 []).length t[k] = true → ∀ j (hj : j < t.length), j < k + 1 → tabRow (t.getD 0 []).length t[j] = true) := fun h j hj hjk => by
        by_cases e : j = k
        · subst e; exact h
        · exact Hall.out j hj (by omega)
      have Hbad : Hid (tabRow (t.getD 0 []).length t[k] = false → isTable t = false) := fun h => isTable_bad k l1 h
      have h0 : t[0] = t.getD 0 [] := by simp [l0]
      rw [h0] at hu0
      clear h0
      generalize t.getD 0 [] = r0 at *
      generalize t[k] = r at *
      have hu' := stable_ints.drew hu hd
      have hcall := allWithin_c wr u _ r 0 1 hu'
      obtain ⟨ad, n, c, rfl, hn, -⟩ := SliceR.shape hu'
      obtain ⟨ad0, n0, c0, rfl, hn0, -⟩ := SliceR.shape hu0
      clear hu hu' hu0
      by_cases g1 : n = n0
      · by_cases g2 : 1 ≤ n ∧ n ≤ 12
        · have HP := Lib.hid (tabRow_in (m := r0.length) (r := r) (by omega) (by omega))
          obtain ⟨g3, g4⟩ := g2
          subst g1
          clear hn hn0
          generalize allB r 0 1 = q at *
          go_wp2_with fail
          refine Calls.mono hcall ?_
          rintro e w2 ⟨rfl, hd2⟩
          clear hcall
          cases q with
          | true =>
            go_wp2_with fail
            go_roundw
            case rel => exact ⟨k + 1, by omega, by go_num, Hgo.out HP.out, hd.trans hd2⟩
            case measure => simp [intOf]; omega
          | false =>
            go_wp2_with fail
            go_ret
            exact ⟨ret_bool' (Hbad.out HP.out), hd.trans hd2⟩
        · have HH := Lib.hid (Hbad.out (tabRow_many (by omega)))
          subst g1
          clear hn hn0 hcall Hgo Hbad
          by_cases g3 : 1 ≤ n
          · have g4 : ¬ n ≤ 12 := fun h => g2 ⟨g3, h⟩
            clear g2
            go_wp2_with fail
            go_ret
            exact ⟨ret_bool' HH.out, hd⟩
          · clear g2
            go_wp2_with fail
            go_ret
            exact ⟨ret_bool' HH.out, hd⟩
      · have HH := Lib.hid (Hbad.out (tabRow_len (by omega)))
        have hb1 : ((n : Int) != (n0 : Int)) = true := by rw [bne_iff_ne]; omega
        clear hn hn0 hcall Hgo Hbad g1
        go_wp2_with fail
        go_ret
        exact ⟨ret_bool' HH.out, hd⟩
    · have HG := Lib.hid (isTable_good (fun j hj => Hall.out j hj (by have := Hlen.out; omega)))
      have Hl : Hid (t.length = len) := Hlen.out.symm
      clear Hall
      by_cases g1 : 1 ≤ len
      · have HE : Hid (isTable t = decide ((len : Int) ≤ 10)) := by show _ = _; rw [HG.out, Hl.out]; exact decide_eq_decide.2 ⟨fun h => by omega, fun h => by omega⟩
        go_wp2_with fail
        go_ret
        exact ⟨ret_bool' HE.out, hd⟩
      · have HE : Hid (isTable t = false) := by show _ = _; rw [HG.out, Hl.out]; exact decide_eq_false (by omega)
        go_wp2_with fail
        go_ret
        exact ⟨ret_bool' HE.out, hd⟩

/-! ### the reference's -/
set_option maxRecDepth 20000 in
set_option maxHeartbeats 2000000 in
theorem IsTableSpec_c (w : World) (v : Value) (z : Zone) (t : List (List Int)) (h : RowsR z w v t) :
    Calls Tryz.prog 105 #[v] w (RetQ w (.bool (isTable t))) := by
  obtain ⟨a, len, cap, rfl, hlen, hmax, hel⟩ := SliceR.elem stable_ints h
  have Hlen := Lib.hid hlen; clear hlen h
  have Hel := Lib.hid hel; clear hel
  have hcall0 := l01In_c w len 1 10
  by_cases hin : 1 ≤ len ∧ len ≤ 10
  · have HI : inB len 1 10 = true := by simp only [inB, Bool.and_eq_true, decide_eq_true_eq]; omega
    rw [HI] at hcall0
    have HL : Hid (decide (1 ≤ t.length ∧ t.length ≤ 10) = true) := by show _ = _; rw [← Hlen.out]; exact decide_eq_true hin
    clear HI
    obtain ⟨hi1, hi2⟩ := hin
    go_enter Tryz.func105, Tryz.ntmps105
    go_wp2_with fail
    refine Calls.mono hcall0 ?_
    rintro e w1 ⟨rfl, hd1⟩
    clear hcall0
    go_wp2_with fail
    go_loopw [3, 4] (fun s _ wr => ∃ k : Nat, k ≤ len ∧ s = .int .i64 k ∧ (∀ j (hj : j < t.length), j < k → tabRow (t.getD 0 []).length t[j] = true) ∧ Drew w wr) (fun s _ _ => len - (intOf s).toNat)
    case atStart => exact ⟨0, Nat.zero_le _, rfl, by simp, hd1⟩
    case round =>
      obtain ⟨k, hk, rfl, hall, hd⟩ := hrel
      have Hall := Lib.hid hall; clear hall
      by_cases hlt : k < len
      · have l1 : k < t.length := by rw [← Hlen.out]; exact hlt
        have l0 : 0 < t.length := by omega
        obtain ⟨b, off, rfl, -, u, hcu, hu⟩ := Hel.out k l1
        obtain ⟨_, _, he, -, u0, hcu0, hu0⟩ := Hel.out 0 l0
        injection he with he; injection he with he1 he2 _
        subst he1; subst he2
        replace hcu := (hd.cell _).trans hcu
        replace hcu0 := (hd.cell _).trans hcu0
        rw [Nat.add_zero] at hcu0
        have Hgo : Hid (tabRow (t.getD 0 []).length t[k] = true → ∀ j (hj : j < t.length), j < k + 1 → tabRow (t.getD 0 []).length t[j] = true) := fun h j hj hjk => by
          by_cases e : j = k
          · subst e; exact h
          · exact Hall.out j hj (by omega)
        have Hbad : Hid (tabRow (t.getD 0 []).length t[k] = false → isTable t = false) := fun h => isTable_bad k l1 h
        have h0 : t[0] = t.getD 0 [] := by simp [l0]
        rw [h0] at hu0
        clear h0
        generalize t.getD 0 [] = r0 at *
        generalize t[k] = r at *
        have hu' := stable_ints.drew hu hd
        obtain ⟨ad, n, c, rfl, hn, hnm, -, -, -, hsel⟩ := IntsR.shape hu'
        obtain ⟨ad0, n0, c0, rfl, hn0, -⟩ := SliceR.shape hu0
        clear hu hu' hu0
        by_cases g1 : n = n0
        · by_cases g2 : 1 ≤ n ∧ n ≤ 12
          · have HP := Lib.hid (tabRow_in (m := r0.length) (r := r) (by omega) (by omega))
            have HI : Hid (inB n 1 12 = true) := by show _ = _; simp only [inB, Bool.and_eq_true, decide_eq_true_eq]; omega
            obtain ⟨g3, g4⟩ := g2
            subst g1
            have Hn := Lib.hid hn
            have Hsel := Lib.hid hsel
            clear hn hn0 hsel
            go_wp2_with fail
            go_quiet ((go_at_call 54; exact RetQ.quiet (Calls.vq (l01In_c _ _ _ _) (congrArg Value.bool HI.out))))
            have hdq := hd.drewN nq
            obtain ⟨wq, hwq⟩ : ∃ wq, wq = wr.drewN nq := ⟨_, rfl⟩
            rw [← hwq] at hdq ⊢
            replace hcu := ((Drew.refl wr).drewN nq).cell _ |>.trans hcu
            rw [← hwq] at hcu
            have hd0 := hd
            clear hwq hd hcu0
            go_wp2_with fail
            go_loopw [4] (fun s wi => ∃ i : Nat, i ≤ n ∧ s = .int .i64 i ∧ (∀ j, j < i → inB (r.getD j 0) 0 1 = true) ∧ Drew wq wi) (fun s _ => n - (intOf s).toNat)
            case atStart => exact ⟨0, Nat.zero_le _, rfl, by simp, Drew.refl _⟩
            case round =>
              obtain ⟨i, hi, rfl, halli, hdi⟩ := hrel
              have Halli := Lib.hid halli; clear halli
              have hdt := hdq.trans hdi
              replace hcu := (hdi.cell _).trans hcu
              by_cases hlti : i < n
              · obtain ⟨b2, o2, rfl, hx, -, -⟩ := Hsel.out i hlti
                replace hx := ((hdi.cell _).trans ((hdq.cell _).trans ((hd0.cell _).symm.trans hx)))
                have Hgoi : Hid (inB (r.getD i 0) 0 1 = true → ∀ j, j < i + 1 → inB (r.getD j 0) 0 1 = true) := fun h j hj => by
                  by_cases e : j = i
                  · rw [e]; exact h
                  · exact Halli.out j (by omega)
                have Hno : Hid (inB (r.getD i 0) 0 1 = false → isTable t = false) := fun h => Hbad.out (by rw [HP.out]; exact allB_bad i (by have := Hn.out; omega) h)
                generalize r.getD i 0 = x at *
                have hcall : ∀ wq, Calls Tryz.prog 54 #[.int .i64 x, .int .i64 0, .int .i64 1] wq (RetQ wq (.bool (inB x 0 1))) := fun wq => l01In_c wq x 0 1
                generalize inB x 0 1 = q at *
                have HC := Lib.hid hcall; clear hcall
                cases q with
                | true =>
                  go_wp2_with fail
                  refine Calls.mono (HC.out _) ?_
                  rintro e w2 ⟨rfl, hd2⟩
                  go_wp2_with fail
                  go_roundw
                  case rel => exact ⟨i + 1, by omega, by go_num, Hgoi.out (by simp), hdi.trans hd2⟩
                  case measure => simp [intOf]; omega
                | false =>
                  go_wp2_with fail
                  refine Calls.mono (HC.out _) ?_
                  rintro e w2 ⟨rfl, hd2⟩
                  go_wp2_with fail
                  go_ret
                  exact ⟨ret_bool' (Hno.out (by simp)), hdt.trans hd2⟩
              · have HG := Lib.hid (Hgo.out (by rw [HP.out]; exact allB_good (fun j hj => Halli.out j (by have := Hn.out; omega))))
                go_wp2_with fail
                go_roundw
                case rel => exact ⟨k + 1, by omega, by go_num, HG.out, hdt⟩
                case measure => simp [intOf]; omega
          · have HH := Lib.hid (Hbad.out (tabRow_many (by omega)))
            have HI : Hid (inB n 1 12 = false) := by show _ = _; simp only [inB, Bool.and_eq_false_iff, decide_eq_false_iff_not]; omega
            subst g1
            clear hn hn0 hsel g2 Hgo Hbad
            go_wp2_with fail
            go_quiet ((go_at_call 54; exact RetQ.quiet (Calls.vq (l01In_c _ _ _ _) (congrArg Value.bool HI.out))))
            go_wp2_with fail
            go_ret
            exact ⟨ret_bool' HH.out, hd.drewN _⟩
        · have HH := Lib.hid (Hbad.out (tabRow_len (by omega)))
          have hb1 : ((n : Int) != (n0 : Int)) = true := by rw [bne_iff_ne]; omega
          clear hn hn0 hsel g1 Hgo Hbad
          go_wp2_with fail
          go_quiet (fail)
          go_wp2_with fail
          go_ret
          exact ⟨ret_bool' HH.out, hd.drewN _⟩
      · have HG : Hid (isTable t = true) := by
          show _ = _
          rw [isTable_good (fun j hj => Hall.out j hj (by have := Hlen.out; omega))]; exact HL.out
        go_wp2_with fail
        go_ret
        exact ⟨ret_bool' HG.out, hd⟩
  · have HI : inB len 1 10 = false := by simp only [inB, Bool.and_eq_false_iff, decide_eq_false_iff_not]; omega
    rw [HI] at hcall0
    have HE : Hid (isTable t = false) := by
      show _ = _
      have h2 : decide (1 ≤ t.length ∧ t.length ≤ 10) = false := by rw [← Hlen.out]; exact decide_eq_false hin
      unfold isTable; rw [h2]; simp
    clear HI
    go_enter Tryz.func105, Tryz.ntmps105
    go_wp2_with fail
    refine Calls.mono hcall0 ?_
    rintro e w1 ⟨rfl, hd1⟩
    go_wp2_with fail
    go_ret
    exact ⟨ret_bool' HE.out, hd1⟩

open Go.ChangeShapes Go.WideShapes Go.ChangeAt Go.RowKit
set_option linter.unusedVariables false

/-- as many depths as there are chambers -/
def cutsOk (mk : MK) (l : List Int) : Bool := allB l 0 (mk.d - 1) && decide ((l.length : Int) = mk.c)

set_option maxRecDepth 20000 in
set_option maxHeartbeats 1000000 in
theorem l02Cuts_c (w : World) (mk : MK) (hd8 : 2 ≤ mk.d ∧ mk.d ≤ 8) (v : Value) (z : Zone) (xs : List Int) (h : IntsR z w v xs) :
    Calls Tryz.prog 196 #[mk.v, v] w (Ret w fun r _ => r = .bool (cutsOk mk xs)) := by
  obtain ⟨c, d, s, m, l⟩ := mk
  unfold MK.v cutsOk
  simp only at hd8 ⊢
  have h' := stable_ints.ext h (Ext.alloc w (.cells #[.int .i64 c, .int .i64 d, .int .i64 s, .int .i64 m, .int .i64 l] 25))
  obtain ⟨a, n, cap, rfl, hn, hmax, -, -, -, hel⟩ := IntsR.shape h'
  clear h h'
  have Hn := Lib.hid hn
  have Hel := Lib.hid hel
  clear hn hel
  go_enter Tryz.func196, Tryz.ntmps196
  go_wp2_with fail
  have e0 : Ext w (w.alloc (.cells #[.int .i64 c, .int .i64 d, .int .i64 s, .int .i64 m, .int .i64 l] 25)) := Ext.alloc _ _
  have c0 : (w.alloc (.cells #[.int .i64 c, .int .i64 d, .int .i64 s, .int .i64 m, .int .i64 l] 25)).cell? ⟨w.heap.size, 0, none⟩ = some (.int .i64 c) := by go_simp
  have c1 : (w.alloc (.cells #[.int .i64 c, .int .i64 d, .int .i64 s, .int .i64 m, .int .i64 l] 25)).cell? ⟨w.heap.size, 1, none⟩ = some (.int .i64 d) := by go_simp
  generalize w.alloc (.cells #[.int .i64 c, .int .i64 d, .int .i64 s, .int .i64 m, .int .i64 l] 25) = w0 at *
  have hwr : IntKind.i64.wrap (d - 1) = d - 1 := IntWalk.i64_in _ (by omega)
  go_loopw [5] (fun t wr => ∃ i : Nat, i ≤ n ∧ t = .int .i64 i ∧ (∀ j, j < i → inB (xs.getD j 0) 0 (d - 1) = true) ∧ Drew w0 wr) (fun t _ => n - (intOf t).toNat)
  case atStart => exact ⟨0, Nat.zero_le _, rfl, by simp, Drew.refl _⟩
  case round =>
    obtain ⟨i, hi, rfl, hall, hd⟩ := hrel
    have Hall := Lib.hid hall
    clear hall
    have c0' := (hd.cell _).trans c0
    have c1' := (hd.cell _).trans c1
    by_cases hlt : i < n
    · obtain ⟨b, off, rfl, hc, hx, -⟩ := Hel.out i hlt
      replace hc := (hd.cell _).trans hc
      have Hgo : Hid (inB (xs.getD i 0) 0 (d - 1) = true → ∀ j, j < i + 1 → inB (xs.getD j 0) 0 (d - 1) = true) := fun h j hj => by
        by_cases e : j = i
        · rw [e]; exact h
        · exact Hall.out j (by omega)
      have Hno : Hid (inB (xs.getD i 0) 0 (d - 1) = false → allB xs 0 (d - 1) = false) := fun h => allB_bad i (by have := Hn.out; omega) h
      generalize xs.getD i 0 = x at *
      cases hq : inB x 0 (d - 1) with
      | true =>
        have HQ := Lib.hid (congrArg Value.bool hq)
        have HG := Lib.hid (Hgo.out hq)
        clear hq Hgo Hno Hall
        go_wp2_with fail
        go_quiet ((go_at_call 54; exact RetQ.quiet (Calls.vq (l01In_c _ _ _ _) HQ.out)))
        go_wp2_with fail
        go_roundw
        case rel => exact ⟨i + 1, by omega, by go_num, HG.out, hd.drewN _⟩
        case measure => simp [intOf]; omega
      | false =>
        have HQ := Lib.hid (congrArg Value.bool hq)
        have HN := Lib.hid (Hno.out hq)
        clear hq Hgo Hno Hall
        go_wp2_with fail
        go_quiet ((go_at_call 54; exact RetQ.quiet (Calls.vq (l01In_c _ _ _ _) HQ.out)))
        go_wp2_with fail
        go_ret
        exact ⟨.bool false, rfl, congrArg Value.bool (by rw [HN.out]; rfl), e0.trans (Ext.ofDrew (hd.drewN _))⟩
    · have hin : i = n := by omega
      have HA : Hid (allB xs 0 (d - 1) = true) := allB_good (fun j hj => Hall.out j (by have := Hn.out; omega))
      have HE : Hid (decide ((xs.length : Int) = c) = ((n : Int) == c)) := by
        show _ = _
        rw [← Hn.out]
        by_cases e : (n : Int) = c
        · rw [decide_eq_true e, beq_iff_eq.2 e]
        · rw [decide_eq_false e, beq_eq_false_iff_ne.2 e]
      go_wp2_with fail
      go_ret
      exact ⟨.bool ((n : Int) == c), rfl, congrArg Value.bool (by rw [HA.out, HE.out]; rfl), e0.trans (Ext.ofDrew hd)⟩

open Go.ChangeShapes Go.WideShapes Go.ChangeAt Go.RowKit
set_option linter.unusedVariables false

def has (xs : List Int) (x : Int) : Bool := xs.any fun y => y == x
theorem has_at {xs : List Int} {x : Int} (k : Nat) (h : k < xs.length) (hx : xs.getD k 0 = x) : has xs x = true := by
  unfold has; rw [List.any_eq_true]; exact ⟨xs[k], List.getElem_mem h, by have : xs[k] = x := by simpa [h] using hx
                                                                          simp [this]⟩
theorem has_no {xs : List Int} {x : Int} (h : ∀ k, k < xs.length → xs.getD k 0 ≠ x) : has xs x = false := by
  unfold has; rw [List.any_eq_false]; intro y hy
  obtain ⟨i, hi, rfl⟩ := List.getElem_of_mem hy
  have := h i hi
  simpa [hi] using this
theorem has_iff {xs : List Int} {x : Int} : has xs x = true ↔ x ∈ xs := by simp [has]

set_option maxHeartbeats 400000 in
theorem Has_c (w : World) (v : Value) (z : Zone) (xs : List Int) (x : Int) (h : IntsR z w v xs) (hx : I64 x) :
    Calls Tryz.prog 173 #[v, .int .i64 x] w (RetQ w (.bool (has xs x))) := by
  obtain ⟨a, len, cap, rfl, hlen, hmax, -, -, -, hel⟩ := IntsR.shape h
  have Hlen := Lib.hid hlen; clear hlen h
  have Hel := Lib.hid hel; clear hel
  unfold I64 at hx
  obtain ⟨n1, n2⟩ := hx
  go_enter Tryz.func173, Tryz.ntmps173
  go_wp2
  go_loop [5] (fun t => ∃ i : Nat, i ≤ len ∧ t = .int .i64 i ∧ ∀ j, j < i → xs.getD j 0 ≠ x) (fun t => len - (intOf t).toNat)
  case atStart => exact ⟨0, Nat.zero_le _, rfl, by simp⟩
  case round =>
    obtain ⟨i, hi, rfl, hall⟩ := hrel
    have Hall := Lib.hid hall; clear hall
    by_cases hlt : i < len
    · obtain ⟨b, off, rfl, hc, ⟨hx1, hx2⟩, -⟩ := Hel.out i hlt
      have Hgo : Hid (xs.getD i 0 ≠ x → ∀ j, j < i + 1 → xs.getD j 0 ≠ x) := fun h j hj => by
        by_cases e : j = i
        · rw [e]; exact h
        · exact Hall.out j (by omega)
      have Hyes : Hid (xs.getD i 0 = x → has xs x = true) := fun h => has_at i (by have := Hlen.out; omega) h
      generalize xs.getD i 0 = y at *
      by_cases hyx : y = x
      · have HH := Lib.hid (Hyes.out hyx)
        have hb : (y == x) = true := by simpa using hyx
        clear Hyes hyx
        go_wp2
        go_ret
        exact ⟨ret_bool' HH.out, Drew.refl _⟩
      · have HH := Lib.hid (Hgo.out hyx)
        have hb : (y == x) = false := by simpa using hyx
        clear Hgo hyx
        go_wp2
        go_round
        case rel => exact ⟨i + 1, by omega, by go_num, HH.out⟩
        case measure => simp [intOf]; omega
    · go_wp2
      go_ret
      exact ⟨ret_bool' (has_no (fun j hj => Hall.out j (by have := Hlen.out; omega))), Drew.refl _⟩

open Go.ChangeShapes Go.WideShapes Go.ChangeAt Go.RowKit
set_option linter.unusedVariables false

/-- the first index whose element has it; the length if none -/
def firstIdx {α : Type} (p : α → Bool) : List α → Nat
  | [] => 0
  | x :: xs => if p x then 0 else firstIdx p xs + 1
theorem firstIdx_le {α : Type} (p : α → Bool) (xs : List α) : firstIdx p xs ≤ xs.length := by
  induction xs with
  | nil => simp [firstIdx]
  | cons x xs ih => simp only [firstIdx]; split <;> simp <;> omega
theorem firstIdx_at {α : Type} (p : α → Bool) (xs : List α) (k : Nat) (hk : k < xs.length) (h : p xs[k] = true) (hb : ∀ j (hj : j < xs.length), j < k → p xs[j] = false) : firstIdx p xs = k := by
  induction xs generalizing k with
  | nil => simp at hk
  | cons x xs ih =>
    cases k with
    | zero => simp only [List.getElem_cons_zero] at h; simp [firstIdx, h]
    | succ k =>
      have h0 := hb 0 (by simp) (by omega)
      simp only [List.getElem_cons_zero] at h0
      simp only [firstIdx, h0]
      have := ih k (by simpa using hk) (by simpa using h) (fun j hj hjk => by have := hb (j+1) (by simpa using hj) (by omega); simpa using this)
      simp [this]
theorem firstIdx_none {α : Type} (p : α → Bool) (xs : List α) (h : ∀ j (hj : j < xs.length), p xs[j] = false) : firstIdx p xs = xs.length := by
  induction xs with
  | nil => rfl
  | cons x xs ih =>
    have h0 := h 0 (by simp)
    simp only [List.getElem_cons_zero] at h0
    simp only [firstIdx, h0, List.length_cons]
    simp [ih (fun j hj => by have := h (j+1) (by simpa using hj); simpa using this)]
theorem firstIdx_any {α : Type} (p : α → Bool) (xs : List α) : decide (firstIdx p xs < xs.length) = xs.any p := by
  induction xs with
  | nil => rfl
  | cons x xs ih =>
    simp only [firstIdx, List.any_cons, List.length_cons]
    by_cases h : p x = true
    · simp [h]
    · simp only [Bool.not_eq_true] at h
      simp only [h, Bool.false_or, ← ih]; simp
/-- .. as slices.IndexFunc tells it -/
def idxR {α : Type} (p : α → Bool) (xs : List α) : Int := if firstIdx p xs < xs.length then (firstIdx p xs : Int) else -1
theorem idxR_at {α : Type} (p : α → Bool) (xs : List α) (k : Nat) (hk : k < xs.length) (h : p xs[k] = true) (hb : ∀ j (hj : j < xs.length), j < k → p xs[j] = false) : idxR p xs = k := by
  unfold idxR; rw [firstIdx_at p xs k hk h hb, if_pos hk]
theorem idxR_none {α : Type} (p : α → Bool) (xs : List α) (h : ∀ j (hj : j < xs.length), p xs[j] = false) : idxR p xs = -1 := by
  unfold idxR; rw [firstIdx_none p xs h, if_neg (Nat.lt_irrefl _)]
theorem idxR_any {α : Type} (p : α → Bool) (xs : List α) : decide (0 ≤ idxR p xs) = xs.any p := by
  rw [← firstIdx_any]; unfold idxR
  by_cases h : firstIdx p xs < xs.length
  · rw [if_pos h, decide_eq_true h]; simp
  · rw [if_neg h, decide_eq_false h]; simp

open Go.ChangeShapes Go.WideShapes Go.ChangeAt Go.RowKit
set_option linter.unusedVariables false

set_option maxHeartbeats 400000 in
theorem Index_c (w : World) (v : Value) (z : Zone) (xs : List Int) (x : Int) (h : IntsR z w v xs) (hx : I64 x) :
    Calls Tryz.prog 175 #[v, .int .i64 x] w (RetQ w (.int .i64 (idxR (fun y => y == x) xs))) := by
  obtain ⟨a, len, cap, rfl, hlen, hmax, -, -, -, hel⟩ := IntsR.shape h
  have Hlen := Lib.hid hlen; clear hlen h
  have Hel := Lib.hid hel; clear hel
  unfold I64 at hx
  obtain ⟨n1, n2⟩ := hx
  go_enter Tryz.func175, Tryz.ntmps175
  go_wp2
  go_loop [8] (fun t => ∃ i : Nat, i ≤ len ∧ t = .int .i64 i ∧ (∀ j, j < i → xs.getD j 0 ≠ x)) (fun t => len - (intOf t).toNat)
  case atStart => exact ⟨0, Nat.zero_le _, rfl, by simp⟩
  case round =>
    obtain ⟨i, hi, rfl, hall⟩ := hrel
    have Hall := Lib.hid hall; clear hall
    by_cases hlt : i < len
    · obtain ⟨b, off, rfl, hc, ⟨hx1, hx2⟩, -⟩ := Hel.out i hlt
      have Hgo : Hid (xs.getD i 0 ≠ x → ∀ j, j < i + 1 → xs.getD j 0 ≠ x) := fun h j hj => by
        by_cases e : j = i
        · rw [e]; exact h
        · exact Hall.out j (by omega)
      have Hyes : Hid (xs.getD i 0 = x → idxR (fun y => y == x) xs = i) := fun h => by
        have hl := Hlen.out
        refine idxR_at _ xs i (by omega) ?_ (fun j hj hji => ?_)
        · have : xs[i]'(by omega) = x := by simpa [show i < xs.length by omega] using h
          simpa using this
        · have := Hall.out j hji
          simpa [hj] using this
      generalize xs.getD i 0 = y at *
      by_cases hyx : y = x
      · have HH := Lib.hid (Hyes.out hyx)
        have hb : (x == y) = true := by simpa using Eq.symm hyx
        clear Hyes hyx
        go_wp2
        go_ret
        exact ⟨ret_int HH.out.symm, Drew.refl _⟩
      · have HH := Lib.hid (Hgo.out hyx)
        have hb : (x == y) = false := by simpa using fun h => hyx (Eq.symm h)
        clear Hgo hyx
        go_wp2
        go_round
        case rel => exact ⟨i + 1, by omega, by go_num, HH.out⟩
        case measure => simp [intOf]; omega
    · go_wp2
      go_ret
      refine ⟨ret_int (idxR_none _ xs (fun j hj => ?_)).symm, Drew.refl _⟩
      have := Hall.out j (by have := Hlen.out; omega)
      simpa [hj] using this

theorem Contains_c (w : World) (v : Value) (z : Zone) (xs : List Int) (x : Int) (h : IntsR z w v xs) (hx : I64 x) :
    Calls Tryz.prog 153 #[v, .int .i64 x] w (RetQ w (.bool (has xs x))) := by
  have hc := Index_c w v z xs x h hx
  have H : Hid (decide (0 ≤ idxR (fun y => y == x) xs) = has xs x) := idxR_any _ xs
  clear h hx
  generalize idxR (fun y => y == x) xs = k at *
  go_enter Tryz.func153, Tryz.ntmps153
  go_wp2_with fail
  refine Calls.mono hc ?_
  rintro e w2 ⟨rfl, hd⟩
  clear hc
  go_wp2_with fail
  go_ret
  exact ⟨ret_bool H.out, hd⟩

open Go.ChangeShapes Go.WideShapes Go.ChangeAt Go.RowKit
set_option linter.unusedVariables false

def kindsTo (l : List Int) (k : Nat) : Nat := ((List.range k).filter fun i => !has (l.take i) (l.getD i 0)).length
def kinds (l : List Int) : Nat := kindsTo l l.length
theorem kindsTo_succ (l : List Int) (k : Nat) : kindsTo l (k+1) = kindsTo l k + if has (l.take k) (l.getD k 0) = true then 0 else 1 := by
  unfold kindsTo
  rw [List.range_succ, List.filter_append, List.length_append]
  congr 1
  rw [List.filter_cons, List.filter_nil]
  cases h : has (l.take k) (l.getD k 0) <;> rfl
theorem kindsTo_le (l : List Int) (k : Nat) : kindsTo l k ≤ k := by
  have := List.length_filter_le (fun i => !has (l.take i) (l.getD i 0)) (List.range k)
  simpa [kindsTo] using this

set_option maxRecDepth 20000 in
set_option maxHeartbeats 1000000 in
theorem different_c (w : World) (v : Value) (z : Zone) (xs : List Int) (h : IntsR z w v xs) :
    Calls Tryz.prog 160 #[v] w (RetQ w (.int .i64 (kinds xs))) := by
  have hfront := fun (wr : World) (hd : Drew w wr) => stable_ints.drew h hd
  obtain ⟨a, n, cap, rfl, hn, hmax, hcap, -, -, hel⟩ := IntsR.shape h
  have HF := Lib.hid (fun (wr : World) (hd : Drew w wr) (k : Nat) (hk : k ≤ n) => SliceR.front (hfront wr hd) k hk)
  have Hn := Lib.hid hn
  have Hel := Lib.hid hel
  clear hn hel h hfront
  go_enter Tryz.func160, Tryz.ntmps160
  go_wp2_with fail
  go_loopw [3, 4, 5, 8] (fun s3 _ _ s8 wr => ∃ k : Nat, k ≤ n ∧ s8 = .int .i64 k ∧ s3 = .int .i64 (kindsTo xs k) ∧ Drew w wr) (fun _ _ _ s8 _ => n - (intOf s8).toNat)
  case atStart => exact ⟨0, Nat.zero_le _, rfl, rfl, Drew.refl _⟩
  case round =>
    obtain ⟨k, hk, rfl, rfl, hd⟩ := hrel
    by_cases hlt : k < n
    · obtain ⟨b, off, rfl, hc, hx, -⟩ := Hel.out k hlt
      replace hc := (hd.cell _).trans hc
      have hcall := Contains_c wr _ _ _ (xs.getD k 0) (HF.out wr hd k (by omega)) hx
      have HS := Lib.hid (kindsTo_succ xs k)
      have hle := kindsTo_le xs k
      generalize kindsTo xs k = s at *
      cases hq : has (xs.take k) (xs.getD k 0) with
      | true =>
        have HH : Hid (kindsTo xs (k+1) = s) := by have := HS.out; rw [hq, if_pos rfl, Nat.add_zero] at this; exact this
        rw [hq] at hcall
        clear hq HS
        generalize xs.getD k 0 = y at *
        go_wp2_with fail
        refine Calls.mono hcall ?_
        rintro e w2 ⟨rfl, hd2⟩
        clear hcall
        go_wp2_with fail
        go_roundw
        case rel => exact ⟨k + 1, by omega, by go_num, by rw [HH.out], hd.trans hd2⟩
        case measure => simp [intOf]; omega
      | false =>
        have HH : Hid (kindsTo xs (k+1) = s + 1) := by have := HS.out; rw [hq, if_neg (by decide)] at this; exact this
        rw [hq] at hcall
        clear hq HS
        generalize xs.getD k 0 = y at *
        go_wp2_with fail
        refine Calls.mono hcall ?_
        rintro e w2 ⟨rfl, hd2⟩
        clear hcall
        go_wp2_with fail
        go_roundw
        case rel => exact ⟨k + 1, by omega, by go_num, by rw [HH.out]; go_num, hd.trans hd2⟩
        case measure => simp [intOf]; omega
    · have hkn : k = n := by omega
      have HH : Hid (kindsTo xs k = kinds xs) := by show _ = _; rw [hkn, Hn.out]; rfl
      go_wp2_with fail
      go_ret
      exact ⟨ret_int (congrArg (fun q : Nat => (q : Int)) HH.out), hd⟩

set_option maxRecDepth 20000 in
set_option maxHeartbeats 1000000 in
theorem l02Kinds_c (w : World) (v : Value) (z : Zone) (xs : List Int) (h : IntsR z w v xs) :
    Calls Tryz.prog 149 #[v] w (RetQ w (.int .i64 (kinds xs))) := by
  have hfront := fun (wr : World) (hd : Drew w wr) => stable_ints.drew h hd
  obtain ⟨a, n, cap, rfl, hn, hmax, hcap, -, -, hel⟩ := IntsR.shape h
  have HF := Lib.hid (fun (wr : World) (hd : Drew w wr) (k : Nat) (hk : k ≤ n) => SliceR.front (hfront wr hd) k hk)
  have Hn := Lib.hid hn
  have Hel := Lib.hid hel
  clear hn hel h hfront
  go_enter Tryz.func149, Tryz.ntmps149
  go_wp2_with fail
  go_loopw [3, 4] (fun s3 s4 wr => ∃ k : Nat, k ≤ n ∧ s4 = .int .i64 k ∧ s3 = .int .i64 (kindsTo xs k) ∧ Drew w wr) (fun _ s4 _ => n - (intOf s4).toNat)
  case atStart => exact ⟨0, Nat.zero_le _, rfl, rfl, Drew.refl _⟩
  case round =>
    obtain ⟨k, hk, rfl, rfl, hd⟩ := hrel
    by_cases hlt : k < n
    · obtain ⟨b, off, rfl, hc, hx, -⟩ := Hel.out k hlt
      replace hc := (hd.cell _).trans hc
      have HC := Lib.hid (fun (m : Nat) => Has_c (wr.drewN m) _ _ _ (xs.getD k 0) (HF.out _ (hd.drewN m) k (by omega)) hx)
      have HS := Lib.hid (kindsTo_succ xs k)
      have hle := kindsTo_le xs k
      generalize kindsTo xs k = s at *
      have hkc : k ≤ cap := by omega
      cases hq : has (xs.take k) (xs.getD k 0) with
      | true =>
        have HH : Hid (kindsTo xs (k+1) = s) := by have := HS.out; rw [hq, if_pos rfl, Nat.add_zero] at this; exact this
        have HQ := Lib.hid (congrArg Value.bool hq)
        clear hq HS
        generalize xs.getD k 0 = y at *
        go_wp2_with fail
        go_quiet ((go_at_call 173; exact RetQ.quiet (Calls.vq (HC.out _) HQ.out)))
        go_wp2_with fail
        go_roundw
        case rel => exact ⟨k + 1, by omega, by go_num, by rw [HH.out], hd.drewN _⟩
        case measure => simp [intOf]; omega
      | false =>
        have HH : Hid (kindsTo xs (k+1) = s + 1) := by have := HS.out; rw [hq, if_neg (by decide)] at this; exact this
        have HQ := Lib.hid (congrArg Value.bool hq)
        clear hq HS
        generalize xs.getD k 0 = y at *
        go_wp2_with fail
        go_quiet ((go_at_call 173; exact RetQ.quiet (Calls.vq (HC.out _) HQ.out)))
        go_wp2_with fail
        go_roundw
        case rel => exact ⟨k + 1, by omega, by go_num, by rw [HH.out]; go_num, hd.drewN _⟩
        case measure => simp [intOf]; omega
    · have hkn : k = n := by omega
      have HH : Hid (kindsTo xs k = kinds xs) := by show _ = _; rw [hkn, Hn.out]; rfl
      go_wp2_with fail
      go_ret
      exact ⟨ret_int (congrArg (fun q : Nat => (q : Int)) HH.out), hd⟩

open Go.ChangeShapes Go.WideShapes Go.ChangeAt Go.RowKit
set_option linter.unusedVariables false

def slV (x : Option Addr × Nat × Nat) : Value := .slice x.1 x.2.1 x.2.2
theorem slV_mk (a : Option Addr) (n c : Nat) : slV (a, n, c) = .slice a n c := rfl

/-- v is a list of slices of the call's own, from block B on; what the slices hold lies from block L on (b: and is written by nobody else) -/
def OwnA {α : Type} (b : Bool) (A : Nat → Prop) (E : Repr α) (e : TypeId) (B : Nat) (w : World) (v : Value) (xs : List α) : Prop :=
  ∃ (us : List (Option Addr × Nat × Nat)) (Z : Nat → Zone), us.length = xs.length ∧ OwnP slV e B w v us ∧
    (∀ i, i < xs.length → (b = true → (Z i).own = true) ∧ ∀ k, (Z i).Has k → A k ∧ k < w.heap.size ∧ v.ownBlock ≠ some k) ∧
    (b = true → ∀ i j, i < j → j < xs.length → (Z i).Apart (Z j)) ∧
    ∀ i (h : i < xs.length) (h' : i < us.length), E (Z i) w (slV us[i]) xs[i]

section
variable {α : Type} {b : Bool} {A : Nat → Prop} {L : Nat} {E : Repr α} {e : TypeId} {B : Nat} {w w' : World} {v : Value} {xs : List α} {zr : Value}

theorem OwnA.reads (h : OwnA b A E e B w v xs) (hA : ∀ k, A k → L ≤ k) (hL : L ≤ B) : SliceR E ⟨L, w.heap.size, b⟩ w v xs := by
  obtain ⟨us, Z, hl, ho, h1, h2, h3⟩ := h
  obtain ⟨-, ho2⟩ := ho
  rcases ho2 with ⟨rfl, h0⟩ | ⟨g, cap, cur, rfl, hb, hg, hnc, hcm, hcs, htake⟩
  · obtain rfl : xs = [] := List.eq_nil_of_length_eq_zero (by omega)
    exact SliceR.nil _ _ _
  · have hgl : g < w.heap.size := (Array.getElem?_eq_some_iff.1 hg).1
    refine ⟨some ⟨g, 0, none⟩, cap, by rw [← hl], by omega, hcm, (fun h => by cases h), fun ad had _ => ?_⟩
    cases had
    refine ⟨rfl, ⟨Nat.le_trans hL hb, hgl⟩, hgl, fun _ i _ => frozen_of_row w g _ cur e hg, Z, fun i hi => ⟨fun k hk => ⟨hA k ((h1 i hi).2 k hk).1, ((h1 i hi).2 k hk).2.1⟩, (h1 i hi).1⟩, fun ho => ⟨fun i hi hk => ((h1 i hi).2 g hk).2.2 rfl, h2 ho⟩, fun i hi' => ?_⟩
    have hi2 : i < us.length := by omega
    refine ⟨slV us[i], ?_, h3 i hi' hi2⟩
    show w.cell? ⟨g, 0 + i, none⟩ = _
    rw [Nat.zero_add, cell_of_row w g i cur e (0, 0) hg]
    have : (cur.toList.take (us.length * 1))[i]? = (us.map slV)[i]? := by rw [htake]
    rw [List.getElem?_take, if_pos (by omega)] at this
    simpa [hi2] using this

theorem OwnA.none : OwnA b A E e B w (.slice none 0 0) [] :=
  ⟨[], fun _ => ⟨0, 0, true⟩, rfl, OwnP.none, fun i h => absurd h (Nat.not_lt_zero _), fun _ i j _ h => absurd h (Nat.not_lt_zero _), fun i h => absurd h (Nat.not_lt_zero _)⟩
theorem OwnA.empty (hB : B ≤ w.heap.size) : OwnA b A E e B (w.alloc (.cells #[] e)) (.slice (some ⟨w.heap.size, 0, Option.none⟩) 0 0) [] :=
  ⟨[], fun _ => ⟨0, 0, true⟩, rfl, OwnP.empty hB, fun i h => absurd h (Nat.not_lt_zero _), fun _ i j _ h => absurd h (Nat.not_lt_zero _), fun i h => absurd h (Nat.not_lt_zero _)⟩
theorem OwnA.keep (hE : Stable E) (h : OwnA b A E e B w v xs) (hp : ∀ us, OwnP slV e B w v us → OwnP slV e B w' v us) (hs : w.heap.size ≤ w'.heap.size) (hk : ∀ k, k < w.heap.size → v.ownBlock ≠ some k → w'.heap[k]? = w.heap[k]?) : OwnA b A E e B w' v xs := by
  obtain ⟨us, Z, hl, ho, h1, h2, h3⟩ := h
  exact ⟨us, Z, hl, hp us ho, fun i hi => ⟨(h1 i hi).1, fun k hk => ⟨((h1 i hi).2 k hk).1, Nat.lt_of_lt_of_le ((h1 i hi).2 k hk).2.1 hs, ((h1 i hi).2 k hk).2.2⟩⟩, h2, fun i hi hi' => hE.keep (h3 i hi hi') (fun k hz hlt => hk k hlt ((h1 i hi).2 k hz).2.2)⟩
theorem OwnA.below (hE : Stable E) (h : OwnA b A E e B w v xs) (hb : Below w.heap.size w w') : OwnA b A E e B w' v xs :=
  h.keep hE (fun _ ho => ho.below hb) hb.size (fun k hk _ => hb.block k hk)
theorem OwnA.drewN (hE : Stable E) (h : OwnA b A E e B w v xs) (n : Nat) : OwnA b A E e B (w.drewN n) v xs := h.keep hE (fun _ ho => ho.drewN n) (Nat.le_refl _) (fun _ _ _ => rfl)
theorem OwnA.kept {row : Option Nat} (hE : Stable E) (h : OwnA b A E e B w v xs) (hg : w.grownBy w' row) (hne : v.ownBlock = Option.none ∨ v.ownBlock ≠ row) (hz : ∀ g, row = some g → ¬ A g) : OwnA b A E e B w' v xs := by
  obtain ⟨us, Z, hl, ho, h1, h2, h3⟩ := h
  exact ⟨us, Z, hl, ho.kept hg hne, fun i hi => ⟨(h1 i hi).1, fun k hk => ⟨((h1 i hi).2 k hk).1, Nat.lt_of_lt_of_le ((h1 i hi).2 k hk).2.1 hg.size, ((h1 i hi).2 k hk).2.2⟩⟩, h2, fun i hi hi' => hE.keep (h3 i hi hi') (fun k hk hlt => hg.block k hlt (fun e => hz k e.symm ((h1 i hi).2 k hk).1))⟩
theorem OwnA.block (h : OwnA b A E e B w v xs) : ∀ k, v.ownBlock = some k → B ≤ k ∧ k < w.heap.size := by
  obtain ⟨us, Z, hl, ho, -⟩ := h
  exact ho.block
theorem OwnA.len {a : Option Addr} {n cap : Nat} (h : OwnA b A E e B w (.slice a n cap) xs) : n = xs.length := by
  obtain ⟨us, Z, hl, ho, -⟩ := h
  rw [← hl]; exact ho.len
theorem OwnA.shape (h : OwnA b A E e B w v xs) : ∃ (a : Option Addr) (n cap : Nat), v = .slice a n cap ∧ n = xs.length ∧ n ≤ 9223372036854775807 := by
  obtain ⟨us, Z, hl, ho, -⟩ := h
  obtain ⟨a, n, cap, h1, h2, h3, -⟩ := ho.shape
  exact ⟨a, n, cap, h1, by omega, h3⟩

/-- a choice for each place -/
theorem choose_list {β : Type} {n : Nat} {p : Nat → β → Prop} (h : ∀ j, j < n → ∃ x, p j x) : ∃ l : List β, l.length = n ∧ ∀ j (hj : j < l.length), p j l[j] := by
  induction n with
  | zero => exact ⟨[], rfl, fun j hj => absurd hj (Nat.not_lt_zero _)⟩
  | succ n ih =>
    obtain ⟨l, hl, hp⟩ := ih (fun j hj => h j (by omega))
    obtain ⟨x, hx⟩ := h n (by omega)
    refine ⟨l ++ [x], by simp [hl], fun j hj => ?_⟩
    by_cases e : j < l.length
    · rw [List.getElem_append_left e]; exact hp j e
    · have : j = n := by simp at hj; omega
      subst this
      have : (l ++ [x])[j] = x := by simp [List.getElem_append_right, hl]
      rw [this]; exact hx

/-- what reads as a slice -/
def SlRepr (E : Repr α) : Prop := ∀ {z w u x}, E z w u x → ∃ a, u = slV a
theorem slRepr_slice {E : Repr α} : SlRepr (SliceR E) := by
  rintro z w u x ⟨a, cap, rfl, -⟩
  exact ⟨(a, _, cap), rfl⟩

/-- 'append' at an operation, by its run -/
theorem wpList_append_of {P : Program} {ops : Array Oper} {rest : List Oper} {o : Oper} {a : Act} {Q : Exit → Act → World → Prop} {w : World} (hgd : o.guard = Option.none) (s x : Operand) (t : TypeId)
    (ho : o.op = .call { callee := .builtin .append, args := #[s, x], argTypes := #[t, t] }) {v xv : Value} (hs : a.eval s = v) (hx : a.eval x = xv) {R : Value → World → Prop}
    (hrun : ∀ ty, ∃ v' w', (Builtin.append_ #[t, t] ty #[v, xv]).run P w = .ok v' w' ∧ R v' w') (h : ∀ v' w', R v' w' → wpList P ops Q rest (a.put o.dst v') w') : wpList P ops Q (o :: rest) a w := by
  refine wpList_plain hgd fun K hK => ?_
  obtain ⟨v', w', hr, h2⟩ := hrun o.type
  unfold Oper.wp execOp
  simp only [ho, resolve, invoke, builtin, Sem.run_bind, Sem.run_pure, Result.andThen_ok, List.map_toArray, List.map_cons, List.map_nil, hs, hx, hr]
  exact hK _ _ (h v' w' h2)
/-- .. as a step of a region that draws its order -/
theorem step_append_of {P : Program} {ops : Array Oper} {o : Oper} {a : Act} {K : Act → World → Prop} {Q : Exit → Act → World → Prop} {X : Prop} {w : World} (hgd : o.guard = Option.none) (s x : Operand) (t : TypeId)
    (ho : o.op = .call { callee := .builtin .append, args := #[s, x], argTypes := #[t, t] }) {v xv : Value} (hs : a.eval s = v) (hx : a.eval x = xv) {R : Value → World → Prop}
    (hrun : ∀ ty, ∃ v' w', (Builtin.append_ #[t, t] ty #[v, xv]).run P w = .ok v' w' ∧ R v' w') (h : ∀ v' w', R v' w' → K (a.put o.dst v') w') : if Region.wanted o (yielded ops a.tmps) = true then Oper.wp P o a w K Q else X := by
  have hw : Region.wanted o (yielded ops a.tmps) = true := by simp [Region.wanted, hgd]
  rw [if_pos hw]
  obtain ⟨v', w', hr, h2⟩ := hrun o.type
  unfold Oper.wp execOp
  simp only [ho, resolve, invoke, builtin, Sem.run_bind, Sem.run_pure, Result.andThen_ok, List.map_toArray, List.map_cons, List.map_nil, hs, hx, hr]
  exact h v' w' h2

/-- what an append leaves -/
def AppR {α : Type} (b : Bool) (A : Nat → Prop) (E : Repr α) (e : TypeId) (B : Nat) (w : World) (v : Value) (zs : List α) (v' : Value) (w' : World) : Prop :=
  OwnA b A E e B w' v' zs ∧ w.grownBy w' v.ownBlock ∧ (v'.ownBlock = v.ownBlock ∨ v'.ownBlock = some w.heap.size)
/-- 'append(s, x...)', s of the call's own: its elements are slices, each with its own zone -/
theorem run_appendRowsY {P : Program} (hE : Stable E) (t ty : TypeId) (ht : P.underlying t = some (.slice e)) (hinfo : (P.info? e).map (fun i => (i.zero, i.size, i.bytes)) = some (some zr, 1, 24))
    {w0 : World} {A0 : Nat → Prop} (hA : ∀ k, k < w0.heap.size → A0 k → A k) (hown : OwnA b A0 E e B w0 v xs) (hb : Below w0.heap.size w0 w) {ad : Addr} {cap : Nat} {ys : List α} (Y : Nat → Zone)
    (hyo : ∀ j, j < ys.length → b = true → (Y j).own = true) (hz : ∀ j, j < ys.length → ∀ k, (Y j).Has k → A k ∧ k < w.heap.size ∧ v.ownBlock ≠ some k) (hap : b = true → ∀ j, j < ys.length → ∀ k, (Y j).Has k → k < w0.heap.size → ¬ A0 k)
    (k6 : b = true → ∀ i j, i < j → j < ys.length → (Y i).Apart (Y j)) (hex : ∀ j, j < ys.length → ∃ u, w.cell? (ad.add j) = some (slV u) ∧ ∀ hj : j < ys.length, E (Y j) w (slV u) ys[j]) (g1 : ys.length ≤ cap) (g2 : cap ≤ maxLen)
    (hn : xs.length + ys.length ≤ 1099511627776) (hB : B ≤ w0.heap.size) (hzr : zr.cells.size = 1 := by rfl) :
    ∃ v' w', (Builtin.append_ #[t, t] ty #[v, .slice (some ad) ys.length cap]).run P w = .ok v' w' ∧ AppR b A E e B w v (xs ++ ys) v' w' := by
  obtain ⟨i, hi, hz0, hz1, hz2⟩ := info_parts hinfo
  obtain ⟨us, Z, hl, hop, h1, h2, h3⟩ := hown
  have hop' := hop.below hb
  have hsz := hb.size
  obtain ⟨us2, hl2, hus2⟩ := choose_list hex
  have hbb : (us.length + ys.length) * 24 ≤ 140737488355328 := by omega
  have hc1 : ∀ j u, (us2.map slV)[j]? = some u → w.cell? (ad.add j) = some u := by
    intro j u hu
    rw [List.getElem?_map] at hu
    obtain ⟨y, hy, rfl⟩ := Option.map_eq_some_iff.1 hu
    obtain ⟨hj, rfl⟩ := List.getElem?_eq_some_iff.1 hy
    exact (hus2 j hj).1
  have hc2 : ∀ u ∈ us2.map slV, u.oneCell' = true := by
    intro u hu
    obtain ⟨y, _, rfl⟩ := List.mem_map.1 hu
    rfl
  obtain ⟨v', w', hrun, hv', hg, -, hat⟩ := run_append_own_at (P := P) w B t ty e i zr 1 24 ht hi hz0 hz1 hz2 hzr (by omega) v us.length (us.map slV) hop' ad ys.length cap (us2.map slV) (by simp [hl2]) hc1 hc2 (by unfold maxLen; omega) hbb (by omega)
  refine ⟨v', w', hrun, ?_⟩
  · have hgs := hg.size
    have hne : ∀ k, k < w.heap.size → v.ownBlock ≠ some k → v'.ownBlock ≠ some k := fun k hk hn e => by
      rcases hat with hat | hat
      · exact hn (hat ▸ e)
      · rw [hat] at e; injection e with e; omega
    refine ⟨?_, hg, hat⟩
    have hus : OwnP slV e B w' v' (us ++ us2) := by
      unfold OwnP
      rw [List.length_append, List.map_append, hl2]
      exact hv'
    refine ⟨us ++ us2, fun j => if j < xs.length then Z j else Y (j - xs.length), by simp [hl, hl2], hus, fun j hj => ?_, fun ho i j hij hj => ?_, fun j hj hj' => ?_⟩
    · by_cases hjx : j < xs.length
      · simp only [hjx, if_true]
        exact ⟨(h1 j hjx).1, fun k hk => by obtain ⟨q1, q2, q3⟩ := (h1 j hjx).2 k hk; exact ⟨hA k q2 q1, by omega, hne k (by omega) q3⟩⟩
      · simp only [hjx, if_false]
        have hjy : j - xs.length < ys.length := by simp at hj; omega
        exact ⟨fun hb => hyo _ hjy hb, fun k hk => by obtain ⟨q1, q2, q3⟩ := hz _ hjy k hk; exact ⟨q1, by omega, hne k q2 q3⟩⟩
    · by_cases hix : i < xs.length
      · by_cases hjx : j < xs.length
        · simp only [hix, hjx, if_true]; exact h2 ho i j hij hjx
        · simp only [hix, hjx, if_true, if_false]
          have hjy : j - xs.length < ys.length := by simp at hj; omega
          intro k q1 q2
          exact hap ho _ hjy k q2 ((h1 i hix).2 k q1).2.1 ((h1 i hix).2 k q1).1
      · have hjx : ¬ j < xs.length := by omega
        simp only [hix, hjx, if_false]
        exact k6 ho _ _ (by omega) (by simp at hj; omega)
    · by_cases hjx : j < xs.length
      · have e1 : (us ++ us2)[j] = us[j]'(by omega) := List.getElem_append_left (by omega)
        have e2 : (xs ++ ys)[j] = xs[j] := List.getElem_append_left hjx
        simp only [hjx, if_true]
        rw [e1, e2]
        exact hE.keep (h3 j hjx (by omega)) (fun k hk hlt => by rw [hg.block k (by omega) (fun e => ((h1 j hjx).2 k hk).2.2 e.symm)]; exact hb.block k hlt)
      · have hjy : j - xs.length < ys.length := by simp at hj; omega
        have e1 : (us ++ us2)[j] = us2[j - us.length]'(by omega) := List.getElem_append_right (by omega)
        have e2 : (xs ++ ys)[j] = ys[j - xs.length] := List.getElem_append_right (by omega)
        simp only [hjx, if_false]
        rw [e1, e2]
        have := (hus2 (j - xs.length) (by omega)).2 hjy
        simp only [hl]
        exact hE.keep this (fun k hk hlt => hg.block k hlt (fun e => (hz _ hjy k hk).2.2 e.symm))
/-- 'append(s, x...)', s of the call's own: its elements are slices -/
theorem run_appendRowsZ {P : Program} (hE : Stable E) (hsl : SlRepr E) (t ty : TypeId) (ht : P.underlying t = some (.slice e)) (hinfo : (P.info? e).map (fun i => (i.zero, i.size, i.bytes)) = some (some zr, 1, 24))
    {w0 : World} {A0 : Nat → Prop} (hA : ∀ k, k < w0.heap.size → A0 k → A k) (hown : OwnA b A0 E e B w0 v xs) (hb : Below w0.heap.size w0 w) {Zn : Zone} {xv : Value} {ys : List α} (hr : SliceR E Zn w xv ys)
    (hzo : b = true → Zn.own = true) (hz : ∀ k, Zn.Has k → A k ∧ k < w.heap.size ∧ v.ownBlock ≠ some k) (hap : b = true → ∀ k, Zn.Has k → k < w0.heap.size → ¬ A0 k)
    (hn : xs.length + ys.length ≤ 1099511627776) (hB : B ≤ w0.heap.size) (hzr : zr.cells.size = 1 := by rfl) :
    ∃ v' w', (Builtin.append_ #[t, t] ty #[v, xv]).run P w = .ok v' w' ∧ AppR b A E e B w v (xs ++ ys) v' w' := by
  obtain ⟨i, hi, hz0, hz1, hz2⟩ := info_parts hinfo
  have hown0 := hown
  obtain ⟨us, Z, hl, hop, h1, h2, h3⟩ := hown
  have hop' := hop.below hb
  have hsz := hb.size
  obtain ⟨ad, cap, rfl, g1, g2, g3, g4⟩ := hr
  cases ad with
  | none =>
    obtain ⟨rfl, rfl⟩ := g3 rfl
    have hrun := run_append_owned_none (P := P) w B t ty e i 1 ht hi _ _ _ hop'
    exact ⟨v, w, hrun, by rw [List.append_nil]; exact OwnA.below hE ⟨us, Z, hl, hop, fun i hi => ⟨(h1 i hi).1, fun k hk => ⟨hA k ((h1 i hi).2 k hk).2.1 ((h1 i hi).2 k hk).1, ((h1 i hi).2 k hk).2⟩⟩, h2, h3⟩ hb, World.grownBy.refl _ _, .inl rfl⟩
  | some ad =>
    have hex : ∃ (Y : Nat → Zone), (∀ j, j < ys.length → (Y j).Sub Zn) ∧ (Zn.own = true → ∀ i j, i < j → j < ys.length → (Y i).Apart (Y j)) ∧ ∀ j, j < ys.length → ∃ u, w.cell? (ad.add j) = some (slV u) ∧ ∀ hj : j < ys.length, E (Y j) w (slV u) ys[j] := by
      rcases Nat.eq_zero_or_pos ys.length with h0 | hp
      · exact ⟨fun _ => Zn, fun j hj => by omega, fun _ i j _ hj => by omega, fun j hj => by omega⟩
      · obtain ⟨k1, k2, k3, k4, Y, k5, k6, k7⟩ := g4 ad rfl hp
        refine ⟨Y, k5, fun ho => (k6 ho).2, fun j hj => ?_⟩
        obtain ⟨u, c1, c2⟩ := k7 j hj
        obtain ⟨u', rfl⟩ := hsl c2
        obtain ⟨bl, off, sp⟩ := ad
        simp only at k1; subst k1
        exact ⟨u', by rw [Addr.add_lit]; exact c1, fun _ => c2⟩
    obtain ⟨Y, k5, k6, hex⟩ := hex
    exact run_appendRowsY hE t ty ht hinfo hA hown0 hb Y (fun j hj ho => (k5 j hj).2 (hzo ho)) (fun j hj k hk => hz k ((k5 j hj).1 k hk)) (fun ho j hj k hk => hap ho k ((k5 j hj).1 k hk)) (fun ho => k6 (hzo ho)) hex g1 g2 hn hB hzr
/-- 'append(s, x...)', s of the call's own: its elements are slices -/
theorem run_appendRows {P : Program} (hE : Stable E) (hsl : SlRepr E) (t ty : TypeId) (ht : P.underlying t = some (.slice e)) (hinfo : (P.info? e).map (fun i => (i.zero, i.size, i.bytes)) = some (some zr, 1, 24))
    {w0 : World} (hown : OwnA b A E e B w0 v xs) (hb : Below w0.heap.size w0 w) {Zn : Zone} {xv : Value} {ys : List α} (hr : SliceR E Zn w xv ys)
    (hzo : b = true → Zn.own = true) (hz : ∀ k, Zn.Has k → A k ∧ k < w.heap.size ∧ v.ownBlock ≠ some k) (hap : b = true → w0.heap.size ≤ Zn.lo)
    (hn : xs.length + ys.length ≤ 1099511627776) (hB : B ≤ w0.heap.size) (hzr : zr.cells.size = 1 := by rfl) :
    ∃ v' w', (Builtin.append_ #[t, t] ty #[v, xv]).run P w = .ok v' w' ∧ AppR b A E e B w v (xs ++ ys) v' w' :=
  run_appendRowsZ hE hsl t ty ht hinfo (fun _ _ h => h) hown hb hr hzo hz (fun ho k h1 h2 => absurd (Nat.le_trans (hap ho) h1.1) (by omega)) hn hB hzr

/-- 'append(s, x...)', s of the call's own: its elements are slices -/
theorem wpList_appendRows {P : Program} {ops : Array Oper} {rest : List Oper} {o : Oper} {a : Act} {Q : Exit → Act → World → Prop} (hE : Stable E) (hsl : SlRepr E) (hgd : o.guard = Option.none) (s x : Operand) (t : TypeId)
    (ho : o.op = .call { callee := .builtin .append, args := #[s, x], argTypes := #[t, t] }) (ht : P.underlying t = some (.slice e)) (hinfo : (P.info? e).map (fun i => (i.zero, i.size, i.bytes)) = some (some zr, 1, 24))
    (hs : a.eval s = v) {w0 : World} (hown : OwnA b A E e B w0 v xs) (hb : Below w0.heap.size w0 w) {Zn : Zone} {xv : Value} {ys : List α} (hx : a.eval x = xv) (hr : SliceR E Zn w xv ys)
    (hzo : b = true → Zn.own = true) (hz : ∀ k, Zn.Has k → A k ∧ k < w.heap.size ∧ v.ownBlock ≠ some k) (hap : b = true → w0.heap.size ≤ Zn.lo)
    (hn : xs.length + ys.length ≤ 1099511627776) (hB : B ≤ w0.heap.size)
    (h : ∀ v' w', OwnA b A E e B w' v' (xs ++ ys) → w.grownBy w' v.ownBlock → (v'.ownBlock = v.ownBlock ∨ v'.ownBlock = some w.heap.size) → wpList P ops Q rest (a.put o.dst v') w') (hzr : zr.cells.size = 1 := by rfl) : wpList P ops Q (o :: rest) a w :=
  wpList_append_of hgd s x t ho hs hx (fun ty => run_appendRows hE hsl t ty ht hinfo hown hb hr hzo hz hap hn hB hzr) (fun v' w' h' => h v' w' h'.1 h'.2.1 h'.2.2)

/-- one slice in a block of its own -/
theorem SliceR.one (hE : Stable E) {Zn : Zone} {u : Option Addr × Nat × Nat} {y : α} (h : E Zn w (slV u) y) (hb : Zn.hi ≤ w.heap.size) {lo : Nat} (hlo : lo ≤ Zn.lo) (hlo' : lo ≤ w.heap.size) : SliceR E ⟨lo, w.heap.size + 1, Zn.own⟩ (w.alloc (.cells #[slV u] e)) (.slice (some ⟨w.heap.size, 0, Option.none⟩) 1 1) [y] := by
  refine ⟨some ⟨w.heap.size, 0, Option.none⟩, 1, rfl, Nat.le_refl _, by unfold maxLen; omega, (fun h => by cases h), fun ad had _ => ?_⟩
  cases had
  refine ⟨rfl, ⟨hlo', Nat.lt_succ_self _⟩, by simp, fun _ i hi => frozen_of_row _ _ _ #[slV u] e (heap_alloc_new w _), fun _ => Zn, fun i hi => ⟨fun k hk => ⟨Nat.le_trans hlo hk.1, by have h2 : k < Zn.hi := hk.2; show k < w.heap.size + 1; omega⟩, fun h => h⟩, fun _ => ⟨fun i hi hk => by have := hk.2; simp only at this; omega, fun i j hij hj => by simp at hj; omega⟩, fun i hi => ?_⟩
  have : i = 0 := by simpa using hi
  subst this
  refine ⟨slV u, ?_, hE.below h ((Below.refl _ _).alloc (Nat.le_refl _) _)⟩
  show (w.alloc _).cell? ⟨w.heap.size, 0 + 0, Option.none⟩ = _
  simp

/-- 'append(s, y)', s of the call's own, y what has just been made -/
theorem wpList_appendRowA {P : Program} {ops : Array Oper} {rest : List Oper} {o : Oper} {a : Act} {Q : Exit → Act → World → Prop} (hE : Stable E) (hsl : SlRepr E) (hgd : o.guard = Option.none) (s x : Operand) (t : TypeId)
    (ho : o.op = .call { callee := .builtin .append, args := #[s, x], argTypes := #[t, t] }) (ht : P.underlying t = some (.slice e)) (hinfo : (P.info? e).map (fun i => (i.zero, i.size, i.bytes)) = some (some zr, 1, 24))
    (hs : a.eval s = v) {w0 : World} (hown : OwnA b A E e B w0 v xs) (hb : Below w0.heap.size w0 w) (u : Option Addr × Nat × Nat) (y : α) (hu : E (.new w0 w) w (slV u) y) (hx : a.eval x = .slice (some ⟨w.heap.size, 0, Option.none⟩) 1 1)
    (hn : xs.length + 1 ≤ 1099511627776) (hL : ∀ k, w0.heap.size ≤ k → A k) (hB : B ≤ w0.heap.size)
    (h : ∀ v' w', OwnA b A E e B w' v' (xs ++ [y]) → Below B w0 w' → w.heap.size ≤ w'.heap.size → w.grownBy w' v.ownBlock → (∀ k, v'.ownBlock = some k → v.ownBlock = some k ∨ w.heap.size ≤ k) → wpList P ops Q rest (a.put o.dst v') w') (hzr : zr.cells.size = 1 := by rfl) : wpList P ops Q (o :: rest) a (w.alloc (.cells #[slV u] e)) := by
  have hsz := hb.size
  have hbk := hown.block
  refine wpList_appendRows hE hsl hgd s x t ho ht hinfo hs hown (hb.alloc hsz _) hx (SliceR.one hE hu (Nat.le_refl _) (Nat.le_refl _) hsz) (fun _ => rfl) (fun k hk => ?_) (fun _ => Nat.le_refl _) hn hB (fun v' w' ho' hg hat => ?_) hzr
  · have q1 := hk.1
    have q2 := hk.2
    simp only [Zone.new] at q1 q2
    refine ⟨hL k (by omega), by simpa using q2, fun e => ?_⟩
    have := (hbk k e).2
    omega
  · have hg' : w.grownBy w' v.ownBlock := grownBy_trans (World.grownBy_alloc w _ _) hg
    refine h v' w' ho' ((hb.mono hB).grown hg' (by omega) (fun k hk => (hbk k hk).1)) hg'.size hg' (fun k hk => ?_)
    rcases hat with hat | hat
    · exact .inl (hat ▸ hk)
    · right; rw [hat] at hk; injection hk with hk; simp at hk; omega

/-- what lies in a zone that is not written stays -/
theorem Same.grown {z : Zone} {a w w' : World} {row : Option Nat} (h : Same z a w) (hs : a.heap.size ≤ w.heap.size) (hg : w.grownBy w' row) (ho : ∀ k, row = some k → ¬ z.Has k) : Same z a w' :=
  fun k hk hl => (hg.block k (Nat.lt_of_lt_of_le hl hs) (fun e => ho k e.symm hk)).trans (h k hk hl)
theorem Same.below {z : Zone} {a w w' : World} (h : Same z a w) (hs : a.heap.size ≤ w.heap.size) (hb : Below w.heap.size w w') : Same z a w' :=
  fun k hk hl => (hb.block k (Nat.lt_of_lt_of_le hl hs)).trans (h k hk hl)
theorem Same.refl (z : Zone) (w : World) : Same z w w := fun _ _ _ => rfl
/-- the slice's own block lies before lo or from hi on -/
def Off (v : Value) (lo hi : Nat) : Prop := ∀ k, v.ownBlock = some k → k < lo ∨ hi ≤ k
theorem Off.not {v : Value} {w w' : World} (h : Off v w.heap.size w'.heap.size) : ∀ k, v.ownBlock = some k → ¬ (Zone.new w w').Has k := fun k hk hh => by
  have h1 := hh.1; have h2 := hh.2; simp only [Zone.new] at h1 h2
  rcases h k hk with h | h <;> omega
theorem Off.next {v v' : Value} {lo hi n : Nat} (h : Off v lo hi) (hn : hi ≤ n) (ha : ∀ k, v'.ownBlock = some k → v.ownBlock = some k ∨ n ≤ k) : Off v' lo hi := fun k hk => by
  rcases ha k hk with h' | h'
  · exact h k h'
  · right; omega
theorem Off.of {v : Value} {lo hi : Nat} (h : ∀ k, v.ownBlock = some k → k < lo) : Off v lo hi := fun k hk => .inl (h k hk)

/-- what an append of one row leaves -/
def AppA1 {α : Type} (b : Bool) (A : Nat → Prop) (E : Repr α) (e : TypeId) (B : Nat) (w0 w : World) (v : Value) (zs : List α) (v' : Value) (w' : World) : Prop :=
  OwnA b A E e B w' v' zs ∧ Below B w0 w' ∧ w.heap.size ≤ w'.heap.size ∧ w.grownBy w' v.ownBlock ∧ ∀ k, v'.ownBlock = some k → v.ownBlock = some k ∨ w.heap.size ≤ k
theorem run_appendRowA {P : Program} (hE : Stable E) (hsl : SlRepr E) (t ty : TypeId) (ht : P.underlying t = some (.slice e)) (hinfo : (P.info? e).map (fun i => (i.zero, i.size, i.bytes)) = some (some zr, 1, 24))
    {w0 : World} (hown : OwnA b A E e B w0 v xs) (hb : Below w0.heap.size w0 w) {u : Option Addr × Nat × Nat} {y : α} (hu : E (.new w0 w) w (slV u) y) {g : Nat} (hg : w.heap.size = g)
    (hn : xs.length + 1 ≤ 1099511627776) (hL : ∀ k, w0.heap.size ≤ k → A k) (hB : B ≤ w0.heap.size) (hzr : zr.cells.size = 1 := by rfl) :
    ∃ v' w', (Builtin.append_ #[t, t] ty #[v, .slice (some ⟨g, 0, Option.none⟩) 1 1]).run P (w.alloc (.cells #[slV u] e)) = .ok v' w' ∧ AppA1 b A E e B w0 w v (xs ++ [y]) v' w' := by
  subst hg
  have hsz := hb.size
  have hbk := hown.block
  have hz : ∀ k, (Zone.Has ⟨w0.heap.size, w.heap.size + 1, (Zone.new w0 w).own⟩ k) → A k ∧ k < (w.alloc (.cells #[slV u] e)).heap.size ∧ v.ownBlock ≠ some k := fun k hk => by
    have q1 := hk.1
    have q2 := hk.2
    simp only at q1 q2
    refine ⟨hL k (by omega), by simpa using q2, fun e => ?_⟩
    have := (hbk k e).2
    omega
  obtain ⟨v', w', hrun, ho', hg, hat⟩ := run_appendRows (P := P) (ty := ty) hE hsl t ht hinfo hown (hb.alloc hsz (.cells #[slV u] e)) (SliceR.one (e := e) hE hu (Nat.le_refl _) (Nat.le_refl _) hsz) (fun _ => rfl) hz (fun _ => Nat.le_refl _) hn hB hzr
  have hg' : w.grownBy w' v.ownBlock := grownBy_trans (World.grownBy_alloc w _ _) hg
  refine ⟨v', w', hrun, ho', (hb.mono hB).grown hg' (by omega) (fun k hk => (hbk k hk).1), hg'.size, hg', fun k hk => ?_⟩
  rcases hat with hat | hat
  · exact .inl (hat ▸ hk)
  · right; rw [hat] at hk; injection hk with hk; simp at hk; omega
end
/-- .. from block L on -/
abbrev OwnR {α : Type} (b : Bool) (L : Nat) (E : Repr α) (e : TypeId) (B : Nat) (w : World) (v : Value) (xs : List α) : Prop := OwnA b (fun k => L ≤ k) E e B w v xs
section
variable {α : Type} {b : Bool} {L : Nat} {E : Repr α} {e : TypeId} {B : Nat} {w w' : World} {v : Value} {xs : List α} {zr : Value}
theorem OwnR.reads (h : OwnR b L E e B w v xs) (hL : L ≤ B) : SliceR E ⟨L, w.heap.size, b⟩ w v xs := OwnA.reads h (fun _ h => h) hL
theorem OwnR.none : OwnR b L E e B w (.slice none 0 0) [] := OwnA.none
theorem OwnR.empty (hB : B ≤ w.heap.size) : OwnR b L E e B (w.alloc (.cells #[] e)) (.slice (some ⟨w.heap.size, 0, Option.none⟩) 0 0) [] := OwnA.empty hB
theorem OwnR.below (hE : Stable E) (h : OwnR b L E e B w v xs) (hb : Below w.heap.size w w') : OwnR b L E e B w' v xs := OwnA.below hE h hb
theorem OwnR.block (h : OwnR b L E e B w v xs) : ∀ k, v.ownBlock = some k → B ≤ k ∧ k < w.heap.size := OwnA.block h
theorem OwnR.shape (h : OwnR b L E e B w v xs) : ∃ (a : Option Addr) (n cap : Nat), v = .slice a n cap ∧ n = xs.length ∧ n ≤ 9223372036854775807 := OwnA.shape h
abbrev App1 {α : Type} (b : Bool) (L : Nat) (E : Repr α) (e : TypeId) (B : Nat) (w0 w : World) (v : Value) (zs : List α) (v' : Value) (w' : World) : Prop := AppA1 b (fun k => L ≤ k) E e B w0 w v zs v' w'
theorem run_appendRow {P : Program} (hE : Stable E) (hsl : SlRepr E) (t ty : TypeId) (ht : P.underlying t = some (.slice e)) (hinfo : (P.info? e).map (fun i => (i.zero, i.size, i.bytes)) = some (some zr, 1, 24))
    {w0 : World} (hown : OwnR b L E e B w0 v xs) (hb : Below w0.heap.size w0 w) {u : Option Addr × Nat × Nat} {y : α} (hu : E (.new w0 w) w (slV u) y) {g : Nat} (hg : w.heap.size = g)
    (hn : xs.length + 1 ≤ 1099511627776) (hL : L ≤ w0.heap.size) (hB : B ≤ w0.heap.size) (hzr : zr.cells.size = 1 := by rfl) :
    ∃ v' w', (Builtin.append_ #[t, t] ty #[v, .slice (some ⟨g, 0, Option.none⟩) 1 1]).run P (w.alloc (.cells #[slV u] e)) = .ok v' w' ∧ App1 b L E e B w0 w v (xs ++ [y]) v' w' :=
  run_appendRowA hE hsl t ty ht hinfo hown hb hu hg hn (fun k hk => Nat.le_trans hL hk) hB hzr
theorem wpList_appendRow {P : Program} {ops : Array Oper} {rest : List Oper} {o : Oper} {a : Act} {Q : Exit → Act → World → Prop} (hE : Stable E) (hsl : SlRepr E) (hgd : o.guard = Option.none) (s x : Operand) (t : TypeId)
    (ho : o.op = .call { callee := .builtin .append, args := #[s, x], argTypes := #[t, t] }) (ht : P.underlying t = some (.slice e)) (hinfo : (P.info? e).map (fun i => (i.zero, i.size, i.bytes)) = some (some zr, 1, 24))
    (hs : a.eval s = v) {w0 : World} (hown : OwnR b L E e B w0 v xs) (hb : Below w0.heap.size w0 w) (u : Option Addr × Nat × Nat) (y : α) (hu : E (.new w0 w) w (slV u) y) (hx : a.eval x = .slice (some ⟨w.heap.size, 0, Option.none⟩) 1 1)
    (hn : xs.length + 1 ≤ 1099511627776) (hL : L ≤ w0.heap.size) (hB : B ≤ w0.heap.size)
    (h : ∀ v' w', OwnR b L E e B w' v' (xs ++ [y]) → Below B w0 w' → w.heap.size ≤ w'.heap.size → w.grownBy w' v.ownBlock → (∀ k, v'.ownBlock = some k → v.ownBlock = some k ∨ w.heap.size ≤ k) → wpList P ops Q rest (a.put o.dst v') w') (hzr : zr.cells.size = 1 := by rfl) : wpList P ops Q (o :: rest) a (w.alloc (.cells #[slV u] e)) :=
  wpList_appendRowA hE hsl hgd s x t ho ht hinfo hs hown hb u y hu hx hn (fun k hk => Nat.le_trans hL hk) hB h hzr
/-- the same under another condition on the blocks -/
theorem OwnA.weaken {A A' : Nat → Prop} (h : OwnA b A E e B w v xs) (hA : ∀ k, k < w.heap.size → A k → A' k) : OwnA b A' E e B w v xs := by
  obtain ⟨us, Z, hl, ho, h1, h2, h3⟩ := h
  exact ⟨us, Z, hl, ho, fun i hi => ⟨(h1 i hi).1, fun k hk => ⟨hA k ((h1 i hi).2 k hk).2.1 ((h1 i hi).2 k hk).1, ((h1 i hi).2 k hk).2⟩⟩, h2, h3⟩
/-- what is written outside -/
theorem OwnA.outside {A : Nat → Prop} (hE : Stable E) (h : OwnA b A E e B w v xs) {g : Nat} (hg : ∀ k, k < w.heap.size → k ≠ g → w'.heap[k]? = w.heap[k]?) (hs : w.heap.size ≤ w'.heap.size) (hA : ¬ A g) (hne : v.ownBlock ≠ some g) : OwnA b A E e B w' v xs := by
  obtain ⟨us, Z, hl, ⟨ho1, ho2⟩, h1, h2, h3⟩ := h
  refine ⟨us, Z, hl, ⟨ho1, ?_⟩, fun i hi => ⟨(h1 i hi).1, fun k hk => ⟨((h1 i hi).2 k hk).1, Nat.lt_of_lt_of_le ((h1 i hi).2 k hk).2.1 hs, ((h1 i hi).2 k hk).2.2⟩⟩, h2, fun i hi hi' => hE.keep (h3 i hi hi') (fun k hz hlt => hg k hlt (fun e => hA (e ▸ ((h1 i hi).2 k hz).1)))⟩
  rcases ho2 with h | ⟨g', cap, cur, hv, hb, hgg, r⟩
  · exact .inl h
  · refine .inr ⟨g', cap, cur, hv, hb, ?_, r⟩
    rw [hg g' (Array.getElem?_eq_some_iff.1 hgg).1 (fun e => hne (by rw [hv, e]; rfl))]; exact hgg
end
theorem OwnR.rows {e : TypeId} {B : Nat} {w : World} {v : Value} {xss : List (List Int)} (h : OwnR true B IntsR e B w v xss) : RowsR ⟨B, w.heap.size, true⟩ w v xss := OwnR.reads h (Nat.le_refl _)

/-- 'append(s, x...)', s of the call's own, x any slice that reads as ys: its run -/
theorem run_appendP {α : Type} {f : α → Value} {e : TypeId} {B : Nat} {w : World} {v : Value} {xs : List α} {P : Program} (t ty : TypeId) (x0 : α) (bytes : Nat) (ht : P.underlying t = some (.slice e)) (hinfo : (P.info? e).map (fun i => (i.zero, i.size, i.bytes)) = some (some (f x0), 1, bytes))
    (hcell : (f x0).cells = #[f x0]) (h1 : ∀ x, (f x).oneCell' = true) (hown : OwnP f e B w v xs) {E : Repr α} (hE : ∀ {z w u x}, E z w u x → u = f x) {z : Zone} {xv : Value} {ys : List α} (hr : SliceR E z w xv ys)
    (hn : xs.length + ys.length ≤ 1099511627776) (hby : bytes ≤ 64) (hB : B ≤ w.heap.size) :
    ∃ v' w', (Builtin.append_ #[t, t] ty #[v, xv]).run P w = .ok v' w' ∧ OwnP f e B w' v' (xs ++ ys) ∧ w.grownBy w' v.ownBlock ∧ Below B w w' := by
  obtain ⟨i, hi, hz0, hz1, hz2⟩ := info_parts hinfo
  have hbb : (xs.length + ys.length) * bytes ≤ 140737488355328 := Nat.le_trans (Nat.mul_le_mul hn hby) (by omega)
  obtain ⟨ad, n, cap, rfl, hn', -, -, -, hnone, hel⟩ := SliceR.shape hr
  cases ad with
  | some ad =>
    subst hn'
    have hc1 : ∀ j u, (ys.map f)[j]? = some u → w.cell? (ad.add j) = some u := by
      intro j u hu
      rw [List.getElem?_map] at hu
      obtain ⟨y, hy, rfl⟩ := Option.map_eq_some_iff.1 hu
      obtain ⟨hj, rfl⟩ := List.getElem?_eq_some_iff.1 hy
      obtain ⟨b, off, he, _, _, _, u', y', hc, _, _, hu'⟩ := hel j hj
      injection he with he
      subst he
      rw [Addr.add_lit, hc, hE hu']
    have hc2 : ∀ u ∈ ys.map f, u.oneCell' = true := by
      intro u hu
      obtain ⟨y, _, rfl⟩ := List.mem_map.1 hu
      exact h1 y
    obtain ⟨v', w', hrun, hv', hg, -⟩ := run_append_own (P := P) w B t ty e i (f x0) 1 bytes ht hi hz0 hz1 hz2 (by rw [hcell]; rfl) (by omega) v xs.length (xs.map f) hown ad ys.length cap (ys.map f) (by simp) hc1 hc2 (by unfold maxLen; omega) hbb hB
    refine ⟨v', w', hrun, ?_, hg, (Below.refl _ _).grown hg hB (fun k hk => (hown.block k hk).1)⟩
    unfold OwnP
    rw [List.length_append, List.map_append]
    exact hv'
  | none =>
    obtain ⟨rfl, rfl⟩ := hnone rfl
    obtain rfl : ys = [] := List.eq_nil_of_length_eq_zero hn'.symm
    have hrun := run_append_owned_none (P := P) w B t ty e i 1 ht hi _ _ _ hown
    exact ⟨v, w, hrun, by simpa using hown, World.grownBy.refl _ _, Below.refl _ _⟩

open Go.ChangeShapes Go.WideShapes Go.ChangeAt Go.RowKit
set_option linter.unusedVariables false

theorem l01Abs_c (w : World) (x : Int) (h1 : -1000000 ≤ x) (h2 : x ≤ 1000000) : Calls Tryz.prog 172 #[.int .i64 x] w (RetQ w (.int .i64 (x.natAbs : Int))) := by
  by_cases hx : x < -x
  · have HH : Hid ((x.natAbs : Int) = -x) := by show _ = _; omega
    go_enter Tryz.func172, Tryz.ntmps172
    go_wp2_with fail
    go_ret
    exact ⟨ret_int HH.out.symm, Drew.refl _⟩
  · have HH : Hid ((x.natAbs : Int) = x) := by show _ = _; omega
    go_enter Tryz.func172, Tryz.ntmps172
    go_wp2_with fail
    go_ret
    exact ⟨ret_int HH.out.symm, Drew.refl _⟩

theorem absolute_c (w : World) (x : Int) (h1 : -1000000 ≤ x) (h2 : x ≤ 1000000) : Calls Tryz.prog 161 #[.int .i64 x] w (RetQ w (.int .i64 (x.natAbs : Int))) := by
  by_cases hx : x < -x
  · have HH : Hid ((x.natAbs : Int) = -x) := by show _ = _; omega
    go_enter Tryz.func161, Tryz.ntmps161
    go_wp2_with fail
    go_ret
    exact ⟨ret_int HH.out.symm, Drew.refl _⟩
  · have HH : Hid ((x.natAbs : Int) = x) := by show _ = _; omega
    go_enter Tryz.func161, Tryz.ntmps161
    go_wp2_with fail
    go_ret
    exact ⟨ret_int HH.out.symm, Drew.refl _⟩

open Go.ChangeShapes Go.WideShapes Go.ChangeAt Go.RowKit
set_option linter.unusedVariables false

theorem run_append1 {α : Type} {f : α → Value} {e : TypeId} {B : Nat} {w : World} {v : Value} {xs : List α} {P : Program} (t ty : TypeId) (x0 : α) (bytes : Nat) (ht : P.underlying t = some (.slice e)) (hinfo : (P.info? e).map (fun i => (i.zero, i.size, i.bytes)) = some (some (f x0), 1, bytes))
    (hcell : (f x0).cells = #[f x0]) (h1 : ∀ x, (f x).oneCell' = true) (hown : OwnP f e B w v xs) (y : α) {g : Nat} (hg : w.heap.size = g)
    (hn : xs.length + 1 ≤ 1099511627776) (hby : bytes ≤ 64) (hB : B ≤ w.heap.size) :
    ∃ v' w', (Builtin.append_ #[t, t] ty #[v, .slice (some ⟨g, 0, none⟩) 1 1]).run P (w.alloc (.cells #[f y] e)) = .ok v' w' ∧ (OwnP f e B w' v' (xs ++ [y]) ∧ w.grownBy w' v.ownBlock ∧ Below B w w' ∧ ∀ k, v'.ownBlock = some k → v.ownBlock = some k ∨ w.heap.size ≤ k) := by
  subst hg
  obtain ⟨i, hi, hz0, hz1, hz2⟩ := info_parts hinfo
  have hbb : (xs.length + 1) * bytes ≤ 140737488355328 := Nat.le_trans (Nat.mul_le_mul hn hby) (by omega)
  obtain ⟨v', w', hrun, hv', hg, -, hat⟩ := run_append_own_at (P := P) (w := w.alloc (.cells #[f y] e)) B t ty e i (f x0) 1 bytes ht hi hz0 hz1 hz2 (by rw [hcell]; rfl) (by omega) v xs.length (xs.map f) (hown.alloc _) ⟨w.heap.size, 0, none⟩ 1 1 [f y] (by simp)
    (fun j u hu => by
      have hj : j = 0 := by
        rcases Nat.eq_zero_or_pos j with h | h
        · exact h
        · rw [List.getElem?_eq_none (by simp; omega)] at hu; cases hu
      subst hj
      rw [Addr.add_zero']
      simp at hu ⊢
      exact hu)
    (fun u hu => by rw [List.mem_singleton.1 hu]; exact h1 y) (by unfold maxLen; omega) hbb (by simp; omega)
  have hg' : w.grownBy w' v.ownBlock := grownBy_trans (World.grownBy_alloc w _ _) hg
  refine ⟨v', w', hrun, ?_, hg', (Below.refl _ _).grown hg' hB (fun k hk => (hown.block k hk).1), fun k hk => ?_⟩
  · unfold OwnP
    rw [List.length_append, List.map_append]
    exact hv'
  · rcases hat with hat | hat
    · exact .inl (hat ▸ hk)
    · right; rw [hat] at hk; injection hk with hk; simp at hk; omega
theorem wpList_append1X {α : Type} {f : α → Value} {e : TypeId} {B : Nat} {w : World} {v : Value} {xs : List α} {P : Program} {ops : Array Oper} {rest : List Oper} {o : Oper} {a : Act} {Q : Exit → Act → World → Prop} (hgd : o.guard = Option.none) (s x : Operand) (t : TypeId)
    (ho : o.op = .call { callee := .builtin .append, args := #[s, x], argTypes := #[t, t] }) (x0 : α) (bytes : Nat) (ht : P.underlying t = some (.slice e)) (hinfo : (P.info? e).map (fun i => (i.zero, i.size, i.bytes)) = some (some (f x0), 1, bytes))
    (hcell : (f x0).cells = #[f x0]) (h1 : ∀ x, (f x).oneCell' = true) (hs : a.eval s = v) (hown : OwnP f e B w v xs) (y : α) (hx : a.eval x = .slice (some ⟨w.heap.size, 0, none⟩) 1 1)
    (hn : xs.length + 1 ≤ 1099511627776) (hby : bytes ≤ 64) (hB : B ≤ w.heap.size)
    (h : ∀ v' w', OwnP f e B w' v' (xs ++ [y]) → w.grownBy w' v.ownBlock → Below B w w' → (∀ k, v'.ownBlock = some k → v.ownBlock = some k ∨ w.heap.size ≤ k) → wpList P ops Q rest (a.put o.dst v') w') : wpList P ops Q (o :: rest) a (w.alloc (.cells #[f y] e)) :=
  wpList_append_of hgd s x t ho hs hx (fun ty => run_append1 t ty x0 bytes ht hinfo hcell h1 hown y rfl hn hby hB) (fun v' w' h' => h v' w' h'.1 h'.2.1 h'.2.2.1 h'.2.2.2)
end Go.Proofs.YthgmojggpjnckaaGreat
