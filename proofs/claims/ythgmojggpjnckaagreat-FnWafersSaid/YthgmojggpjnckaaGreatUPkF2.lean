/- Proved: a search for designs, row by row (plain); a list of rows by the blocks that it lies in, and partial cuts with one more key; a visit of keys in order, by what it does to a state; a search for designs in memory; the search for designs, the reference: spec.l17From; FindDesign, the reference. -/
import Derived.Test.YthgmojggpjnckaaGreatChecked
import Derived.Deep.RegionHeld3
import Derived.Deep.LoopGhost
import Derived.Test.YthgmojggpjnckaaGreatUPkF1
import Derived.Test.YthgmojggpjnckaaGreatUKeyEnum
import Derived.Test.YthgmojggpjnckaaGreatUPkE
import Derived.Test.YthgmojggpjnckaaGreatUPkB
namespace Go.Proofs.YthgmojggpjnckaaGreat
open Go.ChangeShapes Go.WideShapes Go.ChangeAt Go.RowKit
set_option linter.unusedVariables false

/-- the state of a search -/
structure SS where
  tries : Int
  over : Bool
  found : List (List (List Int))
/-- one row: its keys in order -/
def sweepS (f : List Int → SS → Bool × SS) (limit : Int) : List (List Int) → SS → Bool × SS
  | [], st => (false, st)
  | k :: L, st => if st.tries = limit then (true, ⟨st.tries, true, st.found⟩) else
      if (f k ⟨st.tries + 1, st.over, st.found⟩).1 = true then f k ⟨st.tries + 1, st.over, st.found⟩ else sweepS f limit L (f k ⟨st.tries + 1, st.over, st.found⟩).2
def fromS (mk : MK) (t : List (List Int)) (limit most : Int) : Nat → List (List Int) → SS → Bool × SS
  | 0, cuts, st => (decide (most ≤ ((st.found.length + 1 : Nat) : Int)), ⟨st.tries, st.over, st.found ++ [cuts]⟩)
  | n + 1, cuts, st => sweepS (fun k s => if faults mk t (cuts ++ [k]) = 0 then fromS mk t limit most n (cuts ++ [k]) s else (false, s)) limit (allK mk) st
theorem sweepS_nil (f : List Int → SS → Bool × SS) (limit : Int) (st : SS) : sweepS f limit [] st = (false, st) := rfl
theorem sweepS_over {f : List Int → SS → Bool × SS} {limit : Int} {k : List Int} {L : List (List Int)} {st : SS} (h : st.tries = limit) : sweepS f limit (k :: L) st = (true, ⟨st.tries, true, st.found⟩) := by
  unfold sweepS; rw [if_pos h]
theorem sweepS_end {f : List Int → SS → Bool × SS} {limit : Int} {k : List Int} {L : List (List Int)} {st : SS} (h : st.tries ≠ limit) (h1 : (f k ⟨st.tries + 1, st.over, st.found⟩).1 = true) : sweepS f limit (k :: L) st = f k ⟨st.tries + 1, st.over, st.found⟩ := by
  unfold sweepS; rw [if_neg h, if_pos h1]
theorem sweepS_on {f : List Int → SS → Bool × SS} {limit : Int} {k : List Int} {L : List (List Int)} {st : SS} (h : st.tries ≠ limit) (h1 : (f k ⟨st.tries + 1, st.over, st.found⟩).1 = false) : sweepS f limit (k :: L) st = sweepS f limit L (f k ⟨st.tries + 1, st.over, st.found⟩).2 := by
  rw [sweepS, if_neg h, if_neg (by rw [h1]; decide)]
/-- a design that a search may find -/
structure Goods (mk : MK) (t x : List (List Int)) : Prop where
  len : x.length = t.length
  key : ∀ r ∈ x, KeyOk mk r
  open_ : faults mk t x = 0
/-- what stays true: the tries are within the limit, each list that is found is a design's -/
structure SOk (mk : MK) (t : List (List Int)) (limit : Int) (st : SS) : Prop where
  t0 : 0 ≤ st.tries
  t1 : st.tries ≤ limit
  cuts : ∀ x ∈ st.found, Goods mk t x
  many : (st.found.length : Int) ≤ st.tries
theorem sweepS_inv {P : SS → Prop} {f : List Int → SS → Bool × SS} {limit : Int} (h1 : ∀ st, P st → P ⟨st.tries, true, st.found⟩) : ∀ (L : List (List Int)) (st : SS), (∀ k ∈ L, ∀ st, P st → st.tries ≠ limit → P (f k ⟨st.tries + 1, st.over, st.found⟩).2) → P st → P (sweepS f limit L st).2
  | [], st, _, h => h
  | k :: L, st, hf, h => by
    by_cases e : st.tries = limit
    · rw [sweepS_over e]; exact h1 _ h
    · have hk := hf k (List.mem_cons_self ..) st h e
      cases e1 : (f k ⟨st.tries + 1, st.over, st.found⟩).1 with
      | true => rw [sweepS_end e e1]; exact hk
      | false => rw [sweepS_on e e1]; exact sweepS_inv h1 L _ (fun k' hk' => hf k' (List.mem_cons_of_mem _ hk')) hk
theorem fromS_ok {mk : MK} (okm : MkOk mk) {t : List (List Int)} {limit most : Int} : ∀ (n : Nat) (cuts : List (List Int)) (st : SS), cuts.length + n = t.length → (∀ r ∈ cuts, KeyOk mk r) → (n = 0 → faults mk t cuts = 0) → 0 ≤ st.tries → st.tries ≤ limit → (∀ x ∈ st.found, Goods mk t x) → (st.found.length : Int) + (if n = 0 then 1 else 0) ≤ st.tries → SOk mk t limit (fromS mk t limit most n cuts st).2
  | 0, cuts, st, hl, hk, hf, h0, h1, hg, hm => by
    rw [if_pos rfl] at hm
    refine ⟨h0, h1, fun x hx => ?_, ?_⟩
    · rcases List.mem_append.1 hx with hx | hx
      · exact hg x hx
      · rw [List.mem_singleton.1 hx]; exact ⟨hl, hk, hf rfl⟩
    · show ((st.found ++ [cuts]).length : Int) ≤ st.tries
      rw [List.length_append, List.length_singleton]; omega
  | n + 1, cuts, st, hl, hk, hf, h0, h1, hg, hm => by
    rw [if_neg (Nat.succ_ne_zero _)] at hm
    unfold fromS
    refine sweepS_inv (P := SOk mk t limit) (fun st h => ⟨h.t0, h.t1, h.cuts, h.many⟩) _ _ (fun k hk' st h e => ?_) ⟨h0, h1, hg, by omega⟩
    have hx := h.t0
    have hy := h.t1
    have hz := h.many
    by_cases hq : faults mk t (cuts ++ [k]) = 0
    · simp only [hq, if_true]
      refine fromS_ok okm n (cuts ++ [k]) ⟨st.tries + 1, st.over, st.found⟩ (by simp; omega) (fun r hr => ?_) (fun _ => hq) (by show 0 ≤ st.tries + 1; omega) (by show st.tries + 1 ≤ limit; omega) h.cuts ?_
      · rcases List.mem_append.1 hr with hr | hr
        · exact hk r hr
        · rw [List.mem_singleton.1 hr]; exact allK_key okm hk'
      · show (st.found.length : Int) + _ ≤ st.tries + 1
        split <;> omega
    · simp only [hq, if_false]
      exact ⟨by show 0 ≤ st.tries + 1; omega, by show st.tries + 1 ≤ limit; omega, h.cuts, by show (st.found.length : Int) ≤ st.tries + 1; omega⟩

open Go.ChangeShapes Go.WideShapes Go.ChangeAt Go.RowKit
set_option linter.unusedVariables false

/-- v reads as t, and all of it lies in blocks of A -/
def RowsA (A : Nat → Prop) (w : World) (v : Value) (t : List (List Int)) : Prop :=
  ∃ (a : Option Addr) (cap : Nat) (Y : Nat → Zone), v = .slice a t.length cap ∧ t.length ≤ cap ∧ cap ≤ maxLen ∧ (a = none → t = [] ∧ cap = 0) ∧
    ∀ j (hj : j < t.length), ∃ (ad : Addr) (u : Option Addr × Nat × Nat), a = some ad ∧ ad.spot = none ∧ A ad.block ∧ ad.block < w.heap.size ∧ w.cell? (ad.add j) = some (slV u) ∧ (∀ k, (Y j).Has k → A k ∧ k < w.heap.size) ∧ (Y j).own = false ∧ IntsR (Y j) w (slV u) t[j]
theorem RowsA.nil {A : Nat → Prop} {w : World} : RowsA A w (.slice none 0 0) [] := ⟨none, 0, fun _ => ⟨0, 0, false⟩, rfl, Nat.le_refl _, Nat.zero_le _, fun _ => ⟨rfl, rfl⟩, fun j hj => absurd hj (Nat.not_lt_zero _)⟩
theorem RowsA.keep {A : Nat → Prop} {w w' : World} {v : Value} {t : List (List Int)} (h : RowsA A w v t) (hs : w.heap.size ≤ w'.heap.size) (hb : ∀ k, A k → k < w.heap.size → w'.heap[k]? = w.heap[k]?) : RowsA A w' v t := by
  obtain ⟨a, cap, Y, rfl, h1, h2, h3, h4⟩ := h
  refine ⟨a, cap, Y, rfl, h1, h2, h3, fun j hj => ?_⟩
  obtain ⟨ad, u, rfl, g1, g2, g3, g4, g5, g6, g7⟩ := h4 j hj
  refine ⟨ad, u, rfl, g1, g2, Nat.lt_of_lt_of_le g3 hs, ?_, fun k hk => ⟨(g5 k hk).1, Nat.lt_of_lt_of_le (g5 k hk).2 hs⟩, g6, stable_ints.keep g7 (fun k hk hl => hb k (g5 k hk).1 hl)⟩
  have e : (ad.add j).block = ad.block := by obtain ⟨b, o, s⟩ := ad; simp only at g1; subst g1; rw [Addr.add_lit]
  rw [World.cell?_of_block (w := w) (a := ad.add j) (by rw [e]; exact hb ad.block g2 g3)]; exact g4
theorem RowsA.ext {A : Nat → Prop} {w w' : World} {v : Value} {t : List (List Int)} (h : RowsA A w v t) (e : Ext w w') : RowsA A w' v t := h.keep e.size (fun k _ hk => Below.block e k hk)
theorem RowsA.mono {A A' : Nat → Prop} {w : World} {v : Value} {t : List (List Int)} (h : RowsA A w v t) (hA : ∀ k, A k → k < w.heap.size → A' k) : RowsA A' w v t := by
  obtain ⟨a, cap, Y, rfl, h1, h2, h3, h4⟩ := h
  refine ⟨a, cap, Y, rfl, h1, h2, h3, fun j hj => ?_⟩
  obtain ⟨ad, u, rfl, g1, g2, g3, g4, g5, g6, g7⟩ := h4 j hj
  exact ⟨ad, u, rfl, g1, hA _ g2 g3, g3, g4, fun k hk => ⟨hA k (g5 k hk).1 (g5 k hk).2, (g5 k hk).2⟩, g6, g7⟩
theorem RowsA.rows {A : Nat → Prop} {w : World} {v : Value} {t : List (List Int)} (h : RowsA A w v t) : RowsR ⟨0, w.heap.size, false⟩ w v t := by
  obtain ⟨a, cap, Y, rfl, h1, h2, h3, h4⟩ := h
  refine ⟨a, cap, rfl, h1, h2, h3, fun ad had hp => ?_⟩
  subst had
  obtain ⟨ad', u, he, g1, g2, g3, -⟩ := h4 0 hp
  injection he with he; subst he
  refine ⟨g1, ⟨Nat.zero_le _, g3⟩, g3, (fun h => by cases h), Y, fun i hi => ?_, (fun h => by cases h), fun i hi => ?_⟩
  · obtain ⟨ad', u, -, -, -, -, -, g5, -⟩ := h4 i hi
    exact ⟨fun k hk => ⟨Nat.zero_le _, (g5 k hk).2⟩, fun h => by cases h⟩
  · obtain ⟨ad', u, he, -, -, -, g4, -, -, g7⟩ := h4 i hi
    injection he with he; subst he
    refine ⟨slV u, ?_, g7⟩
    obtain ⟨b, o, s⟩ := ad
    simp only at g1; subst g1
    rwa [Addr.add_lit] at g4
theorem IntsR.unown {z : Zone} {w : World} {v : Value} {xs : List Int} (h : IntsR z w v xs) : IntsR ⟨z.lo, z.hi, false⟩ w v xs := stable_ints.sub h ⟨fun k hk => hk, fun h => by cases h⟩
theorem RowsA.of_own {b : Bool} {A A' : Nat → Prop} {e : TypeId} {B : Nat} {w : World} {v : Value} {t : List (List Int)} (h : OwnA b A IntsR e B w v t) (hA : ∀ k, A k → k < w.heap.size → A' k) (hv : ∀ k, v.ownBlock = some k → A' k) : RowsA A' w v t := by
  obtain ⟨us, Z, hl, ⟨ho1, ho2⟩, h1, h2, h3⟩ := h
  rcases ho2 with ⟨rfl, h0⟩ | ⟨g, cap, cur, rfl, hb, hg, hnc, hcm, hcs, htake⟩
  · obtain rfl : t = [] := List.eq_nil_of_length_eq_zero (by omega)
    exact RowsA.nil
  · have hgl : g < w.heap.size := (Array.getElem?_eq_some_iff.1 hg).1
    refine ⟨some ⟨g, 0, none⟩, cap, fun i => ⟨(Z i).lo, (Z i).hi, false⟩, by rw [← hl], by omega, hcm, (fun h => by cases h), fun j hj => ⟨⟨g, 0, none⟩, us[j]'(by omega), rfl, rfl, hv g rfl, hgl, ?_, fun k hk => ?_, rfl, (h3 j hj (by omega)).unown⟩⟩
    · rw [Addr.add_lit, Nat.zero_add, cell_of_row w g j cur e (0, 0) hg]
      have : (cur.toList.take (us.length * 1))[j]? = (us.map slV)[j]? := by rw [htake]
      rw [List.getElem?_take, if_pos (by omega)] at this
      simpa [show j < us.length by omega] using this
    · have := (h1 j hj).2 k hk
      exact ⟨hA k this.1 this.2.1, this.2.1⟩
theorem RowsA.len {A : Nat → Prop} {w : World} {v : Value} {t : List (List Int)} (h : RowsA A w v t) : ∃ a c, v = .slice a t.length c := by
  obtain ⟨a, cap, Y, rfl, -⟩ := h
  exact ⟨a, cap, rfl⟩

/-- an append of lists that lie elsewhere to an empty list of the call's own -/
theorem run_aliasA {P : Program} {e : TypeId} {w W : World} {g n c : Nat} {cuts : List (List Int)} {A : Nat → Prop} {a : Option Addr} (t ty : TypeId) (ht : P.underlying t = some (.slice e)) (hinfo : (P.info? e).map (fun i => (i.zero, i.size, i.bytes)) = some (some (.slice Option.none 0 0), 1, 24))
    (hc : RowsA A w (.slice a n c) cuts) (hm : n ≤ 1000) (hW : W = w.alloc (.cells #[] e)) (hg : g = w.heap.size) :
    ∃ v' w', (Builtin.append_ #[t, t] ty #[.slice (some ⟨g, 0, Option.none⟩) 0 0, .slice a n c]).run P W = .ok v' w' ∧ OwnA false A IntsR e w.heap.size w' v' cuts ∧ Ext w w' := by
  subst hW; subst hg
  obtain ⟨a', c', Y, he, hcap, hmx, hnone, hel⟩ := hc
  injection he with e1 e2 e3
  subst e1; subst e2; subst e3
  have eW : Ext w (w.alloc (.cells #[] e)) := Ext.alloc _ _
  have hsz : (w.alloc (.cells #[] e)).heap.size = w.heap.size + 1 := by simp
  cases a with
  | none =>
    obtain ⟨rfl, rfl⟩ := hnone rfl
    obtain ⟨i, hi, hz0, hz1, hz2⟩ := info_parts hinfo
    have hown : OwnP slV e w.heap.size (w.alloc (.cells #[] e)) (.slice (some ⟨w.heap.size, 0, Option.none⟩) 0 0) [] := OwnP.empty (Nat.le_refl _)
    have hrun := run_append_owned_none (P := P) (w.alloc (.cells #[] e)) w.heap.size t ty e i 1 ht hi _ _ _ hown
    exact ⟨_, _, hrun, OwnA.empty (Nat.le_refl _), Ext.alloc _ _⟩
  | some ad =>
    obtain ⟨v', w', hr, ho, hgr, -⟩ := run_appendRowsY (P := P) (b := false) (w := w.alloc (.cells #[] e)) (w0 := w.alloc (.cells #[] e)) (ad := ad) (cap := c) (ys := cuts) (xs := []) stable_ints t ty ht hinfo (A := A) (A0 := A) (fun _ _ h => h) (OwnA.empty (Nat.le_refl _)) (Below.refl _ _) Y (fun _ _ h => by cases h)
      (fun j hj k hk => by
        obtain ⟨ad', u, -, -, -, -, -, g5, -⟩ := hel j hj
        have := g5 k hk
        exact ⟨this.1, by omega, fun e => by
          have : w.heap.size = k := by injection e
          omega⟩) (fun h => by cases h) (fun h => by cases h)
      (fun j hj => by
        obtain ⟨ad', u, he, -, -, -, g4, -, -, g7⟩ := hel j hj
        injection he with he; subst he
        exact ⟨u, Ext.cell eW g4, fun _ => stable_ints.ext g7 eW⟩) hcap hmx (by simp; omega) (by omega)
    refine ⟨v', w', hr, by simpa using ho, ?_⟩
    have hb2 : Below w.heap.size (w.alloc (.cells #[] e)) w' := Below.grown (Below.refl _ _) hgr (by omega) (fun k hk => by
      have : w.heap.size = k := by injection hk
      omega)
    exact Below.trans eW hb2

theorem wpList_appendAliasA {e : TypeId} {B : Nat} {w : World} {v : Value} {A : Nat → Prop} {xs : List (List Int)} {P : Program} {ops : Array Oper} {rest : List Oper} {o : Oper} {a : Act} {Q : Exit → Act → World → Prop} (hgd : o.guard = Option.none) (s x : Operand) (t : TypeId)
    (ho : o.op = .call { callee := .builtin .append, args := #[s, x], argTypes := #[t, t] }) (ht : P.underlying t = some (.slice e)) (hinfo : (P.info? e).map (fun i => (i.zero, i.size, i.bytes)) = some (some (.slice Option.none 0 0), 1, 24))
    (hs : a.eval s = v) (hown : OwnA false A IntsR e B w v xs) (u : Option Addr × Nat × Nat) (y : List Int) {Zn : Zone} (hu : IntsR Zn w (slV u) y) (hZ : ∀ k, Zn.Has k → A k ∧ k < B) (hx : a.eval x = .slice (some ⟨w.heap.size, 0, Option.none⟩) 1 1)
    (hn : xs.length + 1 ≤ 1099511627776) (hB : B ≤ w.heap.size)
    (h : ∀ v' w', OwnA false A IntsR e B w' v' (xs ++ [y]) → Below B w w' → w.grownBy w' v.ownBlock → (∀ k, v'.ownBlock = some k → v.ownBlock = some k ∨ w.heap.size ≤ k) → wpList P ops Q rest (a.put o.dst v') w') : wpList P ops Q (o :: rest) a (w.alloc (.cells #[slV u] e)) := by
  have hbk := hown.block
  refine wpList_append_of hgd s x t ho hs hx (fun ty => run_appendOld stable_ints t ty ht hinfo (A := A) (fun _ _ hk => hk) hown hu (fun h => by cases h) (fun k hk => ⟨(hZ k hk).1, ?_, fun e => ?_, fun h => by cases h⟩) rfl hn hB) (fun v' w' h' => h v' w' h'.1 h'.2.1 h'.2.2.1 h'.2.2.2)
  · have := (hZ k hk).2; omega
  · have h1 := (hbk k e).1; have := (hZ k hk).2; omega

set_option maxRecDepth 20000 in
set_option maxHeartbeats 400000 in
theorem l16WithA_c (w : World) (u : Value) (A : Nat → Prop) (cuts : List (List Int)) (hc : RowsA A w u cuts) (hn1 : cuts.length ≤ 1000) (v4 : Value) (z4 : Zone) (key : List Int) (hk : IntsR z4 w v4 key) (hz : ∀ k, z4.Has k → A k ∧ k < w.heap.size) :
    Calls Tryz.prog 144 #[u, v4] w (Ret w fun r w' => RowsA (fun k => A k ∨ w.heap.size ≤ k) w' r (cuts ++ [key])) := by
  obtain ⟨a, n, cap, rfl, hn, -⟩ := SliceR.shape hc.rows
  obtain ⟨a4, n4, cap4, rfl, -⟩ := SliceR.shape hk
  rw [← hn] at hn1
  have Hn := Lib.hid hn
  have HC := Lib.hid hc
  have HK := Lib.hid hk
  have HZ := Lib.hid hz
  clear hn hc hk hz
  have hcl : cuts.length + 1 ≤ 1099511627776 := by rw [← Hn.out]; omega
  go_enter Tryz.func144, Tryz.ntmps144
  go_wp2_with (at_builtin; (first | (refine wpList_append_of rfl _ _ 30 rfl rfl rfl (fun ty => run_aliasA 30 ty Tryz.underlying30 Tryz.infoInts HC.out hn1 rfl rfl) ?_; intro v6 w6 h6) | (obtain ⟨h6', e6⟩ := h6; refine wpList_appendAliasA (A := A) (B := w.heap.size) (xs := cuts) rfl _ _ 30 rfl Tryz.underlying30 Tryz.infoInts rfl h6' (a4, n4, cap4) key (stable_ints.ext HK.out e6) HZ.out rfl hcl (Ext.size e6) ?_; intro v7 w7 hown7 hb7 hg7 hat7)))
  go_ret
  exact ⟨_, rfl, RowsA.of_own hown7 (fun k hk _ => .inl hk) (fun k hk => .inr (OwnA.block hown7 k hk).1), Below.trans e6 hb7⟩

open Go.ChangeShapes Go.WideShapes Go.ChangeAt Go.RowKit
set_option linter.unusedVariables false

/-- visits in order until one says no -/
def visits {σ : Type} (step : σ → List Int → σ) (more : σ → List Int → Bool) : σ → List (List Int) → σ × Bool
  | s, [] => (s, true)
  | s, k :: ks => if more s k = true then visits step more (step s k) ks else (step s k, false)
theorem visits_nil {σ : Type} {step : σ → List Int → σ} {more : σ → List Int → Bool} (s : σ) : visits step more s [] = (s, true) := rfl
theorem visits_one {σ : Type} {step : σ → List Int → σ} {more : σ → List Int → Bool} (s : σ) (k : List Int) : visits step more s [k] = (step s k, more s k) := by
  unfold visits; cases h : more s k <;> simp [visits]
theorem visits_app {σ : Type} {step : σ → List Int → σ} {more : σ → List Int → Bool} : ∀ (A B : List (List Int)) (s : σ), visits step more s (A ++ B) = if (visits step more s A).2 = true then visits step more (visits step more s A).1 B else visits step more s A
  | [], B, s => by simp [visits]
  | k :: A, B, s => by
    have e1 : visits step more s (k :: A ++ B) = if more s k = true then visits step more (step s k) (A ++ B) else (step s k, false) := rfl
    have e2 : visits step more s (k :: A) = if more s k = true then visits step more (step s k) A else (step s k, false) := rfl
    rw [e1, e2]
    cases h : more s k with
    | true => simp only [if_true]; exact visits_app A B (step s k)
    | false => simp
/-- nothing but the blocks of F and new memory has turned -/
structure Frame (F : Nat → Prop) (w w' : World) : Prop where
  os : w'.os = w.os
  tape : w'.tape = w.tape
  output : w'.output = w.output
  size : w.heap.size ≤ w'.heap.size
  block : ∀ k, k < w.heap.size → ¬ F k → w'.heap[k]? = w.heap[k]?
theorem Frame.refl (F : Nat → Prop) (w : World) : Frame F w w := ⟨rfl, rfl, rfl, Nat.le_refl _, fun _ _ _ => rfl⟩
theorem Frame.trans {F G : Nat → Prop} {a b c : World} (h : Frame F a b) (k : Frame G b c) (hG : ∀ i, G i → i < a.heap.size → F i) : Frame F a c :=
  ⟨k.os.trans h.os, k.tape.trans h.tape, k.output.trans h.output, Nat.le_trans h.size k.size, fun i hi hn => (k.block i (Nat.lt_of_lt_of_le hi h.size) (fun hg => hn (hG i hg hi))).trans (h.block i hi hn)⟩
theorem Frame.mono {F G : Nat → Prop} {a b : World} (h : Frame F a b) (hG : ∀ i, F i → i < a.heap.size → G i) : Frame G a b := ⟨h.os, h.tape, h.output, h.size, fun i hi hn => h.block i hi (fun hf => hn (hG i hf hi))⟩
theorem Frame.of_ext {F : Nat → Prop} {a b : World} (h : Ext a b) : Frame F a b := ⟨h.os, h.tape, h.output, h.size, fun i hi _ => Below.block h i hi⟩
theorem Frame.below {F : Nat → Prop} {a b : World} (h : Frame F a b) {B : Nat} (hB : ∀ k, F k → B ≤ k) (hl : B ≤ a.heap.size) : Below B a b := ⟨h.os, h.tape, h.output, h.size, fun k hk => h.block k (by omega) (fun hf => by have := hB k hf; omega)⟩
theorem Frame.cell {F : Nat → Prop} {a b : World} (h : Frame F a b) {p : Addr} {u : Value} (hp : ¬ F p.block) (hc : a.cell? p = some u) : b.cell? p = some u := (World.cell?_of_block (h.block p.block (World.block_lt_of_cell? _ _ hc) hp)).trans hc
theorem Frame.keep {F : Nat → Prop} {a b : World} (h : Frame F a b) {z : Zone} (hz : ∀ k, z.Has k → ¬ F k) : Same z a b := fun k hk hl => h.block k hl (hz k hk)
/-- what a visit does: a state whose invariant hangs on the blocks F alone -/
structure VisitOk {σ : Type} (Fv : FuncId) (caps : Array Value) (Inv : (Nat → Prop) → σ → World → Prop) (step : σ → List Int → σ) (more : σ → List Int → Bool) (Ok : List Int → Prop) : Prop where
  goes : Goes Tryz.prog Fv
  keep : ∀ {F s w w'}, Inv F s w → (∀ k, F k → w'.heap[k]? = w.heap[k]?) → w.heap.size ≤ w'.heap.size → Inv F s w'
  fresh : ∀ {F s w}, Inv F s w → ∀ k, F k → k < w.heap.size
  call : ∀ {F s} (w : World) (v : Value) (z : Zone) (key : List Int), Inv F s w → IntsR z w v key → (∀ k, z.Has k → ¬ F k) → Ok key → Calls Tryz.prog Fv (#[v] ++ caps) w (fun e w' => e = .returned (.bool (more s key)) ∧ ∃ F', Inv F' (step s key) w' ∧ (∀ k, F' k → F k ∨ w.heap.size ≤ k) ∧ Frame F w w')

open Go.ChangeShapes Go.WideShapes Go.ChangeAt Go.RowKit
set_option linter.unusedVariables false

theorem Tryz.infoRows : (Tryz.prog.info? 30).map (fun i => (i.zero, i.size, i.bytes)) = some (some (.slice none 0 0), 1, 24) := by kernel_rfl
/-- the lists of rows that are found, each in blocks of A -/
def FoundAt (A : Nat → Prop) (w : World) (vf : Value) (fs : List (List (List Int))) : Prop :=
  ∃ us : List (Option Addr × Nat × Nat), us.length = fs.length ∧ OwnP slV 30 0 w vf us ∧ ∀ i (hi : i < fs.length) (hu : i < us.length), RowsA A w (slV us[i]) fs[i]
/-- block g holds a search -/
structure SrchAt (A : Nat → Prop) (g : Nat) (mk : MK) (v : Value) (limit most : Int) (st : SS) (vf : Value) (w : World) : Prop where
  sys : SysAt w g mk v
  c6 : w.cell? ⟨g, 6, none⟩ = some (.int .i64 limit)
  c7 : w.cell? ⟨g, 7, none⟩ = some (.int .i64 most)
  c8 : w.cell? ⟨g, 8, none⟩ = some (.int .i64 st.tries)
  c9 : w.cell? ⟨g, 9, none⟩ = some (.bool st.over)
  c10 : w.cell? ⟨g, 10, none⟩ = some vf
  f8 : w.frozen? ⟨g, 8, none⟩ = false
  f9 : w.frozen? ⟨g, 9, none⟩ = false
  f10 : w.frozen? ⟨g, 10, none⟩ = false
  found : FoundAt A w vf st.found
  off : ∀ k, A k → k ≠ g ∧ vf.ownBlock ≠ some k
  apart : vf.ownBlock ≠ some g
  lim : ∀ k, A k → k < w.heap.size
/-- the blocks that a search writes -/
def SF (g : Nat) (vf : Value) (k : Nat) : Prop := k = g ∨ vf.ownBlock = some k
theorem FoundAt.keep {A : Nat → Prop} {w w' : World} {vf : Value} {fs : List (List (List Int))} (h : FoundAt A w vf fs) (hs : w.heap.size ≤ w'.heap.size) (hv : ∀ k, vf.ownBlock = some k → k < w.heap.size → w'.heap[k]? = w.heap[k]?) (hb : ∀ k, A k → k < w.heap.size → w'.heap[k]? = w.heap[k]?) : FoundAt A w' vf fs := by
  obtain ⟨us, h1, ⟨h2, h3⟩, h4⟩ := h
  refine ⟨us, h1, ⟨h2, ?_⟩, fun i hi hu => (h4 i hi hu).keep hs hb⟩
  rcases h3 with h3 | ⟨g, cap, cur, hv', hbg, hg, r⟩
  · exact .inl h3
  · have hgl : g < w.heap.size := (Array.getElem?_eq_some_iff.1 hg).1
    exact .inr ⟨g, cap, cur, hv', hbg, by rw [hv g (by rw [hv']; rfl) hgl]; exact hg, r⟩
theorem FoundAt.mono {A A' : Nat → Prop} {w : World} {vf : Value} {fs : List (List (List Int))} (h : FoundAt A w vf fs) (hA : ∀ k, A k → k < w.heap.size → A' k) : FoundAt A' w vf fs := by
  obtain ⟨us, h1, h2, h4⟩ := h
  exact ⟨us, h1, h2, fun i hi hu => (h4 i hi hu).mono hA⟩
section
variable {A A' : Nat → Prop} {g : Nat} {mk : MK} {v : Value} {limit most : Int} {st : SS} {vf : Value} {w w' : World}
theorem SrchAt.lt (h : SrchAt A g mk v limit most st vf w) : g < w.heap.size := World.block_lt_of_cell? _ _ h.c6
theorem SrchAt.of (h : SrchAt A g mk v limit most st vf w) (hs : w.heap.size ≤ w'.heap.size) (hg : w'.heap[g]? = w.heap[g]?) (hf : FoundAt A w' vf st.found) : SrchAt A g mk v limit most st vf w' :=
  ⟨h.sys.of hg, (World.cell?_of_block hg).trans h.c6, (World.cell?_of_block hg).trans h.c7, (World.cell?_of_block hg).trans h.c8, (World.cell?_of_block hg).trans h.c9, (World.cell?_of_block hg).trans h.c10,
    (World.frozen?_of_block hg).trans h.f8, (World.frozen?_of_block hg).trans h.f9, (World.frozen?_of_block hg).trans h.f10, hf, h.off, h.apart, fun k hk => Nat.lt_of_lt_of_le (h.lim k hk) hs⟩
theorem SrchAt.ext (h : SrchAt A g mk v limit most st vf w) (e : Ext w w') : SrchAt A g mk v limit most st vf w' :=
  h.of e.size (Below.block e g h.lt) (h.found.keep e.size (fun k _ hk => Below.block e k hk) (fun k _ hk => Below.block e k hk))
theorem SrchAt.blk (h : SrchAt A g mk v limit most st vf w) : ∀ k, vf.ownBlock = some k → k < w.heap.size := by
  obtain ⟨us, h1, h2, h4⟩ := h.found
  exact fun k hk => (h2.block k hk).2
theorem SrchAt.grow (h : SrchAt A g mk v limit most st vf w) (e : Ext w w') : SrchAt (fun k => A k ∨ (w.heap.size ≤ k ∧ k < w'.heap.size)) g mk v limit most st vf w' := by
  have h' := h.ext e
  refine ⟨h'.sys, h'.c6, h'.c7, h'.c8, h'.c9, h'.c10, h'.f8, h'.f9, h'.f10, h'.found.mono (fun k hk _ => .inl hk), fun k hk => ?_, h'.apart, fun k hk => ?_⟩
  · rcases hk with hk | hk
    · exact h.off k hk
    · exact ⟨by have := h.lt; omega, fun e => by have := h.blk k e; omega⟩
  · rcases hk with hk | hk
    · exact h'.lim k hk
    · exact hk.2
theorem srch_other {i : Nat} {u : Value} {k : Nat} (hk : k ≠ g) : (w.setCell ⟨g, i, none⟩ u).heap[k]? = w.heap[k]? := Below.heap_setCell _ _ _ _ hk
theorem SrchAt.fput (h : SrchAt A g mk v limit most st vf w) (i : Nat) (u : Value) : FoundAt A (w.setCell ⟨g, i, none⟩ u) vf st.found :=
  h.found.keep (by simp [World.setCell]) (fun k hk _ => srch_other (fun e => h.apart (e ▸ hk))) (fun k hk _ => srch_other (h.off k hk).1)
theorem SrchAt.tries (h : SrchAt A g mk v limit most st vf w) (x : Int) : SrchAt A g mk v limit most ⟨x, st.over, st.found⟩ vf (w.setCell ⟨g, 8, none⟩ (.int .i64 x)) := by
  have hf := h.fput 8 (.int .i64 x)
  obtain ⟨⟨s0, s1, s2, s3, s4, s5⟩, c6, c7, c8, c9, c10, f8, f9, f10, -, off, ap, lm⟩ := h
  refine ⟨⟨?_, ?_, ?_, ?_, ?_, ?_⟩, ?_, ?_, World.cell?_setCell_same _ _ _ c8, ?_, ?_, by rw [World.frozen?_setCell]; exact f8, by rw [World.frozen?_setCell]; exact f9, by rw [World.frozen?_setCell]; exact f10, hf, off, ap, by simpa [World.setCell] using lm⟩
  all_goals (rw [World.cell?_setCell_other _ _ _ _ (by simp)]; assumption)
theorem SrchAt.over (h : SrchAt A g mk v limit most st vf w) (x : Bool) : SrchAt A g mk v limit most ⟨st.tries, x, st.found⟩ vf (w.setCell ⟨g, 9, none⟩ (.bool x)) := by
  have hf := h.fput 9 (.bool x)
  obtain ⟨⟨s0, s1, s2, s3, s4, s5⟩, c6, c7, c8, c9, c10, f8, f9, f10, -, off, ap, lm⟩ := h
  refine ⟨⟨?_, ?_, ?_, ?_, ?_, ?_⟩, ?_, ?_, ?_, World.cell?_setCell_same _ _ _ c9, ?_, by rw [World.frozen?_setCell]; exact f8, by rw [World.frozen?_setCell]; exact f9, by rw [World.frozen?_setCell]; exact f10, hf, off, ap, by simpa [World.setCell] using lm⟩
  all_goals (rw [World.cell?_setCell_other _ _ _ _ (by simp)]; assumption)
theorem frame_put {F : Nat → Prop} {a : World} (h : Frame F a w) {i : Nat} {u : Value} (hg : F g) : Frame F a (w.setCell ⟨g, i, none⟩ u) :=
  ⟨h.os, h.tape, h.output, Nat.le_trans h.size (by simp [World.setCell]), fun k hk hn => by
    have hne : k ≠ g := fun e => hn (by rw [e]; exact hg)
    rw [srch_other hne]; exact h.block k hk hn⟩
theorem frame_ext {F : Nat → Prop} {a : World} (h : Frame F a w) (e : Ext w w') : Frame F a w' := h.trans (Frame.of_ext (F := F) e) (fun i hi _ => hi)
/-- 'found = append(found, cuts)' -/
theorem wpList_found {P : Program} {ops : Array Oper} {rest : List Oper} {o : Oper} {a : Act} {Q : Exit → Act → World → Prop} (h : SrchAt A g mk v limit most st vf w) (hgd : o.guard = Option.none) (s x : Operand) (t : TypeId)
    (ho : o.op = .call { callee := .builtin .append, args := #[s, x], argTypes := #[t, t] }) (ht : P.underlying t = some (.slice 30)) (hinfo : (P.info? 30).map (fun i => (i.zero, i.size, i.bytes)) = some (some (.slice Option.none 0 0), 1, 24))
    (hs : a.eval s = vf) (u : Option Addr × Nat × Nat) {cuts : List (List Int)} (hu : RowsA A w (slV u) cuts) (hx : a.eval x = .slice (some ⟨w.heap.size, 0, Option.none⟩) 1 1) (hn : st.found.length ≤ 1000000)
    (hK : ∀ v' w', w'.cell? ⟨g, 10, Option.none⟩ = some vf → w'.frozen? ⟨g, 10, Option.none⟩ = false → SrchAt A g mk v limit most ⟨st.tries, st.over, st.found ++ [cuts]⟩ v' (w'.setCell ⟨g, 10, Option.none⟩ v') → Frame (SF g vf) w (w'.setCell ⟨g, 10, Option.none⟩ v') →
      (∀ k, v'.ownBlock = some k → vf.ownBlock = some k ∨ w.heap.size ≤ k) → wpList P ops Q rest (a.put o.dst v') w') : wpList P ops Q (o :: rest) a (w.alloc (.cells #[slV u] 30)) := by
  obtain ⟨us, hl, hop, hel⟩ := h.found
  have hlt := h.lt
  have hblk := h.blk
  obtain ⟨i, hi, hz0, hz1, hz2⟩ := info_parts hinfo
  have hsz : (w.alloc (.cells #[slV u] 30)).heap.size = w.heap.size + 1 := by simp
  refine wpList_append_of hgd s x t ho hs hx (R := fun v' w' => OwnP slV 30 0 w' v' (us ++ [u]) ∧ (w.alloc (.cells #[slV u] 30)).grownBy w' vf.ownBlock ∧ (v'.ownBlock = vf.ownBlock ∨ v'.ownBlock = some (w.heap.size + 1))) (fun ty => ?_) (fun v' w' h' => ?_)
  · obtain ⟨v', w', hrun, hv', hg, -, hat⟩ := run_append_own_at (P := P) (w.alloc (.cells #[slV u] 30)) 0 t ty 30 i (.slice Option.none 0 0) 1 24 ht hi hz0 hz1 hz2 rfl (by omega) vf us.length (us.map slV) (hop.alloc _) ⟨w.heap.size, 0, Option.none⟩ 1 1 [slV u] (by simp)
      (fun j u' hu' => by
        cases j with
        | zero => rw [Addr.add_zero']; simp at hu'; subst hu'; simp
        | succ j => simp at hu') (fun u' hu' => by rw [List.mem_singleton.1 hu']; rfl) (by unfold maxLen; omega) (by omega) (Nat.zero_le _)
    refine ⟨v', w', hrun, ?_, hg, by rw [hsz] at hat; exact hat⟩
    unfold OwnP
    rw [List.length_append, List.map_append]
    exact hv'
  · obtain ⟨q1, q2, q3⟩ := h'
    have hq : ∀ k, k < w.heap.size → vf.ownBlock ≠ some k → w'.heap[k]? = w.heap[k]? := fun k hk hn => by
      rw [q2.block k (by omega) (fun e => hn e.symm)]
      exact Below.block (Ext.alloc w _) k hk
    have hgg := hq g hlt h.apart
    have hs' := q2.size
    rw [hsz] at hs'
    have hap : v'.ownBlock ≠ some g := fun e => by
      rcases q3 with q | q
      · exact h.apart (q ▸ e)
      · rw [q] at e; injection e with e; omega
    have hA : ∀ k, A k → k < w'.heap.size ∧ k ≠ g ∧ v'.ownBlock ≠ some k ∧ w'.heap[k]? = w.heap[k]? := fun k hk => by
      have h1 := h.lim k hk
      have h2 := h.off k hk
      refine ⟨by omega, h2.1, fun e => ?_, hq k h1 h2.2⟩
      rcases q3 with q | q
      · exact h2.2 (q ▸ e)
      · rw [q] at e; injection e with e; omega
    have hf : FoundAt A w' v' (st.found ++ [cuts]) := by
      refine ⟨us ++ [u], by simp [hl], q1, fun i hi hu' => ?_⟩
      have hmv : ∀ {x t}, RowsA A w x t → RowsA A w' x t := fun r => r.keep (by omega) (fun k hk _ => (hA k hk).2.2.2)
      by_cases e : i < st.found.length
      · rw [List.getElem_append_left e, List.getElem_append_left (by omega)]
        exact hmv (hel i e (by omega))
      · have e2 : i = st.found.length := by simp at hi; omega
        subst e2
        rw [List.getElem_append_right (by omega), List.getElem_append_right (by omega)]
        simp only [hl, Nat.sub_self, List.getElem_cons_zero]
        exact hmv hu
    have c10' : w'.cell? ⟨g, 10, Option.none⟩ = some vf := (World.cell?_of_block hgg).trans h.c10
    refine hK v' w' c10' ((World.frozen?_of_block hgg).trans h.f10) ?_ ?_ (fun k hk => ?_)
    · obtain ⟨⟨s0, s1, s2, s3, s4, s5⟩, c6, c7, c8, c9, c10, f8, f9, f10, -, off, ap, lm⟩ := h
      refine ⟨⟨?_, ?_, ?_, ?_, ?_, ?_⟩, ?_, ?_, ?_, ?_, World.cell?_setCell_same _ _ _ c10', ?_, ?_, ?_, hf.keep (by simp [World.setCell]) (fun k hk _ => srch_other (fun e => hap (e ▸ hk))) (fun k hk _ => srch_other (hA k hk).2.1), fun k hk => ⟨(hA k hk).2.1, (hA k hk).2.2.1⟩, hap, fun k hk => by have := (hA k hk).1; simpa [World.setCell] using this⟩
      any_goals (rw [World.cell?_setCell_other _ _ _ _ (by simp)]; exact (World.cell?_of_block hgg).trans (by assumption))
      all_goals (rw [World.frozen?_setCell]; exact (World.frozen?_of_block hgg).trans (by assumption))
    · refine frame_put (F := SF g vf) ⟨?_, ?_, ?_, by omega, fun k hk hn => hq k hk (fun e => hn (.inr e))⟩ (.inl rfl)
      · exact q2.os
      · exact q2.tape
      · exact q2.output
    · rcases q3 with q | q
      · exact .inl (q ▸ hk)
      · right; rw [q] at hk; injection hk with hk; omega
end

open Go.ChangeShapes Go.WideShapes Go.ChangeAt Go.RowKit
set_option linter.unusedVariables false

/-- what a search leaves -/
def FromR (A : Nat → Prop) (g : Nat) (mk : MK) (v : Value) (limit most : Int) (st : SS) (vf : Value) (w w' : World) : Prop :=
  ∃ (A' : Nat → Prop) (vf' : Value), SrchAt A' g mk v limit most st vf' w' ∧ (∀ k, A k → A' k) ∧ Frame (SF g vf) w w' ∧ ∀ k, vf'.ownBlock = some k → vf.ownBlock = some k ∨ w.heap.size ≤ k
theorem rowsA_frame {A A' : Nat → Prop} {w w' : World} {u vf : Value} {t : List (List Int)} {g : Nat} (h : RowsA A w u t) (hf : Frame (SF g vf) w w') (ho : ∀ k, A k → k ≠ g ∧ vf.ownBlock ≠ some k) (hA : ∀ k, A k → A' k) : RowsA A' w' u t :=
  (h.keep hf.size (fun k hk hl => hf.block k hl (fun q => q.elim (ho k hk).1 (ho k hk).2))).mono (fun k hk _ => hA k hk)
theorem SF.next {g : Nat} {vf vf' : Value} {w w' : World} (h : Frame (SF g vf) w w') (hv : ∀ k, vf'.ownBlock = some k → vf.ownBlock = some k ∨ w.heap.size ≤ k) {w'' : World} (k : Frame (SF g vf') w' w'') : Frame (SF g vf) w w'' :=
  h.trans k (fun i hi hl => hi.elim .inl (fun q => (hv i q).elim .inr (fun q => by omega)))
theorem stable_intsA {A : Nat → Prop} {w w' : World} {z : Zone} {u vf : Value} {k : List Int} {g : Nat} (h : IntsR z w u k) (hz : ∀ j, z.Has j → A j) (hf : Frame (SF g vf) w w') (ho : ∀ k, A k → k ≠ g ∧ vf.ownBlock ≠ some k) : IntsR z w' u k :=
  stable_ints.keep h (fun j hj hl => hf.block j hl (fun q => q.elim (ho j (hz j hj)).1 (ho j (hz j hj)).2))

/-- the state of one row's loop -/
structure FromAt (A : Nat → Prop) (g : Nat) (mk : MK) (v : Value) (t : List (List Int)) (cuts : List (List Int)) (u : Value) (limit most : Int) (f : List Int → SS → Bool × SS) (st0 : SS) (vf0 : Value) (w : World) (R : List (List Int)) (wr : World) (s7 s8 : Value) : Prop where
  ex : ∃ (D : List (List Int)) (A1 : Nat → Prop) (vf1 : Value) (st1 : SS), allK mk = D ++ R ∧ SrchAt A1 g mk v limit most st1 vf1 wr ∧ (∀ k, A k → A1 k) ∧ Frame (SF g vf0) w wr ∧ (∀ k, vf1.ownBlock = some k → vf0.ownBlock = some k ∨ w.heap.size ≤ k) ∧
    sweepS f limit (allK mk) st0 = sweepS f limit R st1 ∧ SOk mk t limit st1 ∧ RowsA A1 wr v t ∧ RowsA A1 wr u cuts ∧ (R = [] → s8 = .bool false) ∧ ∀ k R', R = k :: R' → s8 = .bool true ∧ ∃ z : Zone, IntsR z wr s7 k ∧ ∀ j, z.Has j → A1 j

theorem FromAt.go {A : Nat → Prop} {g : Nat} {mk : MK} {v : Value} {t cuts : List (List Int)} {u : Value} {limit most : Int} {f : List Int → SS → Bool × SS} {st0 : SS} {vf0 : Value} {w w2 w3 : World} {D R : List (List Int)} {A1 : Nat → Prop} {vf1 : Value} {st1 : SS} {r : Value}
    (ha : allK mk = D ++ R) (hS : SrchAt A1 g mk v limit most st1 vf1 w2) (hA : ∀ k, A k → A1 k) (hF : Frame (SF g vf0) w w2) (hv : ∀ k, vf1.ownBlock = some k → vf0.ownBlock = some k ∨ w.heap.size ≤ k) (hsw : sweepS f limit (allK mk) st0 = sweepS f limit R st1) (hok : SOk mk t limit st1) (hT : RowsA A1 w2 v t) (hU : RowsA A1 w2 u cuts)
    (e : Ext w2 w3) (hr : KeyRes w2.heap.size R r w3) : ∃ u' b, r = .tuple #[u', .bool b] ∧ FromAt A g mk v t cuts u limit most f st0 vf0 w R w3 u' (.bool b) := by
  have hS3 := hS.grow e
  have hT3 := (hT.ext e).mono (A' := fun k => A1 k ∨ (w2.heap.size ≤ k ∧ k < w3.heap.size)) (fun k hk _ => .inl hk)
  have hU3 := (hU.ext e).mono (A' := fun k => A1 k ∨ (w2.heap.size ≤ k ∧ k < w3.heap.size)) (fun k hk _ => .inl hk)
  have hF3 := frame_ext hF e
  cases R with
  | nil =>
    obtain ⟨u', ks, rfl, hi⟩ := hr.1 rfl
    exact ⟨u', false, rfl, D, _, vf1, st1, ha, hS3, fun k hk => .inl (hA k hk), hF3, hv, hsw, hok, hT3, hU3, fun _ => rfl, fun k R' h => by cases h⟩
  | cons k R' =>
    obtain ⟨u', rfl, hi⟩ := hr.2 k R' rfl
    refine ⟨u', true, rfl, D, _, vf1, st1, ha, hS3, fun k hk => .inl (hA k hk), hF3, hv, hsw, hok, hT3, hU3, (fun h => by cases h), fun k2 R2 h => ?_⟩
    injection h with h1 h2
    subst h1
    exact ⟨rfl, _, hi, fun j hj => .inr hj⟩

theorem SrchAt.num {A : Nat → Prop} {g : Nat} {mk : MK} {v : Value} {limit most : Int} {st : SS} {vf : Value} {w : World} (h : SrchAt A g mk v limit most st vf w) : ∃ a n c, vf = .slice a n c ∧ n = st.found.length := by
  obtain ⟨us, h1, h2, h3⟩ := h.found
  obtain ⟨a, n, c, rfl, hn, -⟩ := h2.shape
  exact ⟨a, n, c, rfl, by omega⟩

set_option maxRecDepth 20000 in
set_option maxHeartbeats 4000000 in
theorem l17From_c (mk : MK) (okm : MkOk mk) (v : Value) (t : List (List Int)) (ok : SysOk mk t) (limit most : Int) (hlim : limit ≤ 4000) (hlim0 : 0 ≤ limit) (hmost : I64 most) (g : Nat) : ∀ (n : Nat) (w : World) (A : Nat → Prop) (st : SS) (vf : Value) (u : Value) (cuts : List (List Int)),
    SrchAt A g mk v limit most st vf w → RowsA A w v t → RowsA A w u cuts → (∀ r ∈ cuts, KeyOk mk r) → cuts.length + n = t.length → 0 ≤ st.tries → st.tries ≤ limit → (∀ x ∈ st.found, Goods mk t x) → (st.found.length : Int) + (if n = 0 then 1 else 0) ≤ st.tries → (n = 0 → faults mk t cuts = 0) →
    Calls Tryz.prog 171 #[.pointer (some ⟨g, 0, none⟩), u, .slice none 0 0] w (fun e w' => e = .returned (.bool (fromS mk t limit most n cuts st).1) ∧ FromR A g mk v limit most (fromS mk t limit most n cuts st).2 vf w w') := by
  intro n
  induction n with
  | zero =>
    intro w A st vf u cuts hS hT hU hk hl h0 h1 hg hn hf
    rw [if_pos rfl] at hn
    obtain ⟨a1, n1, k1, rfl, hn1, -⟩ := SliceR.shape hT.rows
    obtain ⟨a2, n2, k2, rfl, hn2, -⟩ := SliceR.shape hU.rows
    have he : ((n2 : Int) == (n1 : Int)) = true := by rw [beq_iff_eq]; omega
    have HN : Hid (st.found.length ≤ 1000000) := by show _ ≤ _; omega
    have HS := Lib.hid hS
    have HU := Lib.hid hU
    have hlt := hS.lt
    have hgn : g ≠ w.heap.size := by omega
    obtain ⟨c0, c1, c2, c3, c4, c5⟩ := hS.sys
    have c10 := hS.c10
    clear hk hl h0 h1 hg hn hf hn1 hn2 hS hU hT ok okm
    go_enter Tryz.func171, Tryz.ntmps171
    go_wp2_with (at_builtin; (refine wpList_found HS.out rfl _ _ 106 rfl Tryz.underlying106 Tryz.infoRows rfl (a2, n2, k2) HU.out rfl HN.out ?_); intro v' w' d10 f10 hS' hF' hv'; obtain ⟨a', n', c', rfl, hn'⟩ := hS'.num; have Hn' := Lib.hid hn'; clear hn')
    have HS' := Lib.hid hS'
    have HF' := Lib.hid hF'
    have HV' := Lib.hid hv'
    have e7 := hS'.c7
    have e10 := hS'.c10
    clear hS' hF' hv' c0 c1 c2 c3 c4 c5 c10 d10 f10
    generalize w'.setCell ⟨g, 10, none⟩ (.slice a' n' c') = w2 at *
    have HD : Hid (decide (most ≤ (n' : Int)) = decide (most ≤ ((st.found.length + 1 : Nat) : Int))) := by show _ = _; rw [Hn'.out, List.length_append, List.length_singleton]
    go_quiet (fail)
    go_wp2_with fail
    go_ret
    exact ⟨by simp only [fromS]; rw [← HD.out]; rfl, A, _, HS'.out.ext (Ext.drewN _ _), fun _ h => h, frame_ext HF'.out (Ext.drewN _ _), HV'.out⟩
  | succ n ih =>
    intro w A st vf u cuts hS hT hU hk hl h0 h1 hg hn hf
    rw [if_neg (Nat.succ_ne_zero _)] at hn
    have hpo : PartOk mk t cuts := ⟨ok, by omega, hk⟩
    have hlen := ok.len
    have HF := Lib.hid (fun (w' : World) => l02First_c mk okm mk.c.toNat [] (by simp) w'.heap.size w' (.slice none 0 0) (.new w' w') (SliceR.nil _ _ _) (Nat.le_refl _) (Nat.le_refl _) (Nat.le_refl _) rfl (fun i hi => by simp at hi))
    have HN := Lib.hid (fun (A B' : List (List Int)) (k : List Int) (ha : allK mk = A ++ k :: B') (w' : World) (x : Value) (q : Zone) (g : IntsR q w' x k) => by
      obtain ⟨h1, h2, h3⟩ := allK_next ha
      have := l02Next_c mk okm w' x q k g h2 (fun i hi => by
        have e : k.getD i 0 = k[i] := by simp [hi]
        rw [e]
        have := h3 _ (List.getElem_mem hi)
        have := okm.d8
        omega)
      rw [h1] at this
      exact this)
    have HW := Lib.hid (fun (k : List Int) (w' : World) (A1 : Nat → Prop) (hc : RowsA A1 w' u cuts) (x : Value) (q : Zone) (g : IntsR q w' x k) (hz : ∀ j, q.Has j → A1 j ∧ j < w'.heap.size) => l16WithA_c w' u A1 cuts hc (by omega) x q k g hz)
    have HO := Lib.hid (fun (k : List Int) (hk : KeyOk mk k) (w' : World) (z : Zone) (h : RowsR z w' v t) (x : Value) (q : Zone) (g : RowsR q w' x (cuts ++ [k])) => l16Open_c w' mk v z t h x q (cuts ++ [k]) g (keyOk_snoc hpo (by omega) hk))
    have HI := Lib.hid (fun (k : List Int) (hko : KeyOk mk k) (hq : faults mk t (cuts ++ [k]) = 0) (w' : World) (A1 : Nat → Prop) (st1 : SS) (vf1 x : Value) (hS : SrchAt A1 g mk v limit most ⟨st1.tries + 1, st1.over, st1.found⟩ vf1 w') (hT : RowsA A1 w' v t) (hU : RowsA A1 w' x (cuts ++ [k])) (hs : SOk mk t limit st1) (hne : st1.tries ≠ limit) =>
      ih w' A1 ⟨st1.tries + 1, st1.over, st1.found⟩ vf1 x (cuts ++ [k]) hS hT hU (fun r hr => by
        rcases List.mem_append.1 hr with hr | hr
        · exact hk r hr
        · rw [List.mem_singleton.1 hr]; exact hko) (by simp; omega) (by have := hs.t0; show 0 ≤ st1.tries + 1; omega) (by have := hs.t1; show st1.tries + 1 ≤ limit; omega) hs.cuts (by have := hs.many; show (st1.found.length : Int) + _ ≤ st1.tries + 1; split <;> omega) (fun _ => hq))
    have HOK := Lib.hid (fun (k : List Int) (hko : k ∈ allK mk) (st1 : SS) (hs : SOk mk t limit st1) (hne : st1.tries ≠ limit) (hq : faults mk t (cuts ++ [k]) = 0) =>
      fromS_ok (most := most) okm n (cuts ++ [k]) ⟨st1.tries + 1, st1.over, st1.found⟩ (by simp; omega) (fun r hr => by
        rcases List.mem_append.1 hr with hr | hr
        · exact hk r hr
        · rw [List.mem_singleton.1 hr]; exact allK_key okm hko) (fun _ => hq) (by have := hs.t0; show 0 ≤ st1.tries + 1; omega) (by have := hs.t1; show st1.tries + 1 ≤ limit; omega) hs.cuts (by have := hs.many; show (st1.found.length : Int) + _ ≤ st1.tries + 1; split <;> omega))
    have HKey := Lib.hid (fun (k : List Int) (hk : k ∈ allK mk) => allK_key okm hk)
    have hS0 : SOk mk t limit st := ⟨h0, h1, hg, by omega⟩
    have HE : Hid (fromS mk t limit most (n + 1) cuts st = sweepS (fun k s => if faults mk t (cuts ++ [k]) = 0 then fromS mk t limit most n (cuts ++ [k]) s else (false, s)) limit (allK mk) st) := rfl
    have HFk : Hid (∀ k s, (fun k s => if faults mk t (cuts ++ [k]) = 0 then fromS mk t limit most n (cuts ++ [k]) s else (false, s)) k s = if faults mk t (cuts ++ [k]) = 0 then fromS mk t limit most n (cuts ++ [k]) s else (false, s)) := fun _ _ => rfl
    generalize hff : (fun k s => if faults mk t (cuts ++ [k]) = 0 then fromS mk t limit most n (cuts ++ [k]) s else (false, s)) = f at *
    rw [HE.out]
    clear HE hff ih
    obtain ⟨a1, n1, k1, rfl, hn1, -⟩ := SliceR.shape hT.rows
    obtain ⟨a2, n2, k2, rfl, hn2, -⟩ := SliceR.shape hU.rows
    have he : ((n2 : Int) == (n1 : Int)) = false := by rw [beq_eq_false_iff_ne]; omega
    obtain ⟨c0, c1, c2, c3, c4, c5⟩ := hS.sys
    have HS := Lib.hid hS
    have HT := Lib.hid hT
    have HU := Lib.hid hU
    have HS0 := Lib.hid hS0
    clear hk hl h0 h1 hg hn hf hn1 hn2 hS hU hT ok okm hpo hlen hS0
    have hcall := HF.out w
    unfold MK.v at *
    go_enter Tryz.func171, Tryz.ntmps171
    go_wp2_with fail
    refine Calls.mono hcall ?_
    rintro e w1 hr
    obtain ⟨r, rfl, hk1, e1⟩ := ret_ext hr
    clear hr hcall HF
    obtain ⟨u7, b8, rfl, hC⟩ := FromAt.go (f := f) (A := A) (vf0 := vf) (w := w) (D := []) rfl HS.out (fun _ h => h) (Frame.refl _ _) (fun _ h => .inl h) rfl HS0.out HT.out HU.out e1 hk1
    have HC := Lib.hid hC
    clear hC hk1 c0 c1 c2 c3 c4 c5 HS HT HU HS0
    go_wp2_with fail
    go_loopg [7, 8, 9] ((allK mk).length) (fun gk s7 s8 _ wr => ∃ R, gk = R.length ∧ FromAt A g mk (.slice a1 n1 k1) t cuts (.slice a2 n2 k2) limit most f st vf w R wr s7 s8)
    case atStart => exact ⟨_, rfl, HC.out⟩
    case round =>
      clear HC
      obtain ⟨R, hgk, ⟨D, A1, vf1, st1, ha, hS1, hA1, hF1, hv1, hsw, hok1, hT1, hU1, hR0, hR1⟩⟩ := hrel
      have HS1 := Lib.hid hS1
      have HT1 := Lib.hid hT1
      have HU1 := Lib.hid hU1
      have HA1 := Lib.hid hA1
      have HF1 := Lib.hid hF1
      have HV1 := Lib.hid hv1
      have HSw := Lib.hid hsw
      have HOk1 := Lib.hid hok1
      have Ha := Lib.hid ha
      have Hgk := Lib.hid hgk
      have hlt := hS1.lt
      obtain ⟨c0, c1, c2, c3, c4, c5⟩ := hS1.sys
      have c6 := hS1.c6
      have c8 := hS1.c8
      have c9 := hS1.c9
      have f8 := hS1.f8
      have f9 := hS1.f9
      have ht0 := hok1.t0
      have ht1 := hok1.t1
      clear hS1 hT1 hU1 hA1 hF1 hv1 hsw hok1 ha hgk
      cases R with
      | nil =>
        obtain rfl := hR0 rfl
        clear hR0 hR1
        go_wp2_with fail
        go_ret
        exact ⟨by rw [HSw.out]; rfl, A1, vf1, by rw [HSw.out]; exact HS1.out, HA1.out, HF1.out, HV1.out⟩
      | cons k R' =>
        obtain ⟨rfl, zk, hk7, hzk⟩ := hR1 k R' rfl
        have HK7 := Lib.hid hk7
        have HZk := Lib.hid hzk
        obtain ⟨ak, nk, ck, rfl, -⟩ := SliceR.shape hk7
        clear hR0 hR1 hk7 hzk
        by_cases hq : st1.tries = limit
        · have hb : (st1.tries == limit) = true := by rw [beq_iff_eq]; exact hq
          have HO1 := Lib.hid (sweepS_over (f := f) (k := k) (L := R') hq)
          have HSo := Lib.hid (fun m => (HS1.out.ext (Ext.drewN wr m)).over true)
          go_wp2_with fail
          go_quiet (fail)
          go_wp2_with fail
          go_ret
          exact ⟨by rw [HSw.out, HO1.out]; rfl, A1, vf1, by rw [HSw.out, HO1.out]; exact HSo.out _, HA1.out, frame_put (frame_ext HF1.out (Ext.drewN _ _)) (.inl rfl), HV1.out⟩
        · have hb : (st1.tries == limit) = false := by rw [beq_eq_false_iff_ne]; exact hq
          have hw : IntKind.i64.wrap (st1.tries + 1) = st1.tries + 1 := IntWalk.i64_in _ (by omega)
          have hko := HKey.out k (by rw [Ha.out]; simp)
          have HSt := Lib.hid (fun m => (HS1.out.ext (Ext.drewN wr m)).tries (st1.tries + 1))
          have HNe := Lib.hid hq
          clear hq ht0 ht1
          go_wp2_with fail
          go_quiet (fail)
          go_wp2_with fail
          have hfr : Frame (SF g vf1) wr ((wr.drewN nq).setCell ⟨g, 8, none⟩ (.int .i64 (st1.tries + 1))) := frame_put (Frame.of_ext (Ext.drewN wr nq)) (.inl rfl)
          have HS4 := Lib.hid (HSt.out nq)
          clear HSt c0 c1 c2 c3 c4 c5 c6 c8 c9 f8 f9
          generalize (wr.drewN nq).setCell ⟨g, 8, none⟩ (.int .i64 (st1.tries + 1)) = w4 at *
          have HT4 := Lib.hid (rowsA_frame (A' := A1) HT1.out hfr HS1.out.off (fun _ h => h))
          have HU4 := Lib.hid (rowsA_frame (A' := A1) HU1.out hfr HS1.out.off (fun _ h => h))
          have HK4 := Lib.hid (stable_intsA HK7.out HZk.out hfr HS1.out.off)
          have HF4 := Lib.hid (SF.next HF1.out HV1.out hfr)
          clear hfr HT1 HU1 HK7 HF1 HS1
          refine Calls.mono (HW.out k w4 A1 HU4.out _ zk HK4.out (fun j hj => ⟨HZk.out j hj, HS4.out.lim j (HZk.out j hj)⟩)) ?_
          rintro e w5 hr
          obtain ⟨r, rfl, o5, e5⟩ := ret_ext hr
          clear hr
          obtain ⟨A2, hA2⟩ : ∃ A2 : Nat → Prop, A2 = fun j => A1 j ∨ (w4.heap.size ≤ j ∧ j < w5.heap.size) := ⟨_, rfl⟩
          have hA12 : ∀ j, A1 j → A2 j := fun j hj => by rw [hA2]; exact .inl hj
          have HS5 : Hid (SrchAt A2 g mk (.slice a1 n1 k1) limit most ⟨st1.tries + 1, st1.over, st1.found⟩ vf1 w5) := by rw [hA2]; exact HS4.out.grow e5
          have HX5 : Hid (RowsA A2 w5 r (cuts ++ [k])) := by rw [hA2]; exact o5.mono (fun j hj hl => hj.elim .inl (fun q => .inr ⟨q, hl⟩))
          have HT5 := Lib.hid ((HT4.out.ext e5).mono (A' := A2) (fun j hj _ => hA12 j hj))
          have HU5 := Lib.hid ((HU4.out.ext e5).mono (A' := A2) (fun j hj _ => hA12 j hj))
          have HK5 := Lib.hid (stable_ints.ext HK4.out e5)
          have HF5 := Lib.hid (frame_ext HF4.out e5)
          have HA12 := Lib.hid hA12
          obtain ⟨a5, n5, k5, rfl, -⟩ := SliceR.shape o5.rows
          clear o5 e5 hA2 hA12 HT4 HU4 HK4 HF4 HS4
          obtain ⟨c0, c1, c2, c3, c4, c5⟩ := HS5.out.sys
          have hcall := HO.out k hko w5 _ HT5.out.rows _ _ HX5.out.rows
          unfold sysV at hcall
          cases hq : decide (faults mk t (cuts ++ [k]) = 0) with
          | false =>
            rw [hq] at hcall
            have HQ := Lib.hid (of_decide_eq_false hq)
            clear hq
            go_wp2_with fail
            refine Calls.mono hcall ?_
            rintro e w6 hr
            obtain ⟨r, rfl, rfl, e6⟩ := ret_ext hr
            clear hr hcall c0 c1 c2 c3 c4 c5
            have HFv : Hid (f k ⟨st1.tries + 1, st1.over, st1.found⟩ = (false, ⟨st1.tries + 1, st1.over, st1.found⟩)) := by show _ = _; rw [HFk.out, if_neg HQ.out]
            have hA' : ∀ j, A j → A2 j := fun j hj => HA12.out j (HA1.out j hj)
            have HSX := Lib.hid (HS5.out.ext e6)
            have HTX := Lib.hid (HT5.out.ext e6)
            have HUX := Lib.hid (HU5.out.ext e6)
            have HKX := Lib.hid (stable_ints.ext HK5.out e6)
            have HFX := Lib.hid (frame_ext HF5.out e6)
            have HVX := Lib.hid HV1.out
            have HWX := Lib.hid (HSw.out.trans ((sweepS_on (L := R') HNe.out (by rw [HFv.out])).trans (by rw [HFv.out])))
            have HOX := Lib.hid (⟨by have := HOk1.out.t0; show 0 ≤ st1.tries + 1; omega, by have := HOk1.out.t1; have := HNe.out; show st1.tries + 1 ≤ limit; omega, HOk1.out.cuts, by have := HOk1.out.many; show (st1.found.length : Int) ≤ st1.tries + 1; omega⟩ : SOk mk t limit ⟨st1.tries + 1, st1.over, st1.found⟩)
            obtain ⟨c0, c1, c2, c3, c4, c5⟩ := HSX.out.sys
            go_wp2_with fail
            refine Calls.mono (HN.out D R' k Ha.out w6 _ zk HKX.out) ?_
            rintro e w9 hr
            obtain ⟨r, rfl, hk9, e9⟩ := ret_ext hr
            clear hr
            obtain ⟨u9', b9', rfl, hC9⟩ := FromAt.go (f := f) (D := D ++ [k]) (R := R') (by rw [Ha.out]; simp) HSX.out hA' HFX.out HVX.out HWX.out HOX.out HTX.out HUX.out e9 hk9
            have HC9 := Lib.hid hC9
            clear hC9 hk9 c0 c1 c2 c3 c4 c5
            go_wp2_with fail
            go_roundg R'.length
            case measure => rw [Hgk.out]; simp
            case rel => exact ⟨R', rfl, HC9.out⟩
          | true =>
            rw [hq] at hcall
            have HQ := Lib.hid (of_decide_eq_true hq)
            have HOk2 := Lib.hid (HOK.out k (by rw [Ha.out]; simp) st1 HOk1.out HNe.out (of_decide_eq_true hq))
            clear hq
            have HFv : Hid (f k ⟨st1.tries + 1, st1.over, st1.found⟩ = fromS mk t limit most n (cuts ++ [k]) ⟨st1.tries + 1, st1.over, st1.found⟩) := by show _ = _; rw [HFk.out, if_pos HQ.out]
            go_wp2_with fail
            refine Calls.mono hcall ?_
            rintro e w6 hr
            obtain ⟨r, rfl, rfl, e6⟩ := ret_ext hr
            clear hr hcall c0 c1 c2 c3 c4 c5
            have hcall := HI.out k hko HQ.out w6 A2 st1 vf1 _ (HS5.out.ext e6) (HT5.out.ext e6) (HX5.out.ext e6) HOk1.out HNe.out
            obtain ⟨fr, hfr⟩ : ∃ fr, fr = fromS mk t limit most n (cuts ++ [k]) ⟨st1.tries + 1, st1.over, st1.found⟩ := ⟨_, rfl⟩
            rw [← hfr] at hcall HFv HOk2
            clear hfr
            obtain ⟨fb, st7⟩ := fr
            simp only at hcall
            go_wp2_with fail
            refine Calls.mono hcall ?_
            rintro e w7 ⟨rfl, A3, vf3, hS7, hA3, hF7, hv7⟩
            clear hcall
            have hF7' := SF.next (frame_ext HF5.out e6) HV1.out hF7
            have hv7' : ∀ j, vf3.ownBlock = some j → vf.ownBlock = some j ∨ w.heap.size ≤ j := fun j hj => (hv7 j hj).elim (fun q => HV1.out j q) (fun q => .inr (Nat.le_trans (Nat.le_trans HF5.out.size e6.size) q))
            have hoff := (HS5.out.ext e6).off
            have hT7 := rowsA_frame (HT5.out.ext e6) hF7 hoff hA3
            have hU7 := rowsA_frame (HU5.out.ext e6) hF7 hoff hA3
            have hK7 := stable_intsA (stable_ints.ext HK5.out e6) (fun j hj => HA12.out j (HZk.out j hj)) hF7 hoff
            have HS7 := Lib.hid hS7
            have HA3 := Lib.hid hA3
            have HF7 := Lib.hid hF7'
            have HV7 := Lib.hid hv7'
            have HT7 := Lib.hid hT7
            have HU7 := Lib.hid hU7
            have HK7 := Lib.hid hK7
            clear hS7 hA3 hF7 hF7' hv7 hv7' hT7 hU7 hK7 hoff
            cases fb with
            | true =>
              have HEnd := Lib.hid (HSw.out.trans ((sweepS_end (L := R') HNe.out (by rw [HFv.out])).trans (by rw [HFv.out])))
              go_wp2_with fail
              go_ret
              exact ⟨by rw [HEnd.out]; rfl, A3, vf3, by rw [HEnd.out]; exact HS7.out, fun j hj => HA3.out j (HA12.out j (HA1.out j hj)), HF7.out, HV7.out⟩
            | false =>
              have hA' : ∀ j, A j → A3 j := fun j hj => HA3.out j (HA12.out j (HA1.out j hj))
              have HSX := Lib.hid HS7.out
              have HTX := Lib.hid HT7.out
              have HUX := Lib.hid HU7.out
              have HKX := Lib.hid HK7.out
              have HFX := Lib.hid HF7.out
              have HVX := Lib.hid HV7.out
              have HWX := Lib.hid (HSw.out.trans ((sweepS_on (L := R') HNe.out (by rw [HFv.out])).trans (by rw [HFv.out])))
              have HOX := Lib.hid HOk2.out
              obtain ⟨c0, c1, c2, c3, c4, c5⟩ := HSX.out.sys
              go_wp2_with fail
              refine Calls.mono (HN.out D R' k Ha.out w7 _ zk HKX.out) ?_
              rintro e w9 hr
              obtain ⟨r, rfl, hk9, e9⟩ := ret_ext hr
              clear hr
              obtain ⟨u9', b9', rfl, hC9⟩ := FromAt.go (f := f) (D := D ++ [k]) (R := R') (by rw [Ha.out]; simp) HSX.out hA' HFX.out HVX.out HWX.out HOX.out HTX.out HUX.out e9 hk9
              have HC9 := Lib.hid hC9
              clear hC9 hk9 c0 c1 c2 c3 c4 c5
              go_wp2_with fail
              go_roundg R'.length
              case measure => rw [Hgk.out]; simp
              case rel => exact ⟨R', rfl, HC9.out⟩

open Go.ChangeShapes Go.WideShapes Go.ChangeAt Go.RowKit
set_option linter.unusedVariables false

/-- what a search for designs finds -/
def searchS (mk : MK) (t : List (List Int)) (limit most : Int) : SS := (fromS mk t limit most t.length [] ⟨0, false, []⟩).2
def searchC (mk : MK) (t : List (List Int)) (limit : Int) : Int := if isSystem mk t = true then (if inB limit 0 4000 = true then 0 else 2) else 1
theorem searchC_sys {mk : MK} {t : List (List Int)} {limit : Int} (h : isSystem mk t = false) : searchC mk t limit = 1 := by unfold searchC; rw [if_neg (by rw [h]; decide)]
theorem searchC_lim {mk : MK} {t : List (List Int)} {limit : Int} (h : isSystem mk t = true) (h2 : inB limit 0 4000 = false) : searchC mk t limit = 2 := by unfold searchC; rw [if_pos h, if_neg (by rw [h2]; decide)]
theorem searchC_ok {mk : MK} {t : List (List Int)} {limit : Int} (h : isSystem mk t = true) (h2 : inB limit 0 4000 = true) : searchC mk t limit = 0 := by unfold searchC; rw [if_pos h, if_pos h2]
theorem searchC_zero {mk : MK} {t : List (List Int)} {limit : Int} (h : searchC mk t limit = 0) : isSystem mk t = true ∧ 0 ≤ limit ∧ limit ≤ 4000 := by
  unfold searchC at h
  split at h
  · split at h
    · rename_i h1 h2
      exact ⟨h1, inB_iff.1 h2⟩
    · omega
  · omega
theorem sys_mkOk {mk : MK} {t : List (List Int)} (h : isSystem mk t = true) : MkOk mk := by
  unfold isSystem at h
  exact mkOk (Bool.and_eq_true_iff.1 h).1
theorem searchS_ok {mk : MK} {t : List (List Int)} {limit most : Int} (h : isSystem mk t = true) (hl : 0 ≤ limit) : SOk mk t limit (searchS mk t limit most) :=
  fromS_ok (sys_mkOk h) t.length [] ⟨0, false, []⟩ (by simp) (by simp) (fun h0 => by
    have := (sysOk h).len
    omega) (Int.le_refl _) hl (by simp) (by
    have := (sysOk h).len
    rw [if_neg (by omega)]; simp)
theorem IntsR.shrink {z : Zone} {w : World} {v : Value} {xs : List Int} (h : IntsR z w v xs) : IntsR ⟨z.lo, min z.hi w.heap.size, false⟩ w v xs := by
  obtain ⟨a, cap, rfl, h1, h2, h3, h4⟩ := h
  refine ⟨a, cap, rfl, h1, h2, h3, fun ad had hp => ?_⟩
  obtain ⟨k1, k2, k3, k4, Z, k5, k6, k7⟩ := h4 ad had hp
  refine ⟨k1, ⟨k2.1, by have := k2.2; show ad.block < min z.hi w.heap.size; omega⟩, k3, (fun h => by cases h), fun _ => ⟨0, 0, true⟩, fun i hi => ⟨fun k hk => absurd hk.2 (Nat.not_lt_zero _), fun _ => rfl⟩, (fun h => by cases h), fun i hi => ?_⟩
  obtain ⟨u, c1, c2⟩ := k7 i hi
  exact ⟨u, c1, c2⟩
theorem RowsA.of_rows {z : Zone} {w : World} {v : Value} {t : List (List Int)} (h : RowsR z w v t) : RowsA (fun k => k < w.heap.size) w v t := by
  obtain ⟨a, cap, rfl, h1, h2, h3, h4⟩ := h
  have hp : 0 < t.length → ∃ ad, a = some ad := fun hp => by
    cases a with
    | none => rw [(h3 rfl).1] at hp; simp at hp
    | some ad => exact ⟨ad, rfl⟩
  by_cases h0 : 0 < t.length
  · obtain ⟨ad, rfl⟩ := hp h0
    obtain ⟨k1, k2, k3, k4, Z, k5, k6, k7⟩ := h4 ad rfl h0
    refine ⟨_, cap, fun j => ⟨(Z j).lo, min (Z j).hi w.heap.size, false⟩, rfl, h1, h2, h3, fun j hj => ?_⟩
    obtain ⟨u, c1, c2⟩ := k7 j hj
    obtain ⟨a', n', c', rfl, -⟩ := SliceR.shape c2
    refine ⟨ad, (a', n', c'), rfl, k1, k3, k3, ?_, fun k hk => ?_, rfl, c2.shrink⟩
    · obtain ⟨b, o, s⟩ := ad
      simp only at k1; subst k1
      rw [Addr.add_lit]; exact c1
    · have : k < min (Z j).hi w.heap.size := hk.2
      omega
  · exact ⟨a, cap, fun _ => ⟨0, 0, false⟩, rfl, h1, h2, h3, fun j hj => by omega⟩

set_option maxRecDepth 20000 in
set_option maxHeartbeats 1000000 in
theorem l17Code_c (w : World) (mk : MK) (v : Value) (z : Zone) (t : List (List Int)) (h : RowsR z w v t) (limit : Int) (hl : I64 limit) :
    Calls Tryz.prog 145 #[sysV mk v, .int .i64 limit] w (Ret w fun r _ => r = .int .i64 (searchC mk t limit)) := by
  have H1 : Hid (isSystem mk t = false → searchC mk t limit = 1) := searchC_sys
  have H2 : Hid (isSystem mk t = true → inB limit 0 4000 = false → searchC mk t limit = 2) := searchC_lim
  have H3 : Hid (isSystem mk t = true → inB limit 0 4000 = true → searchC mk t limit = 0) := searchC_ok
  have HC1 := Lib.hid (fun (w' : World) (e : Ext w w') => IsSystemSpec_c w' mk v z t (stable_rows.ext h e))
  generalize searchC mk t limit = res at *
  generalize isSystem mk t = q at *
  obtain ⟨a, n, cap, rfl, -⟩ := SliceR.shape h
  clear h
  unfold sysV at *
  go_enter Tryz.func145, Tryz.ntmps145
  go_wp2_with fail
  generalize hw0 : World.alloc _ _ = w0
  obtain ⟨e0, S0⟩ := sys_box hw0
  clear hw0 S0
  refine Calls.mono (HC1.out w0 e0) ?_
  rintro e w1 hr
  obtain ⟨r, rfl, rfl, e1⟩ := ret_ext hr
  clear hr HC1
  have et := e0.trans e1
  cases q with
  | false =>
    have HH := Lib.hid (H1.out rfl)
    go_wp2_with fail
    go_ret
    exact ⟨_, rfl, by rw [HH.out]; rfl, et⟩
  | true =>
    have hcall := l01In_c w1 limit 0 4000
    have H2' := Lib.hid (H2.out rfl)
    have H3' := Lib.hid (H3.out rfl)
    clear H1 H2 H3
    generalize inB limit 0 4000 = q2 at *
    go_wp2_with fail
    refine Calls.mono hcall ?_
    rintro e w2 hr
    obtain ⟨rfl, hd, e2⟩ := retq_ext hr
    clear hr hcall
    cases q2 with
    | false =>
      have HH := Lib.hid (H2'.out rfl)
      go_wp2_with fail
      go_ret
      exact ⟨_, rfl, by rw [HH.out]; rfl, et.trans e2⟩
    | true =>
      have HH := Lib.hid (H3'.out rfl)
      go_wp2_with fail
      go_ret
      exact ⟨_, rfl, by rw [HH.out]; rfl, et.trans e2⟩

theorem srch_new {w w0 : World} {mk : MK} {v : Value} {limit most : Int} {ty ty' : TypeId} {z : Zone} {t : List (List Int)} (h : RowsR z w v t)
    (hw : (w.alloc (.cells #[.int .i64 mk.c, .int .i64 mk.d, .int .i64 mk.s, .int .i64 mk.m, .int .i64 mk.l, v] ty)).alloc (.cells #[.int .i64 mk.c, .int .i64 mk.d, .int .i64 mk.s, .int .i64 mk.m, .int .i64 mk.l, v, .int .i64 limit, .int .i64 most, .int .i64 0, .bool false, .slice none 0 0] ty') = w0) :
    Ext w w0 ∧ SrchAt (fun k => k < w.heap.size) (w.heap.size + 1) mk v limit most ⟨0, false, []⟩ (.slice none 0 0) w0 ∧ RowsA (fun k => k < w.heap.size) w0 v t := by
  subst hw
  have e : Ext w ((w.alloc (.cells #[.int .i64 mk.c, .int .i64 mk.d, .int .i64 mk.s, .int .i64 mk.m, .int .i64 mk.l, v] ty)).alloc (.cells #[.int .i64 mk.c, .int .i64 mk.d, .int .i64 mk.s, .int .i64 mk.m, .int .i64 mk.l, v, .int .i64 limit, .int .i64 most, .int .i64 0, .bool false, .slice none 0 0] ty')) := (Ext.alloc _ _).trans (Ext.alloc _ _)
  have hg := heap_alloc_new (w.alloc (.cells #[.int .i64 mk.c, .int .i64 mk.d, .int .i64 mk.s, .int .i64 mk.m, .int .i64 mk.l, v] ty)) (.cells #[.int .i64 mk.c, .int .i64 mk.d, .int .i64 mk.s, .int .i64 mk.m, .int .i64 mk.l, v, .int .i64 limit, .int .i64 most, .int .i64 0, .bool false, .slice none 0 0] ty')
  rw [World.size_alloc] at hg
  refine ⟨e, ⟨⟨?_, ?_, ?_, ?_, ?_, ?_⟩, ?_, ?_, ?_, ?_, ?_, frozen_of_row _ _ _ _ _ hg, frozen_of_row _ _ _ _ _ hg, frozen_of_row _ _ _ _ _ hg, ?_, fun k hk => ⟨by omega, fun e => by cases e⟩, (fun e => by cases e), fun k hk => Nat.lt_of_lt_of_le hk e.size⟩, (RowsA.of_rows h).ext e⟩
  any_goals (rw [cell_of_row _ _ _ _ _ (0, 0) hg]; rfl)
  exact ⟨[], rfl, OwnP.none, fun i hi => by simp at hi⟩

set_option maxRecDepth 20000 in
set_option maxHeartbeats 1000000 in
theorem l17Run_c (w : World) (mk : MK) (v : Value) (z : Zone) (t : List (List Int)) (h : RowsR z w v t) (hs : isSystem mk t = true) (limit most : Int) (hl0 : 0 ≤ limit) (hl1 : limit ≤ 4000) (hm : 0 < most) (hmi : I64 most) :
    Calls Tryz.prog 147 #[sysV mk v, .slice none 0 0, .int .i64 most, .int .i64 limit] w (Ret w fun r w' => ∃ (g : Nat) (A : Nat → Prop) (vf : Value), r = .pointer (some ⟨g, 0, none⟩) ∧ SrchAt A g mk v limit most (searchS mk t limit most) vf w' ∧ w.heap.size ≤ g) := by
  have ok := sysOk hs
  have HC := Lib.hid (fun (g : Nat) (w' : World) (A : Nat → Prop) (vf : Value) (hS : SrchAt A g mk v limit most ⟨0, false, []⟩ vf w') (hT : RowsA A w' v t) => l17From_c mk (sys_mkOk hs) v t ok limit most hl1 hl0 hmi g t.length w' A ⟨0, false, []⟩ vf (.slice none 0 0) [] hS hT RowsA.nil (by simp) (by simp) (Int.le_refl _) hl0 (by simp) (by
    have := ok.len
    rw [if_neg (by omega)]; simp) (fun h0 => by have := ok.len; omega))
  have HN := Lib.hid (fun (w0 : World) (ty ty' : TypeId) => srch_new (w0 := w0) (ty := ty) (ty' := ty') (mk := mk) (limit := limit) (most := most) h)
  have HE : Hid (searchS mk t limit most = (fromS mk t limit most t.length [] ⟨0, false, []⟩).2) := rfl
  obtain ⟨a, n, cap, rfl, -⟩ := SliceR.shape h
  clear h ok hs
  obtain ⟨fr, hfr⟩ : ∃ fr, fr = fromS mk t limit most t.length [] ⟨0, false, []⟩ := ⟨_, rfl⟩
  rw [← hfr] at HE HC
  clear hfr
  obtain ⟨fb, st⟩ := fr
  unfold sysV at *
  go_enter Tryz.func147, Tryz.ntmps147
  go_wp2_with fail
  generalize hw0 : World.alloc (World.alloc _ _) _ = w0
  obtain ⟨e0, hS0, hT0⟩ := HN.out w0 _ _ hw0
  clear hw0 HN
  refine Calls.mono (HC.out _ w0 _ _ hS0 hT0) ?_
  rintro e w1 ⟨rfl, A', vf', hS', -, hF, -⟩
  have HS' := Lib.hid hS'
  have HF := Lib.hid hF
  clear hS' hF hS0 hT0 HC
  go_wp2_with fail
  go_ret
  refine ⟨_, rfl, ⟨w.heap.size + 1, A', vf', rfl, by rw [HE.out]; exact HS'.out, Nat.le_succ _⟩, ?_⟩
  have h0 := e0.size
  exact ⟨HF.out.os.trans e0.os, HF.out.tape.trans e0.tape, HF.out.output.trans e0.output, Nat.le_trans h0 HF.out.size, fun k hk => (HF.out.block k (by omega) (fun q => q.elim (fun q => by omega) (fun q => by cases q))).trans (Below.block e0 k hk)⟩

/-- the first design of a search -/
def firstS (st : SS) : (List (List Int) × Int) × Int := match st.found with
  | x :: _ => ((x, st.tries), 0)
  | [] => if st.over = true then (([], 0), 3) else (([], 0), 4)
def FindR (w : World) (x : (List (List Int) × Int) × Int) (r : Value) (w' : World) : Prop := ∃ u, r = .tuple #[u, .int .i64 x.1.2, .int .i64 x.2] ∧ RowsR (.new w w') w' u x.1.1
set_option maxRecDepth 20000 in
set_option maxHeartbeats 1000000 in
theorem l17First_c (w : World) (g : Nat) (A : Nat → Prop) (mk : MK) (v : Value) (limit most : Int) (st : SS) (vf : Value) (hS : SrchAt A g mk v limit most st vf w) {t : List (List Int)} (hok : SOk mk t limit st) (ht : SysOk mk t) :
    Calls Tryz.prog 146 #[.pointer (some ⟨g, 0, none⟩)] w (Ret w (FindR w (firstS st))) := by
  obtain ⟨tries, over, found⟩ := st
  obtain ⟨us, hul, hup, huf⟩ := hS.found
  have c8 := hS.c8
  have c9 := hS.c9
  have c10 := hS.c10
  simp only at hul hup huf c8 c9
  obtain ⟨b, n, cap, rfl, hn, -, hel⟩ := hup.shape
  cases found with
  | nil =>
    have hn0 : n = 0 := by simpa [hul] using hn
    subst hn0
    clear hS hup huf hel hn
    cases over with
    | true =>
      go_enter Tryz.func146, Tryz.ntmps146
      go_wp2_with fail
      go_ret3
      exact ⟨_, rfl, ⟨_, rfl, SliceR.nil _ _ _⟩, Ext.refl _⟩
    | false =>
      go_enter Tryz.func146, Tryz.ntmps146
      go_wp2_with fail
      go_ret3
      exact ⟨_, rfl, ⟨_, rfl, SliceR.nil _ _ _⟩, Ext.refl _⟩
  | cons x rest =>
    have hul' : us.length = rest.length + 1 := by simpa using hul
    obtain ⟨gb, rfl, -, hgb, hc0, -⟩ := hel 0 (by omega)
    have hx := huf 0 (by simp) (by omega)
    simp only [List.getElem_cons_zero] at hx
    have hgood := hok.cuts x (by simp)
    have hl10 := ht.len
    have hkl : ∀ k, k < x.length → (x.getD k []).length ≤ 1000 := fun k hk => by
      have e : x.getD k [] = x[k] := by simp [hk]
      rw [e]
      have := (hgood.key _ (List.getElem_mem hk)).len
      have := ht.mk1
      omega
    generalize us[0] = u0 at *
    obtain ⟨ax, nx, cx⟩ := u0
    rw [slV_mk] at hc0 hx
    have HC := Lib.hid (fun (w' : World) (e : Ext w w') => l15Lists_c w' _ _ x (stable_rows.ext hx.rows e) (by rw [hgood.len]; omega) hkl)
    have HCel : Hid (∀ w', Ext w w' → w'.cell? ⟨g, 8, none⟩ = some (.int .i64 tries) ∧ w'.cell? ⟨g, 10, none⟩ = some (.slice (some ⟨gb, 0, none⟩) n cap) ∧ w'.cell? ⟨gb, 0, none⟩ = some (.slice ax nx cx)) := fun w' e => ⟨e.cell c8, e.cell c10, e.cell hc0⟩
    have hn0 : 0 < n := by omega
    clear hS hup huf hel hn hul hul' hok hgood hl10 hkl hx ht
    go_enter Tryz.func146, Tryz.ntmps146
    go_wp2_with fail
    first | (go_region_held3 (fun w' => w'.cell? ⟨g, 8, none⟩ = some (.int .i64 tries) ∧ w'.cell? ⟨g, 10, none⟩ = some (.slice (some ⟨gb, 0, none⟩) n cap) ∧ w'.cell? ⟨gb, 0, none⟩ = some (.slice ax nx cx)) (exact HCel.out _ (by repeat (first | exact Ext.refl _ | assumption | (refine Ext.trans ?_ (Ext.alloc _ _)) | (refine Ext.trans ?_ (Ext.drew _)) | (refine Ext.trans ?_ (by assumption))))) (first | (go_at_call 170; (with_reducible refine (HC.out _ (by repeat (first | exact Ext.refl _ | assumption | (refine Ext.trans ?_ (Ext.alloc _ _)) | (refine Ext.trans ?_ (Ext.drew _)) | (refine Ext.trans ?_ (by assumption))))).mono ?_); rintro e w7 hr7; obtain ⟨r7, rfl, o7, e7⟩ := ret_ext hr7; clear hr7; obtain ⟨a7, n7, k7, rfl, -⟩ := OwnR.shape o7; have e77 : Ext w w7 := (by repeat (first | exact Ext.refl _ | assumption | (refine Ext.trans ?_ (Ext.alloc _ _)) | (refine Ext.trans ?_ (Ext.drew _)) | (refine Ext.trans ?_ (by assumption)))); have H7 : RowsR (.new w w7) w7 (.slice a7 n7 k7) x := by exact stable_rows.sub (OwnR.rows o7) ⟨fun k hk => ⟨Nat.le_trans (Ext.size (by repeat (first | exact Ext.refl _ | assumption | (refine Ext.trans ?_ (Ext.alloc _ _)) | (refine Ext.trans ?_ (Ext.drew _)) | (refine Ext.trans ?_ (by assumption))))) hk.1, hk.2⟩, fun h => h⟩) | fail)) | fail
    have H7' := Lib.hid H7
    clear o7
    go_wp2_with fail
    go_ret3
    exact ⟨_, rfl, ⟨_, rfl, H7'.out⟩, e77⟩
def findD (mk : MK) (t : List (List Int)) (limit : Int) : (List (List Int) × Int) × Int := if searchC mk t limit ≠ 0 then (([], 0), searchC mk t limit) else firstS (searchS mk t limit 1)
theorem findD_bad {mk : MK} {t : List (List Int)} {limit : Int} (h : searchC mk t limit ≠ 0) : findD mk t limit = (([], 0), searchC mk t limit) := by unfold findD; rw [if_pos h]
theorem findD_ok {mk : MK} {t : List (List Int)} {limit : Int} (h : searchC mk t limit = 0) : findD mk t limit = firstS (searchS mk t limit 1) := by unfold findD; rw [if_neg (by omega)]
theorem FindR.back {w w1 w' : World} {x : (List (List Int) × Int) × Int} {r : Value} (h : FindR w1 x r w') (e : Ext w w1) : FindR w x r w' := by
  obtain ⟨u, rfl, h⟩ := h
  exact ⟨u, rfl, stable_rows.sub h ⟨fun k hk => ⟨Nat.le_trans e.size hk.1, hk.2⟩, fun _ => rfl⟩⟩
set_option maxRecDepth 20000 in
set_option maxHeartbeats 1000000 in
theorem FindDesignSpec_c (w : World) (mk : MK) (v : Value) (z : Zone) (t : List (List Int)) (h : RowsR z w v t) (limit : Int) (hl : I64 limit) :
    Calls Tryz.prog 111 #[sysV mk v, .int .i64 limit] w (Ret w (FindR w (findD mk t limit))) := by
  have H1 : Hid (searchC mk t limit ≠ 0 → findD mk t limit = (([], 0), searchC mk t limit)) := findD_bad
  have H2 : Hid (searchC mk t limit = 0 → findD mk t limit = firstS (searchS mk t limit 1)) := findD_ok
  have HC1 := Lib.hid (fun (w' : World) (e : Ext w w') => l17Code_c w' mk v z t (stable_rows.ext h e) limit hl)
  have HC2 := Lib.hid (fun (h0 : searchC mk t limit = 0) (w' : World) (e : Ext w w') => l17Run_c w' mk v z t (stable_rows.ext h e) (searchC_zero h0).1 limit 1 (searchC_zero h0).2.1 (searchC_zero h0).2.2 (by omega) (by unfold I64; omega))
  have HC3 := Lib.hid (fun (h0 : searchC mk t limit = 0) (w' : World) (g : Nat) (A : Nat → Prop) (vf : Value) (hS : SrchAt A g mk v limit 1 (searchS mk t limit 1) vf w') => l17First_c w' g A mk v limit 1 _ vf hS (searchS_ok (searchC_zero h0).1 (searchC_zero h0).2.1) (sysOk (searchC_zero h0).1))
  generalize findD mk t limit = res at *
  generalize searchC mk t limit = rc at *
  generalize searchS mk t limit 1 = st at *
  obtain ⟨a, n, cap, rfl, -⟩ := SliceR.shape h
  clear h
  unfold sysV at *
  go_enter Tryz.func111, Tryz.ntmps111
  go_wp2_with fail
  generalize hw0 : World.alloc _ _ = w0
  obtain ⟨e0, S0⟩ := sys_box hw0
  clear hw0
  refine Calls.mono (HC1.out w0 e0) ?_
  rintro e w1 hr
  obtain ⟨r, rfl, rfl, e1⟩ := ret_ext hr
  clear hr HC1
  have et := e0.trans e1
  obtain ⟨c0, c1, c2, c3, c4, c5⟩ := S0.ext e1
  clear S0
  by_cases hd : rc = 0
  · have HH := Lib.hid (H2.out hd)
    have hcall := HC2.out hd w1 et
    have HC3' := Lib.hid (HC3.out hd)
    have hb0 : (rc != 0) = false := by rw [hd]; rfl
    clear hd H1 H2 HC2 HC3
    go_wp2_with fail
    refine Calls.mono hcall ?_
    rintro e w2 hr
    obtain ⟨r, rfl, ⟨g, A, vf, rfl, hS, -⟩, e2⟩ := ret_ext hr
    clear hr hcall
    have hcall := HC3'.out w2 g A vf hS
    clear hS HC3' c0 c1 c2 c3 c4 c5
    have HE := Lib.hid (et.trans e2)
    go_wp2_with fail
    refine Calls.mono hcall ?_
    rintro e w3 hr
    obtain ⟨r, rfl, hf, e3⟩ := ret_ext hr
    have HF := Lib.hid (hf.back HE.out)
    obtain ⟨u, rfl, -⟩ := hf
    clear hr hcall
    go_wp2_with fail
    go_ret3
    exact ⟨_, rfl, by rw [HH.out]; exact HF.out, HE.out.trans e3⟩
  · have HH := Lib.hid (H1.out hd)
    have hb0 : (rc != 0) = true := by rw [bne_iff_ne]; exact hd
    clear hd H1 H2 HC2 HC3
    go_wp2_with fail
    go_ret3
    exact ⟨_, rfl, by rw [HH.out]; exact ⟨_, rfl, SliceR.nil _ _ _⟩, et⟩
end Go.Proofs.YthgmojggpjnckaaGreat
