/- Proved: a list of rows by the blocks that it lies in, and partial cuts with one more key. -/
import Derived.Test.YtkeikjedbfomnaaGreatDoorChecked
import Derived.Test.YtkeikjedbfomnaaGreatDoorUCanSpec
namespace Go.Proofs.YtkeikjedbfomnaaGreatDoor
open Go.ChangeShapes Go.WideShapes Go.ChangeAt Go.RowKit
set_option linter.unusedVariables false

/-- v reads as t, and all of it lies in blocks of A -/
def RowsA (A : Nat → Prop) (w : World) (v : Value) (t : List (List Int)) : Prop :=
  ∃ (a : Option Addr) (cap : Nat) (Y : Nat → Zone), v = .slice a t.length cap ∧ t.length ≤ cap ∧ cap ≤ maxLen ∧ (a = none → t = [] ∧ cap = 0) ∧
    ∀ j (hj : j < t.length), ∃ (ad : Addr) (u : Option Addr × Nat × Nat), a = some ad ∧ ad.spot = none ∧ A ad.block ∧ ad.block < w.heap.size ∧ w.cell? (ad.add j) = some (slV u) ∧ (∀ k, (Y j).Has k → A k ∧ k < w.heap.size) ∧ (Y j).own = false ∧ IntsR (Y j) w (slV u) t[j]
theorem RowsA.nil {A : Nat → Prop} {w : World} : RowsA A w (.slice none 0 0) [] := ⟨none, 0, fun _ => ⟨0, 0, false⟩, rfl, Nat.le_refl _, Nat.zero_le _, fun _ => ⟨rfl, rfl⟩, fun j hj => absurd hj (Nat.not_lt_zero _)⟩
theorem RowsA.keep {A : Nat → Prop} {w w' : World} {v : Value} {t : List (List Int)} (h : RowsA A w v t) (hs : w.heap.size ≤ w'.heap.size) (hb : ∀ k, A k → k < w.heap.size → w'.heap[k]? = w.heap[k]?) : RowsA A w' v t := by
  obtain ⟨a, cap, Y, rfl, h1, h2, h3, h4⟩ := h
  refine ⟨a, cap, Y, rfl, h1, h2, h3, fun j hj => ?_⟩
  obtain ⟨ad, u, rfl, g1, g2, g3, g4, g5, g6, g7⟩ := h4 j hj
  refine ⟨ad, u, rfl, g1, g2, Nat.lt_of_lt_of_le g3 hs, ?_, fun k hk => ⟨(g5 k hk).1, Nat.lt_of_lt_of_le (g5 k hk).2 hs⟩, g6, stable_ints.keep g7 (fun k hk hl => hb k (g5 k hk).1 hl)⟩
  have e : (ad.add j).block = ad.block := by obtain ⟨b, o, s⟩ := ad; simp only at g1; subst g1; rw [Addr.add_lit]
  rw [World.cell?_of_block (w := w) (a := ad.add j) (by rw [e]; exact hb ad.block g2 g3)]; exact g4
theorem RowsA.ext {A : Nat → Prop} {w w' : World} {v : Value} {t : List (List Int)} (h : RowsA A w v t) (e : Ext w w') : RowsA A w' v t := h.keep e.size (fun k _ hk => Below.block e k hk)
theorem RowsA.mono {A A' : Nat → Prop} {w : World} {v : Value} {t : List (List Int)} (h : RowsA A w v t) (hA : ∀ k, A k → k < w.heap.size → A' k) : RowsA A' w v t := by
  obtain ⟨a, cap, Y, rfl, h1, h2, h3, h4⟩ := h
  refine ⟨a, cap, Y, rfl, h1, h2, h3, fun j hj => ?_⟩
  obtain ⟨ad, u, rfl, g1, g2, g3, g4, g5, g6, g7⟩ := h4 j hj
  exact ⟨ad, u, rfl, g1, hA _ g2 g3, g3, g4, fun k hk => ⟨hA k (g5 k hk).1 (g5 k hk).2, (g5 k hk).2⟩, g6, g7⟩
theorem RowsA.rows {A : Nat → Prop} {w : World} {v : Value} {t : List (List Int)} (h : RowsA A w v t) : RowsR ⟨0, w.heap.size, false⟩ w v t := by
  obtain ⟨a, cap, Y, rfl, h1, h2, h3, h4⟩ := h
  refine ⟨a, cap, rfl, h1, h2, h3, fun ad had hp => ?_⟩
  subst had
  obtain ⟨ad', u, he, g1, g2, g3, -⟩ := h4 0 hp
  injection he with he; subst he
  refine ⟨g1, ⟨Nat.zero_le _, g3⟩, g3, (fun h => by cases h), Y, fun i hi => ?_, (fun h => by cases h), fun i hi => ?_⟩
  · obtain ⟨ad', u, -, -, -, -, -, g5, -⟩ := h4 i hi
    exact ⟨fun k hk => ⟨Nat.zero_le _, (g5 k hk).2⟩, fun h => by cases h⟩
  · obtain ⟨ad', u, he, -, -, -, g4, -, -, g7⟩ := h4 i hi
    injection he with he; subst he
    refine ⟨slV u, ?_, g7⟩
    obtain ⟨b, o, s⟩ := ad
    simp only at g1; subst g1
    rwa [Addr.add_lit] at g4
theorem IntsR.unown {z : Zone} {w : World} {v : Value} {xs : List Int} (h : IntsR z w v xs) : IntsR ⟨z.lo, z.hi, false⟩ w v xs := stable_ints.sub h ⟨fun k hk => hk, fun h => by cases h⟩
theorem RowsA.of_own {b : Bool} {A A' : Nat → Prop} {e : TypeId} {B : Nat} {w : World} {v : Value} {t : List (List Int)} (h : OwnA b A IntsR e B w v t) (hA : ∀ k, A k → k < w.heap.size → A' k) (hv : ∀ k, v.ownBlock = some k → A' k) : RowsA A' w v t := by
  obtain ⟨us, Z, hl, ⟨ho1, ho2⟩, h1, h2, h3⟩ := h
  rcases ho2 with ⟨rfl, h0⟩ | ⟨g, cap, cur, rfl, hb, hg, hnc, hcm, hcs, htake⟩
  · obtain rfl : t = [] := List.eq_nil_of_length_eq_zero (by omega)
    exact RowsA.nil
  · have hgl : g < w.heap.size := (Array.getElem?_eq_some_iff.1 hg).1
    refine ⟨some ⟨g, 0, none⟩, cap, fun i => ⟨(Z i).lo, (Z i).hi, false⟩, by rw [← hl], by omega, hcm, (fun h => by cases h), fun j hj => ⟨⟨g, 0, none⟩, us[j]'(by omega), rfl, rfl, hv g rfl, hgl, ?_, fun k hk => ?_, rfl, (h3 j hj (by omega)).unown⟩⟩
    · rw [Addr.add_lit, Nat.zero_add, cell_of_row w g j cur e (0, 0) hg]
      have : (cur.toList.take (us.length * 1))[j]? = (us.map slV)[j]? := by rw [htake]
      rw [List.getElem?_take, if_pos (by omega)] at this
      simpa [show j < us.length by omega] using this
    · have := (h1 j hj).2 k hk
      exact ⟨hA k this.1 this.2.1, this.2.1⟩
theorem RowsA.len {A : Nat → Prop} {w : World} {v : Value} {t : List (List Int)} (h : RowsA A w v t) : ∃ a c, v = .slice a t.length c := by
  obtain ⟨a, cap, Y, rfl, -⟩ := h
  exact ⟨a, cap, rfl⟩

/-- an append of lists that lie elsewhere to an empty list of the call's own -/
theorem run_aliasA {P : Program} {e : TypeId} {w W : World} {g n c : Nat} {cuts : List (List Int)} {A : Nat → Prop} {a : Option Addr} (t ty : TypeId) (ht : P.underlying t = some (.slice e)) (hinfo : (P.info? e).map (fun i => (i.zero, i.size, i.bytes)) = some (some (.slice Option.none 0 0), 1, 24))
    (hc : RowsA A w (.slice a n c) cuts) (hm : n ≤ 1000) (hW : W = w.alloc (.cells #[] e)) (hg : g = w.heap.size) :
    ∃ v' w', (Builtin.append_ #[t, t] ty #[.slice (some ⟨g, 0, Option.none⟩) 0 0, .slice a n c]).run P W = .ok v' w' ∧ OwnA false A IntsR e w.heap.size w' v' cuts ∧ Ext w w' := by
  subst hW; subst hg
  obtain ⟨a', c', Y, he, hcap, hmx, hnone, hel⟩ := hc
  injection he with e1 e2 e3
  subst e1; subst e2; subst e3
  have eW : Ext w (w.alloc (.cells #[] e)) := Ext.alloc _ _
  have hsz : (w.alloc (.cells #[] e)).heap.size = w.heap.size + 1 := by simp
  cases a with
  | none =>
    obtain ⟨rfl, rfl⟩ := hnone rfl
    obtain ⟨i, hi, hz0, hz1, hz2⟩ := info_parts hinfo
    have hown : OwnP slV e w.heap.size (w.alloc (.cells #[] e)) (.slice (some ⟨w.heap.size, 0, Option.none⟩) 0 0) [] := OwnP.empty (Nat.le_refl _)
    have hrun := run_append_owned_none (P := P) (w.alloc (.cells #[] e)) w.heap.size t ty e i 1 ht hi _ _ _ hown
    exact ⟨_, _, hrun, OwnA.empty (Nat.le_refl _), Ext.alloc _ _⟩
  | some ad =>
    obtain ⟨v', w', hr, ho, hgr, -⟩ := run_appendRowsY (P := P) (b := false) (w := w.alloc (.cells #[] e)) (w0 := w.alloc (.cells #[] e)) (ad := ad) (cap := c) (ys := cuts) (xs := []) stable_ints t ty ht hinfo (A := A) (A0 := A) (fun _ _ h => h) (OwnA.empty (Nat.le_refl _)) (Below.refl _ _) Y (fun _ _ h => by cases h)
      (fun j hj k hk => by
        obtain ⟨ad', u, -, -, -, -, -, g5, -⟩ := hel j hj
        have := g5 k hk
        exact ⟨this.1, by omega, fun e => by
          have : w.heap.size = k := by injection e
          omega⟩) (fun h => by cases h) (fun h => by cases h)
      (fun j hj => by
        obtain ⟨ad', u, he, -, -, -, g4, -, -, g7⟩ := hel j hj
        injection he with he; subst he
        exact ⟨u, Ext.cell eW g4, fun _ => stable_ints.ext g7 eW⟩) hcap hmx (by simp; omega) (by omega)
    refine ⟨v', w', hr, by simpa using ho, ?_⟩
    have hb2 : Below w.heap.size (w.alloc (.cells #[] e)) w' := Below.grown (Below.refl _ _) hgr (by omega) (fun k hk => by
      have : w.heap.size = k := by injection hk
      omega)
    exact Below.trans eW hb2

theorem wpList_appendAliasA {e : TypeId} {B : Nat} {w : World} {v : Value} {A : Nat → Prop} {xs : List (List Int)} {P : Program} {ops : Array Oper} {rest : List Oper} {o : Oper} {a : Act} {Q : Exit → Act → World → Prop} (hgd : o.guard = Option.none) (s x : Operand) (t : TypeId)
    (ho : o.op = .call { callee := .builtin .append, args := #[s, x], argTypes := #[t, t] }) (ht : P.underlying t = some (.slice e)) (hinfo : (P.info? e).map (fun i => (i.zero, i.size, i.bytes)) = some (some (.slice Option.none 0 0), 1, 24))
    (hs : a.eval s = v) (hown : OwnA false A IntsR e B w v xs) (u : Option Addr × Nat × Nat) (y : List Int) {Zn : Zone} (hu : IntsR Zn w (slV u) y) (hZ : ∀ k, Zn.Has k → A k ∧ k < B) (hx : a.eval x = .slice (some ⟨w.heap.size, 0, Option.none⟩) 1 1)
    (hn : xs.length + 1 ≤ 1099511627776) (hB : B ≤ w.heap.size)
    (h : ∀ v' w', OwnA false A IntsR e B w' v' (xs ++ [y]) → Below B w w' → w.grownBy w' v.ownBlock → (∀ k, v'.ownBlock = some k → v.ownBlock = some k ∨ w.heap.size ≤ k) → wpList P ops Q rest (a.put o.dst v') w') : wpList P ops Q (o :: rest) a (w.alloc (.cells #[slV u] e)) := by
  have hbk := hown.block
  refine wpList_append_of hgd s x t ho hs hx (fun ty => run_appendOld stable_ints t ty ht hinfo (A := A) (fun _ _ hk => hk) hown hu (fun h => by cases h) (fun k hk => ⟨(hZ k hk).1, ?_, fun e => ?_, fun h => by cases h⟩) rfl hn hB) (fun v' w' h' => h v' w' h'.1 h'.2.1 h'.2.2.1 h'.2.2.2)
  · have := (hZ k hk).2; omega
  · have h1 := (hbk k e).1; have := (hZ k hk).2; omega

set_option maxRecDepth 20000 in
set_option maxHeartbeats 400000 in
theorem l16WithA_c (w : World) (u : Value) (A : Nat → Prop) (cuts : List (List Int)) (hc : RowsA A w u cuts) (hn1 : cuts.length ≤ 1000) (v4 : Value) (z4 : Zone) (key : List Int) (hk : IntsR z4 w v4 key) (hz : ∀ k, z4.Has k → A k ∧ k < w.heap.size) :
    Calls Tryz.prog 98 #[u, v4] w (Ret w fun r w' => RowsA (fun k => A k ∨ w.heap.size ≤ k) w' r (cuts ++ [key])) := by
  obtain ⟨a, n, cap, rfl, hn, -⟩ := SliceR.shape hc.rows
  obtain ⟨a4, n4, cap4, rfl, -⟩ := SliceR.shape hk
  rw [← hn] at hn1
  have Hn := Lib.hid hn
  have HC := Lib.hid hc
  have HK := Lib.hid hk
  have HZ := Lib.hid hz
  clear hn hc hk hz
  have hcl : cuts.length + 1 ≤ 1099511627776 := by rw [← Hn.out]; omega
  go_enter Tryz.func98, Tryz.ntmps98
  go_wp2_with (at_builtin; (first | (refine wpList_append_of rfl _ _ 24 rfl rfl rfl (fun ty => run_aliasA 24 ty Tryz.underlying24 Tryz.infoInts HC.out hn1 rfl rfl) ?_; intro v6 w6 h6) | (obtain ⟨h6', e6⟩ := h6; refine wpList_appendAliasA (A := A) (B := w.heap.size) (xs := cuts) rfl _ _ 24 rfl Tryz.underlying24 Tryz.infoInts rfl h6' (a4, n4, cap4) key (stable_ints.ext HK.out e6) HZ.out rfl hcl (Ext.size e6) ?_; intro v7 w7 hown7 hb7 hg7 hat7)))
  go_ret
  exact ⟨_, rfl, RowsA.of_own hown7 (fun k hk _ => .inl hk) (fun k hk => .inr (OwnA.block hown7 k hk).1), Below.trans e6 hb7⟩
end Go.Proofs.YtkeikjedbfomnaaGreatDoor
