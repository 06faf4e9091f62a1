/- Proved: lists of lists that a call makes itself. -/
import Derived.Maps.AppendAt
import Derived.Test.YtnndaboaeijbkaaDoorUBase2
namespace Go.Proofs.YtnndaboaeijbkaaDoor
open Go.ChangeShapes Go.WideShapes Go.ChangeAt Go.RowKit
set_option linter.unusedVariables false

def slV (x : Option Addr × Nat × Nat) : Value := .slice x.1 x.2.1 x.2.2
theorem slV_mk (a : Option Addr) (n c : Nat) : slV (a, n, c) = .slice a n c := rfl

/-- v is a list of slices of the call's own, from block B on; what the slices hold lies from block L on (b: and is written by nobody else) -/
def OwnA {α : Type} (b : Bool) (A : Nat → Prop) (E : Repr α) (e : TypeId) (B : Nat) (w : World) (v : Value) (xs : List α) : Prop :=
  ∃ (us : List (Option Addr × Nat × Nat)) (Z : Nat → Zone), us.length = xs.length ∧ OwnP slV e B w v us ∧
    (∀ i, i < xs.length → (b = true → (Z i).own = true) ∧ ∀ k, (Z i).Has k → A k ∧ k < w.heap.size ∧ v.ownBlock ≠ some k) ∧
    (b = true → ∀ i j, i < j → j < xs.length → (Z i).Apart (Z j)) ∧
    ∀ i (h : i < xs.length) (h' : i < us.length), E (Z i) w (slV us[i]) xs[i]

section
variable {α : Type} {b : Bool} {A : Nat → Prop} {L : Nat} {E : Repr α} {e : TypeId} {B : Nat} {w w' : World} {v : Value} {xs : List α} {zr : Value}

theorem OwnA.reads (h : OwnA b A E e B w v xs) (hA : ∀ k, A k → L ≤ k) (hL : L ≤ B) : SliceR E ⟨L, w.heap.size, b⟩ w v xs := by
  obtain ⟨us, Z, hl, ho, h1, h2, h3⟩ := h
  obtain ⟨-, ho2⟩ := ho
  rcases ho2 with ⟨rfl, h0⟩ | ⟨g, cap, cur, rfl, hb, hg, hnc, hcm, hcs, htake⟩
  · obtain rfl : xs = [] := List.eq_nil_of_length_eq_zero (by omega)
    exact SliceR.nil _ _ _
  · have hgl : g < w.heap.size := (Array.getElem?_eq_some_iff.1 hg).1
    refine ⟨some ⟨g, 0, none⟩, cap, by rw [← hl], by omega, hcm, (fun h => by cases h), fun ad had _ => ?_⟩
    cases had
    refine ⟨rfl, ⟨Nat.le_trans hL hb, hgl⟩, hgl, fun _ i _ => frozen_of_row w g _ cur e hg, Z, fun i hi => ⟨fun k hk => ⟨hA k ((h1 i hi).2 k hk).1, ((h1 i hi).2 k hk).2.1⟩, (h1 i hi).1⟩, fun ho => ⟨fun i hi hk => ((h1 i hi).2 g hk).2.2 rfl, h2 ho⟩, fun i hi' => ?_⟩
    have hi2 : i < us.length := by omega
    refine ⟨slV us[i], ?_, h3 i hi' hi2⟩
    show w.cell? ⟨g, 0 + i, none⟩ = _
    rw [Nat.zero_add, cell_of_row w g i cur e (0, 0) hg]
    have : (cur.toList.take (us.length * 1))[i]? = (us.map slV)[i]? := by rw [htake]
    rw [List.getElem?_take, if_pos (by omega)] at this
    simpa [hi2] using this

theorem OwnA.none : OwnA b A E e B w (.slice none 0 0) [] :=
  ⟨[], fun _ => ⟨0, 0, true⟩, rfl, OwnP.none, fun i h => absurd h (Nat.not_lt_zero _), fun _ i j _ h => absurd h (Nat.not_lt_zero _), fun i h => absurd h (Nat.not_lt_zero _)⟩
theorem OwnA.empty (hB : B ≤ w.heap.size) : OwnA b A E e B (w.alloc (.cells #[] e)) (.slice (some ⟨w.heap.size, 0, Option.none⟩) 0 0) [] :=
  ⟨[], fun _ => ⟨0, 0, true⟩, rfl, OwnP.empty hB, fun i h => absurd h (Nat.not_lt_zero _), fun _ i j _ h => absurd h (Nat.not_lt_zero _), fun i h => absurd h (Nat.not_lt_zero _)⟩
theorem OwnA.keep (hE : Stable E) (h : OwnA b A E e B w v xs) (hp : ∀ us, OwnP slV e B w v us → OwnP slV e B w' v us) (hs : w.heap.size ≤ w'.heap.size) (hk : ∀ k, k < w.heap.size → v.ownBlock ≠ some k → w'.heap[k]? = w.heap[k]?) : OwnA b A E e B w' v xs := by
  obtain ⟨us, Z, hl, ho, h1, h2, h3⟩ := h
  exact ⟨us, Z, hl, hp us ho, fun i hi => ⟨(h1 i hi).1, fun k hk => ⟨((h1 i hi).2 k hk).1, Nat.lt_of_lt_of_le ((h1 i hi).2 k hk).2.1 hs, ((h1 i hi).2 k hk).2.2⟩⟩, h2, fun i hi hi' => hE.keep (h3 i hi hi') (fun k hz hlt => hk k hlt ((h1 i hi).2 k hz).2.2)⟩
theorem OwnA.below (hE : Stable E) (h : OwnA b A E e B w v xs) (hb : Below w.heap.size w w') : OwnA b A E e B w' v xs :=
  h.keep hE (fun _ ho => ho.below hb) hb.size (fun k hk _ => hb.block k hk)
theorem OwnA.drewN (hE : Stable E) (h : OwnA b A E e B w v xs) (n : Nat) : OwnA b A E e B (w.drewN n) v xs := h.keep hE (fun _ ho => ho.drewN n) (Nat.le_refl _) (fun _ _ _ => rfl)
theorem OwnA.kept {row : Option Nat} (hE : Stable E) (h : OwnA b A E e B w v xs) (hg : w.grownBy w' row) (hne : v.ownBlock = Option.none ∨ v.ownBlock ≠ row) (hz : ∀ g, row = some g → ¬ A g) : OwnA b A E e B w' v xs := by
  obtain ⟨us, Z, hl, ho, h1, h2, h3⟩ := h
  exact ⟨us, Z, hl, ho.kept hg hne, fun i hi => ⟨(h1 i hi).1, fun k hk => ⟨((h1 i hi).2 k hk).1, Nat.lt_of_lt_of_le ((h1 i hi).2 k hk).2.1 hg.size, ((h1 i hi).2 k hk).2.2⟩⟩, h2, fun i hi hi' => hE.keep (h3 i hi hi') (fun k hk hlt => hg.block k hlt (fun e => hz k e.symm ((h1 i hi).2 k hk).1))⟩
theorem OwnA.block (h : OwnA b A E e B w v xs) : ∀ k, v.ownBlock = some k → B ≤ k ∧ k < w.heap.size := by
  obtain ⟨us, Z, hl, ho, -⟩ := h
  exact ho.block
theorem OwnA.len {a : Option Addr} {n cap : Nat} (h : OwnA b A E e B w (.slice a n cap) xs) : n = xs.length := by
  obtain ⟨us, Z, hl, ho, -⟩ := h
  rw [← hl]; exact ho.len
theorem OwnA.shape (h : OwnA b A E e B w v xs) : ∃ (a : Option Addr) (n cap : Nat), v = .slice a n cap ∧ n = xs.length ∧ n ≤ 9223372036854775807 := by
  obtain ⟨us, Z, hl, ho, -⟩ := h
  obtain ⟨a, n, cap, h1, h2, h3, -⟩ := ho.shape
  exact ⟨a, n, cap, h1, by omega, h3⟩

/-- a choice for each place -/
theorem choose_list {β : Type} {n : Nat} {p : Nat → β → Prop} (h : ∀ j, j < n → ∃ x, p j x) : ∃ l : List β, l.length = n ∧ ∀ j (hj : j < l.length), p j l[j] := by
  induction n with
  | zero => exact ⟨[], rfl, fun j hj => absurd hj (Nat.not_lt_zero _)⟩
  | succ n ih =>
    obtain ⟨l, hl, hp⟩ := ih (fun j hj => h j (by omega))
    obtain ⟨x, hx⟩ := h n (by omega)
    refine ⟨l ++ [x], by simp [hl], fun j hj => ?_⟩
    by_cases e : j < l.length
    · rw [List.getElem_append_left e]; exact hp j e
    · have : j = n := by simp at hj; omega
      subst this
      have : (l ++ [x])[j] = x := by simp [List.getElem_append_right, hl]
      rw [this]; exact hx

/-- what reads as a slice -/
def SlRepr (E : Repr α) : Prop := ∀ {z w u x}, E z w u x → ∃ a, u = slV a
theorem slRepr_slice {E : Repr α} : SlRepr (SliceR E) := by
  rintro z w u x ⟨a, cap, rfl, -⟩
  exact ⟨(a, _, cap), rfl⟩

/-- 'append' at an operation, by its run -/
theorem wpList_append_of {P : Program} {ops : Array Oper} {rest : List Oper} {o : Oper} {a : Act} {Q : Exit → Act → World → Prop} {w : World} (hgd : o.guard = Option.none) (s x : Operand) (t : TypeId)
    (ho : o.op = .call { callee := .builtin .append, args := #[s, x], argTypes := #[t, t] }) {v xv : Value} (hs : a.eval s = v) (hx : a.eval x = xv) {R : Value → World → Prop}
    (hrun : ∀ ty, ∃ v' w', (Builtin.append_ #[t, t] ty #[v, xv]).run P w = .ok v' w' ∧ R v' w') (h : ∀ v' w', R v' w' → wpList P ops Q rest (a.put o.dst v') w') : wpList P ops Q (o :: rest) a w := by
  refine wpList_plain hgd fun K hK => ?_
  obtain ⟨v', w', hr, h2⟩ := hrun o.type
  unfold Oper.wp execOp
  simp only [ho, resolve, invoke, builtin, Sem.run_bind, Sem.run_pure, Result.andThen_ok, List.map_toArray, List.map_cons, List.map_nil, hs, hx, hr]
  exact hK _ _ (h v' w' h2)
/-- .. as a step of a region that draws its order -/
theorem step_append_of {P : Program} {ops : Array Oper} {o : Oper} {a : Act} {K : Act → World → Prop} {Q : Exit → Act → World → Prop} {X : Prop} {w : World} (hgd : o.guard = Option.none) (s x : Operand) (t : TypeId)
    (ho : o.op = .call { callee := .builtin .append, args := #[s, x], argTypes := #[t, t] }) {v xv : Value} (hs : a.eval s = v) (hx : a.eval x = xv) {R : Value → World → Prop}
    (hrun : ∀ ty, ∃ v' w', (Builtin.append_ #[t, t] ty #[v, xv]).run P w = .ok v' w' ∧ R v' w') (h : ∀ v' w', R v' w' → K (a.put o.dst v') w') : if Region.wanted o (yielded ops a.tmps) = true then Oper.wp P o a w K Q else X := by
  have hw : Region.wanted o (yielded ops a.tmps) = true := by simp [Region.wanted, hgd]
  rw [if_pos hw]
  obtain ⟨v', w', hr, h2⟩ := hrun o.type
  unfold Oper.wp execOp
  simp only [ho, resolve, invoke, builtin, Sem.run_bind, Sem.run_pure, Result.andThen_ok, List.map_toArray, List.map_cons, List.map_nil, hs, hx, hr]
  exact h v' w' h2

/-- what an append leaves -/
def AppR {α : Type} (b : Bool) (A : Nat → Prop) (E : Repr α) (e : TypeId) (B : Nat) (w : World) (v : Value) (zs : List α) (v' : Value) (w' : World) : Prop :=
  OwnA b A E e B w' v' zs ∧ w.grownBy w' v.ownBlock ∧ (v'.ownBlock = v.ownBlock ∨ v'.ownBlock = some w.heap.size)
/-- 'append(s, x...)', s of the call's own: its elements are slices, each with its own zone -/
theorem run_appendRowsY {P : Program} (hE : Stable E) (t ty : TypeId) (ht : P.underlying t = some (.slice e)) (hinfo : (P.info? e).map (fun i => (i.zero, i.size, i.bytes)) = some (some zr, 1, 24))
    {w0 : World} {A0 : Nat → Prop} (hA : ∀ k, k < w0.heap.size → A0 k → A k) (hown : OwnA b A0 E e B w0 v xs) (hb : Below w0.heap.size w0 w) {ad : Addr} {cap : Nat} {ys : List α} (Y : Nat → Zone)
    (hyo : ∀ j, j < ys.length → b = true → (Y j).own = true) (hz : ∀ j, j < ys.length → ∀ k, (Y j).Has k → A k ∧ k < w.heap.size ∧ v.ownBlock ≠ some k) (hap : b = true → ∀ j, j < ys.length → ∀ k, (Y j).Has k → k < w0.heap.size → ¬ A0 k)
    (k6 : b = true → ∀ i j, i < j → j < ys.length → (Y i).Apart (Y j)) (hex : ∀ j, j < ys.length → ∃ u, w.cell? (ad.add j) = some (slV u) ∧ ∀ hj : j < ys.length, E (Y j) w (slV u) ys[j]) (g1 : ys.length ≤ cap) (g2 : cap ≤ maxLen)
    (hn : xs.length + ys.length ≤ 1099511627776) (hB : B ≤ w0.heap.size) (hzr : zr.cells.size = 1 := by rfl) :
    ∃ v' w', (Builtin.append_ #[t, t] ty #[v, .slice (some ad) ys.length cap]).run P w = .ok v' w' ∧ AppR b A E e B w v (xs ++ ys) v' w' := by
  obtain ⟨i, hi, hz0, hz1, hz2⟩ := info_parts hinfo
  obtain ⟨us, Z, hl, hop, h1, h2, h3⟩ := hown
  have hop' := hop.below hb
  have hsz := hb.size
  obtain ⟨us2, hl2, hus2⟩ := choose_list hex
  have hbb : (us.length + ys.length) * 24 ≤ 140737488355328 := by omega
  have hc1 : ∀ j u, (us2.map slV)[j]? = some u → w.cell? (ad.add j) = some u := by
    intro j u hu
    rw [List.getElem?_map] at hu
    obtain ⟨y, hy, rfl⟩ := Option.map_eq_some_iff.1 hu
    obtain ⟨hj, rfl⟩ := List.getElem?_eq_some_iff.1 hy
    exact (hus2 j hj).1
  have hc2 : ∀ u ∈ us2.map slV, u.oneCell' = true := by
    intro u hu
    obtain ⟨y, _, rfl⟩ := List.mem_map.1 hu
    rfl
  obtain ⟨v', w', hrun, hv', hg, -, hat⟩ := run_append_own_at (P := P) w B t ty e i zr 1 24 ht hi hz0 hz1 hz2 hzr (by omega) v us.length (us.map slV) hop' ad ys.length cap (us2.map slV) (by simp [hl2]) hc1 hc2 (by unfold maxLen; omega) hbb (by omega)
  refine ⟨v', w', hrun, ?_⟩
  · have hgs := hg.size
    have hne : ∀ k, k < w.heap.size → v.ownBlock ≠ some k → v'.ownBlock ≠ some k := fun k hk hn e => by
      rcases hat with hat | hat
      · exact hn (hat ▸ e)
      · rw [hat] at e; injection e with e; omega
    refine ⟨?_, hg, hat⟩
    have hus : OwnP slV e B w' v' (us ++ us2) := by
      unfold OwnP
      rw [List.length_append, List.map_append, hl2]
      exact hv'
    refine ⟨us ++ us2, fun j => if j < xs.length then Z j else Y (j - xs.length), by simp [hl, hl2], hus, fun j hj => ?_, fun ho i j hij hj => ?_, fun j hj hj' => ?_⟩
    · by_cases hjx : j < xs.length
      · simp only [hjx, if_true]
        exact ⟨(h1 j hjx).1, fun k hk => by obtain ⟨q1, q2, q3⟩ := (h1 j hjx).2 k hk; exact ⟨hA k q2 q1, by omega, hne k (by omega) q3⟩⟩
      · simp only [hjx, if_false]
        have hjy : j - xs.length < ys.length := by simp at hj; omega
        exact ⟨fun hb => hyo _ hjy hb, fun k hk => by obtain ⟨q1, q2, q3⟩ := hz _ hjy k hk; exact ⟨q1, by omega, hne k q2 q3⟩⟩
    · by_cases hix : i < xs.length
      · by_cases hjx : j < xs.length
        · simp only [hix, hjx, if_true]; exact h2 ho i j hij hjx
        · simp only [hix, hjx, if_true, if_false]
          have hjy : j - xs.length < ys.length := by simp at hj; omega
          intro k q1 q2
          exact hap ho _ hjy k q2 ((h1 i hix).2 k q1).2.1 ((h1 i hix).2 k q1).1
      · have hjx : ¬ j < xs.length := by omega
        simp only [hix, hjx, if_false]
        exact k6 ho _ _ (by omega) (by simp at hj; omega)
    · by_cases hjx : j < xs.length
      · have e1 : (us ++ us2)[j] = us[j]'(by omega) := List.getElem_append_left (by omega)
        have e2 : (xs ++ ys)[j] = xs[j] := List.getElem_append_left hjx
        simp only [hjx, if_true]
        rw [e1, e2]
        exact hE.keep (h3 j hjx (by omega)) (fun k hk hlt => by rw [hg.block k (by omega) (fun e => ((h1 j hjx).2 k hk).2.2 e.symm)]; exact hb.block k hlt)
      · have hjy : j - xs.length < ys.length := by simp at hj; omega
        have e1 : (us ++ us2)[j] = us2[j - us.length]'(by omega) := List.getElem_append_right (by omega)
        have e2 : (xs ++ ys)[j] = ys[j - xs.length] := List.getElem_append_right (by omega)
        simp only [hjx, if_false]
        rw [e1, e2]
        have := (hus2 (j - xs.length) (by omega)).2 hjy
        simp only [hl]
        exact hE.keep this (fun k hk hlt => hg.block k hlt (fun e => (hz _ hjy k hk).2.2 e.symm))
/-- 'append(s, x...)', s of the call's own: its elements are slices -/
theorem run_appendRowsZ {P : Program} (hE : Stable E) (hsl : SlRepr E) (t ty : TypeId) (ht : P.underlying t = some (.slice e)) (hinfo : (P.info? e).map (fun i => (i.zero, i.size, i.bytes)) = some (some zr, 1, 24))
    {w0 : World} {A0 : Nat → Prop} (hA : ∀ k, k < w0.heap.size → A0 k → A k) (hown : OwnA b A0 E e B w0 v xs) (hb : Below w0.heap.size w0 w) {Zn : Zone} {xv : Value} {ys : List α} (hr : SliceR E Zn w xv ys)
    (hzo : b = true → Zn.own = true) (hz : ∀ k, Zn.Has k → A k ∧ k < w.heap.size ∧ v.ownBlock ≠ some k) (hap : b = true → ∀ k, Zn.Has k → k < w0.heap.size → ¬ A0 k)
    (hn : xs.length + ys.length ≤ 1099511627776) (hB : B ≤ w0.heap.size) (hzr : zr.cells.size = 1 := by rfl) :
    ∃ v' w', (Builtin.append_ #[t, t] ty #[v, xv]).run P w = .ok v' w' ∧ AppR b A E e B w v (xs ++ ys) v' w' := by
  obtain ⟨i, hi, hz0, hz1, hz2⟩ := info_parts hinfo
  have hown0 := hown
  obtain ⟨us, Z, hl, hop, h1, h2, h3⟩ := hown
  have hop' := hop.below hb
  have hsz := hb.size
  obtain ⟨ad, cap, rfl, g1, g2, g3, g4⟩ := hr
  cases ad with
  | none =>
    obtain ⟨rfl, rfl⟩ := g3 rfl
    have hrun := run_append_owned_none (P := P) w B t ty e i 1 ht hi _ _ _ hop'
    exact ⟨v, w, hrun, by rw [List.append_nil]; exact OwnA.below hE ⟨us, Z, hl, hop, fun i hi => ⟨(h1 i hi).1, fun k hk => ⟨hA k ((h1 i hi).2 k hk).2.1 ((h1 i hi).2 k hk).1, ((h1 i hi).2 k hk).2⟩⟩, h2, h3⟩ hb, World.grownBy.refl _ _, .inl rfl⟩
  | some ad =>
    have hex : ∃ (Y : Nat → Zone), (∀ j, j < ys.length → (Y j).Sub Zn) ∧ (Zn.own = true → ∀ i j, i < j → j < ys.length → (Y i).Apart (Y j)) ∧ ∀ j, j < ys.length → ∃ u, w.cell? (ad.add j) = some (slV u) ∧ ∀ hj : j < ys.length, E (Y j) w (slV u) ys[j] := by
      rcases Nat.eq_zero_or_pos ys.length with h0 | hp
      · exact ⟨fun _ => Zn, fun j hj => by omega, fun _ i j _ hj => by omega, fun j hj => by omega⟩
      · obtain ⟨k1, k2, k3, k4, Y, k5, k6, k7⟩ := g4 ad rfl hp
        refine ⟨Y, k5, fun ho => (k6 ho).2, fun j hj => ?_⟩
        obtain ⟨u, c1, c2⟩ := k7 j hj
        obtain ⟨u', rfl⟩ := hsl c2
        obtain ⟨bl, off, sp⟩ := ad
        simp only at k1; subst k1
        exact ⟨u', by rw [Addr.add_lit]; exact c1, fun _ => c2⟩
    obtain ⟨Y, k5, k6, hex⟩ := hex
    exact run_appendRowsY hE t ty ht hinfo hA hown0 hb Y (fun j hj ho => (k5 j hj).2 (hzo ho)) (fun j hj k hk => hz k ((k5 j hj).1 k hk)) (fun ho j hj k hk => hap ho k ((k5 j hj).1 k hk)) (fun ho => k6 (hzo ho)) hex g1 g2 hn hB hzr
/-- 'append(s, x...)', s of the call's own: its elements are slices -/
theorem run_appendRows {P : Program} (hE : Stable E) (hsl : SlRepr E) (t ty : TypeId) (ht : P.underlying t = some (.slice e)) (hinfo : (P.info? e).map (fun i => (i.zero, i.size, i.bytes)) = some (some zr, 1, 24))
    {w0 : World} (hown : OwnA b A E e B w0 v xs) (hb : Below w0.heap.size w0 w) {Zn : Zone} {xv : Value} {ys : List α} (hr : SliceR E Zn w xv ys)
    (hzo : b = true → Zn.own = true) (hz : ∀ k, Zn.Has k → A k ∧ k < w.heap.size ∧ v.ownBlock ≠ some k) (hap : b = true → w0.heap.size ≤ Zn.lo)
    (hn : xs.length + ys.length ≤ 1099511627776) (hB : B ≤ w0.heap.size) (hzr : zr.cells.size = 1 := by rfl) :
    ∃ v' w', (Builtin.append_ #[t, t] ty #[v, xv]).run P w = .ok v' w' ∧ AppR b A E e B w v (xs ++ ys) v' w' :=
  run_appendRowsZ hE hsl t ty ht hinfo (fun _ _ h => h) hown hb hr hzo hz (fun ho k h1 h2 => absurd (Nat.le_trans (hap ho) h1.1) (by omega)) hn hB hzr

/-- 'append(s, x...)', s of the call's own: its elements are slices -/
theorem wpList_appendRows {P : Program} {ops : Array Oper} {rest : List Oper} {o : Oper} {a : Act} {Q : Exit → Act → World → Prop} (hE : Stable E) (hsl : SlRepr E) (hgd : o.guard = Option.none) (s x : Operand) (t : TypeId)
    (ho : o.op = .call { callee := .builtin .append, args := #[s, x], argTypes := #[t, t] }) (ht : P.underlying t = some (.slice e)) (hinfo : (P.info? e).map (fun i => (i.zero, i.size, i.bytes)) = some (some zr, 1, 24))
    (hs : a.eval s = v) {w0 : World} (hown : OwnA b A E e B w0 v xs) (hb : Below w0.heap.size w0 w) {Zn : Zone} {xv : Value} {ys : List α} (hx : a.eval x = xv) (hr : SliceR E Zn w xv ys)
    (hzo : b = true → Zn.own = true) (hz : ∀ k, Zn.Has k → A k ∧ k < w.heap.size ∧ v.ownBlock ≠ some k) (hap : b = true → w0.heap.size ≤ Zn.lo)
    (hn : xs.length + ys.length ≤ 1099511627776) (hB : B ≤ w0.heap.size)
    (h : ∀ v' w', OwnA b A E e B w' v' (xs ++ ys) → w.grownBy w' v.ownBlock → (v'.ownBlock = v.ownBlock ∨ v'.ownBlock = some w.heap.size) → wpList P ops Q rest (a.put o.dst v') w') (hzr : zr.cells.size = 1 := by rfl) : wpList P ops Q (o :: rest) a w :=
  wpList_append_of hgd s x t ho hs hx (fun ty => run_appendRows hE hsl t ty ht hinfo hown hb hr hzo hz hap hn hB hzr) (fun v' w' h' => h v' w' h'.1 h'.2.1 h'.2.2)

/-- one slice in a block of its own -/
theorem SliceR.one (hE : Stable E) {Zn : Zone} {u : Option Addr × Nat × Nat} {y : α} (h : E Zn w (slV u) y) (hb : Zn.hi ≤ w.heap.size) {lo : Nat} (hlo : lo ≤ Zn.lo) (hlo' : lo ≤ w.heap.size) : SliceR E ⟨lo, w.heap.size + 1, Zn.own⟩ (w.alloc (.cells #[slV u] e)) (.slice (some ⟨w.heap.size, 0, Option.none⟩) 1 1) [y] := by
  refine ⟨some ⟨w.heap.size, 0, Option.none⟩, 1, rfl, Nat.le_refl _, by unfold maxLen; omega, (fun h => by cases h), fun ad had _ => ?_⟩
  cases had
  refine ⟨rfl, ⟨hlo', Nat.lt_succ_self _⟩, by simp, fun _ i hi => frozen_of_row _ _ _ #[slV u] e (heap_alloc_new w _), fun _ => Zn, fun i hi => ⟨fun k hk => ⟨Nat.le_trans hlo hk.1, by have h2 : k < Zn.hi := hk.2; show k < w.heap.size + 1; omega⟩, fun h => h⟩, fun _ => ⟨fun i hi hk => by have := hk.2; simp only at this; omega, fun i j hij hj => by simp at hj; omega⟩, fun i hi => ?_⟩
  have : i = 0 := by simpa using hi
  subst this
  refine ⟨slV u, ?_, hE.below h ((Below.refl _ _).alloc (Nat.le_refl _) _)⟩
  show (w.alloc _).cell? ⟨w.heap.size, 0 + 0, Option.none⟩ = _
  simp

/-- 'append(s, y)', s of the call's own, y what has just been made -/
theorem wpList_appendRowA {P : Program} {ops : Array Oper} {rest : List Oper} {o : Oper} {a : Act} {Q : Exit → Act → World → Prop} (hE : Stable E) (hsl : SlRepr E) (hgd : o.guard = Option.none) (s x : Operand) (t : TypeId)
    (ho : o.op = .call { callee := .builtin .append, args := #[s, x], argTypes := #[t, t] }) (ht : P.underlying t = some (.slice e)) (hinfo : (P.info? e).map (fun i => (i.zero, i.size, i.bytes)) = some (some zr, 1, 24))
    (hs : a.eval s = v) {w0 : World} (hown : OwnA b A E e B w0 v xs) (hb : Below w0.heap.size w0 w) (u : Option Addr × Nat × Nat) (y : α) (hu : E (.new w0 w) w (slV u) y) (hx : a.eval x = .slice (some ⟨w.heap.size, 0, Option.none⟩) 1 1)
    (hn : xs.length + 1 ≤ 1099511627776) (hL : ∀ k, w0.heap.size ≤ k → A k) (hB : B ≤ w0.heap.size)
    (h : ∀ v' w', OwnA b A E e B w' v' (xs ++ [y]) → Below B w0 w' → w.heap.size ≤ w'.heap.size → w.grownBy w' v.ownBlock → (∀ k, v'.ownBlock = some k → v.ownBlock = some k ∨ w.heap.size ≤ k) → wpList P ops Q rest (a.put o.dst v') w') (hzr : zr.cells.size = 1 := by rfl) : wpList P ops Q (o :: rest) a (w.alloc (.cells #[slV u] e)) := by
  have hsz := hb.size
  have hbk := hown.block
  refine wpList_appendRows hE hsl hgd s x t ho ht hinfo hs hown (hb.alloc hsz _) hx (SliceR.one hE hu (Nat.le_refl _) (Nat.le_refl _) hsz) (fun _ => rfl) (fun k hk => ?_) (fun _ => Nat.le_refl _) hn hB (fun v' w' ho' hg hat => ?_) hzr
  · have q1 := hk.1
    have q2 := hk.2
    simp only [Zone.new] at q1 q2
    refine ⟨hL k (by omega), by simpa using q2, fun e => ?_⟩
    have := (hbk k e).2
    omega
  · have hg' : w.grownBy w' v.ownBlock := grownBy_trans (World.grownBy_alloc w _ _) hg
    refine h v' w' ho' ((hb.mono hB).grown hg' (by omega) (fun k hk => (hbk k hk).1)) hg'.size hg' (fun k hk => ?_)
    rcases hat with hat | hat
    · exact .inl (hat ▸ hk)
    · right; rw [hat] at hk; injection hk with hk; simp at hk; omega

/-- what lies in a zone that is not written stays -/
theorem Same.grown {z : Zone} {a w w' : World} {row : Option Nat} (h : Same z a w) (hs : a.heap.size ≤ w.heap.size) (hg : w.grownBy w' row) (ho : ∀ k, row = some k → ¬ z.Has k) : Same z a w' :=
  fun k hk hl => (hg.block k (Nat.lt_of_lt_of_le hl hs) (fun e => ho k e.symm hk)).trans (h k hk hl)
theorem Same.below {z : Zone} {a w w' : World} (h : Same z a w) (hs : a.heap.size ≤ w.heap.size) (hb : Below w.heap.size w w') : Same z a w' :=
  fun k hk hl => (hb.block k (Nat.lt_of_lt_of_le hl hs)).trans (h k hk hl)
theorem Same.refl (z : Zone) (w : World) : Same z w w := fun _ _ _ => rfl
/-- the slice's own block lies before lo or from hi on -/
def Off (v : Value) (lo hi : Nat) : Prop := ∀ k, v.ownBlock = some k → k < lo ∨ hi ≤ k
theorem Off.not {v : Value} {w w' : World} (h : Off v w.heap.size w'.heap.size) : ∀ k, v.ownBlock = some k → ¬ (Zone.new w w').Has k := fun k hk hh => by
  have h1 := hh.1; have h2 := hh.2; simp only [Zone.new] at h1 h2
  rcases h k hk with h | h <;> omega
theorem Off.next {v v' : Value} {lo hi n : Nat} (h : Off v lo hi) (hn : hi ≤ n) (ha : ∀ k, v'.ownBlock = some k → v.ownBlock = some k ∨ n ≤ k) : Off v' lo hi := fun k hk => by
  rcases ha k hk with h' | h'
  · exact h k h'
  · right; omega
theorem Off.of {v : Value} {lo hi : Nat} (h : ∀ k, v.ownBlock = some k → k < lo) : Off v lo hi := fun k hk => .inl (h k hk)

/-- what an append of one row leaves -/
def AppA1 {α : Type} (b : Bool) (A : Nat → Prop) (E : Repr α) (e : TypeId) (B : Nat) (w0 w : World) (v : Value) (zs : List α) (v' : Value) (w' : World) : Prop :=
  OwnA b A E e B w' v' zs ∧ Below B w0 w' ∧ w.heap.size ≤ w'.heap.size ∧ w.grownBy w' v.ownBlock ∧ ∀ k, v'.ownBlock = some k → v.ownBlock = some k ∨ w.heap.size ≤ k
theorem run_appendRowA {P : Program} (hE : Stable E) (hsl : SlRepr E) (t ty : TypeId) (ht : P.underlying t = some (.slice e)) (hinfo : (P.info? e).map (fun i => (i.zero, i.size, i.bytes)) = some (some zr, 1, 24))
    {w0 : World} (hown : OwnA b A E e B w0 v xs) (hb : Below w0.heap.size w0 w) {u : Option Addr × Nat × Nat} {y : α} (hu : E (.new w0 w) w (slV u) y) {g : Nat} (hg : w.heap.size = g)
    (hn : xs.length + 1 ≤ 1099511627776) (hL : ∀ k, w0.heap.size ≤ k → A k) (hB : B ≤ w0.heap.size) (hzr : zr.cells.size = 1 := by rfl) :
    ∃ v' w', (Builtin.append_ #[t, t] ty #[v, .slice (some ⟨g, 0, Option.none⟩) 1 1]).run P (w.alloc (.cells #[slV u] e)) = .ok v' w' ∧ AppA1 b A E e B w0 w v (xs ++ [y]) v' w' := by
  subst hg
  have hsz := hb.size
  have hbk := hown.block
  have hz : ∀ k, (Zone.Has ⟨w0.heap.size, w.heap.size + 1, (Zone.new w0 w).own⟩ k) → A k ∧ k < (w.alloc (.cells #[slV u] e)).heap.size ∧ v.ownBlock ≠ some k := fun k hk => by
    have q1 := hk.1
    have q2 := hk.2
    simp only at q1 q2
    refine ⟨hL k (by omega), by simpa using q2, fun e => ?_⟩
    have := (hbk k e).2
    omega
  obtain ⟨v', w', hrun, ho', hg, hat⟩ := run_appendRows (P := P) (ty := ty) hE hsl t ht hinfo hown (hb.alloc hsz (.cells #[slV u] e)) (SliceR.one (e := e) hE hu (Nat.le_refl _) (Nat.le_refl _) hsz) (fun _ => rfl) hz (fun _ => Nat.le_refl _) hn hB hzr
  have hg' : w.grownBy w' v.ownBlock := grownBy_trans (World.grownBy_alloc w _ _) hg
  refine ⟨v', w', hrun, ho', (hb.mono hB).grown hg' (by omega) (fun k hk => (hbk k hk).1), hg'.size, hg', fun k hk => ?_⟩
  rcases hat with hat | hat
  · exact .inl (hat ▸ hk)
  · right; rw [hat] at hk; injection hk with hk; simp at hk; omega
end
/-- .. from block L on -/
abbrev OwnR {α : Type} (b : Bool) (L : Nat) (E : Repr α) (e : TypeId) (B : Nat) (w : World) (v : Value) (xs : List α) : Prop := OwnA b (fun k => L ≤ k) E e B w v xs
section
variable {α : Type} {b : Bool} {L : Nat} {E : Repr α} {e : TypeId} {B : Nat} {w w' : World} {v : Value} {xs : List α} {zr : Value}
theorem OwnR.reads (h : OwnR b L E e B w v xs) (hL : L ≤ B) : SliceR E ⟨L, w.heap.size, b⟩ w v xs := OwnA.reads h (fun _ h => h) hL
theorem OwnR.none : OwnR b L E e B w (.slice none 0 0) [] := OwnA.none
theorem OwnR.empty (hB : B ≤ w.heap.size) : OwnR b L E e B (w.alloc (.cells #[] e)) (.slice (some ⟨w.heap.size, 0, Option.none⟩) 0 0) [] := OwnA.empty hB
theorem OwnR.below (hE : Stable E) (h : OwnR b L E e B w v xs) (hb : Below w.heap.size w w') : OwnR b L E e B w' v xs := OwnA.below hE h hb
theorem OwnR.block (h : OwnR b L E e B w v xs) : ∀ k, v.ownBlock = some k → B ≤ k ∧ k < w.heap.size := OwnA.block h
theorem OwnR.shape (h : OwnR b L E e B w v xs) : ∃ (a : Option Addr) (n cap : Nat), v = .slice a n cap ∧ n = xs.length ∧ n ≤ 9223372036854775807 := OwnA.shape h
abbrev App1 {α : Type} (b : Bool) (L : Nat) (E : Repr α) (e : TypeId) (B : Nat) (w0 w : World) (v : Value) (zs : List α) (v' : Value) (w' : World) : Prop := AppA1 b (fun k => L ≤ k) E e B w0 w v zs v' w'
theorem run_appendRow {P : Program} (hE : Stable E) (hsl : SlRepr E) (t ty : TypeId) (ht : P.underlying t = some (.slice e)) (hinfo : (P.info? e).map (fun i => (i.zero, i.size, i.bytes)) = some (some zr, 1, 24))
    {w0 : World} (hown : OwnR b L E e B w0 v xs) (hb : Below w0.heap.size w0 w) {u : Option Addr × Nat × Nat} {y : α} (hu : E (.new w0 w) w (slV u) y) {g : Nat} (hg : w.heap.size = g)
    (hn : xs.length + 1 ≤ 1099511627776) (hL : L ≤ w0.heap.size) (hB : B ≤ w0.heap.size) (hzr : zr.cells.size = 1 := by rfl) :
    ∃ v' w', (Builtin.append_ #[t, t] ty #[v, .slice (some ⟨g, 0, Option.none⟩) 1 1]).run P (w.alloc (.cells #[slV u] e)) = .ok v' w' ∧ App1 b L E e B w0 w v (xs ++ [y]) v' w' :=
  run_appendRowA hE hsl t ty ht hinfo hown hb hu hg hn (fun k hk => Nat.le_trans hL hk) hB hzr
theorem wpList_appendRow {P : Program} {ops : Array Oper} {rest : List Oper} {o : Oper} {a : Act} {Q : Exit → Act → World → Prop} (hE : Stable E) (hsl : SlRepr E) (hgd : o.guard = Option.none) (s x : Operand) (t : TypeId)
    (ho : o.op = .call { callee := .builtin .append, args := #[s, x], argTypes := #[t, t] }) (ht : P.underlying t = some (.slice e)) (hinfo : (P.info? e).map (fun i => (i.zero, i.size, i.bytes)) = some (some zr, 1, 24))
    (hs : a.eval s = v) {w0 : World} (hown : OwnR b L E e B w0 v xs) (hb : Below w0.heap.size w0 w) (u : Option Addr × Nat × Nat) (y : α) (hu : E (.new w0 w) w (slV u) y) (hx : a.eval x = .slice (some ⟨w.heap.size, 0, Option.none⟩) 1 1)
    (hn : xs.length + 1 ≤ 1099511627776) (hL : L ≤ w0.heap.size) (hB : B ≤ w0.heap.size)
    (h : ∀ v' w', OwnR b L E e B w' v' (xs ++ [y]) → Below B w0 w' → w.heap.size ≤ w'.heap.size → w.grownBy w' v.ownBlock → (∀ k, v'.ownBlock = some k → v.ownBlock = some k ∨ w.heap.size ≤ k) → wpList P ops Q rest (a.put o.dst v') w') (hzr : zr.cells.size = 1 := by rfl) : wpList P ops Q (o :: rest) a (w.alloc (.cells #[slV u] e)) :=
  wpList_appendRowA hE hsl hgd s x t ho ht hinfo hs hown hb u y hu hx hn (fun k hk => Nat.le_trans hL hk) hB h hzr
/-- the same under another condition on the blocks -/
theorem OwnA.weaken {A A' : Nat → Prop} (h : OwnA b A E e B w v xs) (hA : ∀ k, k < w.heap.size → A k → A' k) : OwnA b A' E e B w v xs := by
  obtain ⟨us, Z, hl, ho, h1, h2, h3⟩ := h
  exact ⟨us, Z, hl, ho, fun i hi => ⟨(h1 i hi).1, fun k hk => ⟨hA k ((h1 i hi).2 k hk).2.1 ((h1 i hi).2 k hk).1, ((h1 i hi).2 k hk).2⟩⟩, h2, h3⟩
/-- what is written outside -/
theorem OwnA.outside {A : Nat → Prop} (hE : Stable E) (h : OwnA b A E e B w v xs) {g : Nat} (hg : ∀ k, k < w.heap.size → k ≠ g → w'.heap[k]? = w.heap[k]?) (hs : w.heap.size ≤ w'.heap.size) (hA : ¬ A g) (hne : v.ownBlock ≠ some g) : OwnA b A E e B w' v xs := by
  obtain ⟨us, Z, hl, ⟨ho1, ho2⟩, h1, h2, h3⟩ := h
  refine ⟨us, Z, hl, ⟨ho1, ?_⟩, fun i hi => ⟨(h1 i hi).1, fun k hk => ⟨((h1 i hi).2 k hk).1, Nat.lt_of_lt_of_le ((h1 i hi).2 k hk).2.1 hs, ((h1 i hi).2 k hk).2.2⟩⟩, h2, fun i hi hi' => hE.keep (h3 i hi hi') (fun k hz hlt => hg k hlt (fun e => hA (e ▸ ((h1 i hi).2 k hz).1)))⟩
  rcases ho2 with h | ⟨g', cap, cur, hv, hb, hgg, r⟩
  · exact .inl h
  · refine .inr ⟨g', cap, cur, hv, hb, ?_, r⟩
    rw [hg g' (Array.getElem?_eq_some_iff.1 hgg).1 (fun e => hne (by rw [hv, e]; rfl))]; exact hgg
end
theorem OwnR.rows {e : TypeId} {B : Nat} {w : World} {v : Value} {xss : List (List Int)} (h : OwnR true B IntsR e B w v xss) : RowsR ⟨B, w.heap.size, true⟩ w v xss := OwnR.reads h (Nat.le_refl _)

/-- 'append(s, x...)', s of the call's own, x any slice that reads as ys: its run -/
theorem run_appendP {α : Type} {f : α → Value} {e : TypeId} {B : Nat} {w : World} {v : Value} {xs : List α} {P : Program} (t ty : TypeId) (x0 : α) (bytes : Nat) (ht : P.underlying t = some (.slice e)) (hinfo : (P.info? e).map (fun i => (i.zero, i.size, i.bytes)) = some (some (f x0), 1, bytes))
    (hcell : (f x0).cells = #[f x0]) (h1 : ∀ x, (f x).oneCell' = true) (hown : OwnP f e B w v xs) {E : Repr α} (hE : ∀ {z w u x}, E z w u x → u = f x) {z : Zone} {xv : Value} {ys : List α} (hr : SliceR E z w xv ys)
    (hn : xs.length + ys.length ≤ 1099511627776) (hby : bytes ≤ 64) (hB : B ≤ w.heap.size) :
    ∃ v' w', (Builtin.append_ #[t, t] ty #[v, xv]).run P w = .ok v' w' ∧ OwnP f e B w' v' (xs ++ ys) ∧ w.grownBy w' v.ownBlock ∧ Below B w w' := by
  obtain ⟨i, hi, hz0, hz1, hz2⟩ := info_parts hinfo
  have hbb : (xs.length + ys.length) * bytes ≤ 140737488355328 := Nat.le_trans (Nat.mul_le_mul hn hby) (by omega)
  obtain ⟨ad, n, cap, rfl, hn', -, -, -, hnone, hel⟩ := SliceR.shape hr
  cases ad with
  | some ad =>
    subst hn'
    have hc1 : ∀ j u, (ys.map f)[j]? = some u → w.cell? (ad.add j) = some u := by
      intro j u hu
      rw [List.getElem?_map] at hu
      obtain ⟨y, hy, rfl⟩ := Option.map_eq_some_iff.1 hu
      obtain ⟨hj, rfl⟩ := List.getElem?_eq_some_iff.1 hy
      obtain ⟨b, off, he, _, _, _, u', y', hc, _, _, hu'⟩ := hel j hj
      injection he with he
      subst he
      rw [Addr.add_lit, hc, hE hu']
    have hc2 : ∀ u ∈ ys.map f, u.oneCell' = true := by
      intro u hu
      obtain ⟨y, _, rfl⟩ := List.mem_map.1 hu
      exact h1 y
    obtain ⟨v', w', hrun, hv', hg, -⟩ := run_append_own (P := P) w B t ty e i (f x0) 1 bytes ht hi hz0 hz1 hz2 (by rw [hcell]; rfl) (by omega) v xs.length (xs.map f) hown ad ys.length cap (ys.map f) (by simp) hc1 hc2 (by unfold maxLen; omega) hbb hB
    refine ⟨v', w', hrun, ?_, hg, (Below.refl _ _).grown hg hB (fun k hk => (hown.block k hk).1)⟩
    unfold OwnP
    rw [List.length_append, List.map_append]
    exact hv'
  | none =>
    obtain ⟨rfl, rfl⟩ := hnone rfl
    obtain rfl : ys = [] := List.eq_nil_of_length_eq_zero hn'.symm
    have hrun := run_append_owned_none (P := P) w B t ty e i 1 ht hi _ _ _ hown
    exact ⟨v, w, hrun, by simpa using hown, World.grownBy.refl _ _, Below.refl _ _⟩
end Go.Proofs.YtnndaboaeijbkaaDoor
