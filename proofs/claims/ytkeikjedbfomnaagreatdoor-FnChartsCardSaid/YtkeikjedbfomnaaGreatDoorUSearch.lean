/- Proved: a search for designs in memory. -/
import Derived.Test.YtkeikjedbfomnaaGreatDoorChecked
import Derived.Test.YtkeikjedbfomnaaGreatDoorUSearchLaw
import Derived.Test.YtkeikjedbfomnaaGreatDoorUCands
import Derived.Test.YtkeikjedbfomnaaGreatDoorURowsOf
import Derived.Test.YtkeikjedbfomnaaGreatDoorUEachLaw
namespace Go.Proofs.YtkeikjedbfomnaaGreatDoor
open Go.ChangeShapes Go.WideShapes Go.ChangeAt Go.RowKit
set_option linter.unusedVariables false

theorem Tryz.infoRows : (Tryz.prog.info? 24).map (fun i => (i.zero, i.size, i.bytes)) = some (some (.slice none 0 0), 1, 24) := by kernel_rfl
/-- the lists of rows that are found, each in blocks of A -/
def FoundAt (A : Nat → Prop) (w : World) (vf : Value) (fs : List (List (List Int))) : Prop :=
  ∃ us : List (Option Addr × Nat × Nat), us.length = fs.length ∧ OwnP slV 24 0 w vf us ∧ ∀ i (hi : i < fs.length) (hu : i < us.length), RowsA A w (slV us[i]) fs[i]
/-- block g holds a search -/
structure SrchAt (A : Nat → Prop) (g : Nat) (mk : MK) (v : Value) (limit most : Int) (st : SS) (vf : Value) (w : World) : Prop where
  sys : SysAt w g mk v
  c6 : w.cell? ⟨g, 6, none⟩ = some (.int .i64 limit)
  c7 : w.cell? ⟨g, 7, none⟩ = some (.int .i64 most)
  c8 : w.cell? ⟨g, 8, none⟩ = some (.int .i64 st.tries)
  c9 : w.cell? ⟨g, 9, none⟩ = some (.bool st.over)
  c10 : w.cell? ⟨g, 10, none⟩ = some vf
  f8 : w.frozen? ⟨g, 8, none⟩ = false
  f9 : w.frozen? ⟨g, 9, none⟩ = false
  f10 : w.frozen? ⟨g, 10, none⟩ = false
  found : FoundAt A w vf st.found
  off : ∀ k, A k → k ≠ g ∧ vf.ownBlock ≠ some k
  apart : vf.ownBlock ≠ some g
  lim : ∀ k, A k → k < w.heap.size
/-- the blocks that a search writes -/
def SF (g : Nat) (vf : Value) (k : Nat) : Prop := k = g ∨ vf.ownBlock = some k
theorem FoundAt.keep {A : Nat → Prop} {w w' : World} {vf : Value} {fs : List (List (List Int))} (h : FoundAt A w vf fs) (hs : w.heap.size ≤ w'.heap.size) (hv : ∀ k, vf.ownBlock = some k → k < w.heap.size → w'.heap[k]? = w.heap[k]?) (hb : ∀ k, A k → k < w.heap.size → w'.heap[k]? = w.heap[k]?) : FoundAt A w' vf fs := by
  obtain ⟨us, h1, ⟨h2, h3⟩, h4⟩ := h
  refine ⟨us, h1, ⟨h2, ?_⟩, fun i hi hu => (h4 i hi hu).keep hs hb⟩
  rcases h3 with h3 | ⟨g, cap, cur, hv', hbg, hg, r⟩
  · exact .inl h3
  · have hgl : g < w.heap.size := (Array.getElem?_eq_some_iff.1 hg).1
    exact .inr ⟨g, cap, cur, hv', hbg, by rw [hv g (by rw [hv']; rfl) hgl]; exact hg, r⟩
theorem FoundAt.mono {A A' : Nat → Prop} {w : World} {vf : Value} {fs : List (List (List Int))} (h : FoundAt A w vf fs) (hA : ∀ k, A k → k < w.heap.size → A' k) : FoundAt A' w vf fs := by
  obtain ⟨us, h1, h2, h4⟩ := h
  exact ⟨us, h1, h2, fun i hi hu => (h4 i hi hu).mono hA⟩
section
variable {A A' : Nat → Prop} {g : Nat} {mk : MK} {v : Value} {limit most : Int} {st : SS} {vf : Value} {w w' : World}
theorem SrchAt.lt (h : SrchAt A g mk v limit most st vf w) : g < w.heap.size := World.block_lt_of_cell? _ _ h.c6
theorem SrchAt.of (h : SrchAt A g mk v limit most st vf w) (hs : w.heap.size ≤ w'.heap.size) (hg : w'.heap[g]? = w.heap[g]?) (hf : FoundAt A w' vf st.found) : SrchAt A g mk v limit most st vf w' :=
  ⟨h.sys.of hg, (World.cell?_of_block hg).trans h.c6, (World.cell?_of_block hg).trans h.c7, (World.cell?_of_block hg).trans h.c8, (World.cell?_of_block hg).trans h.c9, (World.cell?_of_block hg).trans h.c10,
    (World.frozen?_of_block hg).trans h.f8, (World.frozen?_of_block hg).trans h.f9, (World.frozen?_of_block hg).trans h.f10, hf, h.off, h.apart, fun k hk => Nat.lt_of_lt_of_le (h.lim k hk) hs⟩
theorem SrchAt.ext (h : SrchAt A g mk v limit most st vf w) (e : Ext w w') : SrchAt A g mk v limit most st vf w' :=
  h.of e.size (Below.block e g h.lt) (h.found.keep e.size (fun k _ hk => Below.block e k hk) (fun k _ hk => Below.block e k hk))
theorem SrchAt.blk (h : SrchAt A g mk v limit most st vf w) : ∀ k, vf.ownBlock = some k → k < w.heap.size := by
  obtain ⟨us, h1, h2, h4⟩ := h.found
  exact fun k hk => (h2.block k hk).2
theorem SrchAt.grow (h : SrchAt A g mk v limit most st vf w) (e : Ext w w') : SrchAt (fun k => A k ∨ (w.heap.size ≤ k ∧ k < w'.heap.size)) g mk v limit most st vf w' := by
  have h' := h.ext e
  refine ⟨h'.sys, h'.c6, h'.c7, h'.c8, h'.c9, h'.c10, h'.f8, h'.f9, h'.f10, h'.found.mono (fun k hk _ => .inl hk), fun k hk => ?_, h'.apart, fun k hk => ?_⟩
  · rcases hk with hk | hk
    · exact h.off k hk
    · exact ⟨by have := h.lt; omega, fun e => by have := h.blk k e; omega⟩
  · rcases hk with hk | hk
    · exact h'.lim k hk
    · exact hk.2
theorem srch_other {i : Nat} {u : Value} {k : Nat} (hk : k ≠ g) : (w.setCell ⟨g, i, none⟩ u).heap[k]? = w.heap[k]? := Below.heap_setCell _ _ _ _ hk
theorem SrchAt.fput (h : SrchAt A g mk v limit most st vf w) (i : Nat) (u : Value) : FoundAt A (w.setCell ⟨g, i, none⟩ u) vf st.found :=
  h.found.keep (by simp [World.setCell]) (fun k hk _ => srch_other (fun e => h.apart (e ▸ hk))) (fun k hk _ => srch_other (h.off k hk).1)
theorem SrchAt.tries (h : SrchAt A g mk v limit most st vf w) (x : Int) : SrchAt A g mk v limit most ⟨x, st.over, st.found⟩ vf (w.setCell ⟨g, 8, none⟩ (.int .i64 x)) := by
  have hf := h.fput 8 (.int .i64 x)
  obtain ⟨⟨s0, s1, s2, s3, s4, s5⟩, c6, c7, c8, c9, c10, f8, f9, f10, -, off, ap, lm⟩ := h
  refine ⟨⟨?_, ?_, ?_, ?_, ?_, ?_⟩, ?_, ?_, World.cell?_setCell_same _ _ _ c8, ?_, ?_, by rw [World.frozen?_setCell]; exact f8, by rw [World.frozen?_setCell]; exact f9, by rw [World.frozen?_setCell]; exact f10, hf, off, ap, by simpa [World.setCell] using lm⟩
  all_goals (rw [World.cell?_setCell_other _ _ _ _ (by simp)]; assumption)
theorem SrchAt.over (h : SrchAt A g mk v limit most st vf w) (x : Bool) : SrchAt A g mk v limit most ⟨st.tries, x, st.found⟩ vf (w.setCell ⟨g, 9, none⟩ (.bool x)) := by
  have hf := h.fput 9 (.bool x)
  obtain ⟨⟨s0, s1, s2, s3, s4, s5⟩, c6, c7, c8, c9, c10, f8, f9, f10, -, off, ap, lm⟩ := h
  refine ⟨⟨?_, ?_, ?_, ?_, ?_, ?_⟩, ?_, ?_, ?_, World.cell?_setCell_same _ _ _ c9, ?_, by rw [World.frozen?_setCell]; exact f8, by rw [World.frozen?_setCell]; exact f9, by rw [World.frozen?_setCell]; exact f10, hf, off, ap, by simpa [World.setCell] using lm⟩
  all_goals (rw [World.cell?_setCell_other _ _ _ _ (by simp)]; assumption)
theorem frame_put {F : Nat → Prop} {a : World} (h : Frame F a w) {i : Nat} {u : Value} (hg : F g) : Frame F a (w.setCell ⟨g, i, none⟩ u) :=
  ⟨h.os, h.tape, h.output, Nat.le_trans h.size (by simp [World.setCell]), fun k hk hn => by
    have hne : k ≠ g := fun e => hn (by rw [e]; exact hg)
    rw [srch_other hne]; exact h.block k hk hn⟩
theorem frame_ext {F : Nat → Prop} {a : World} (h : Frame F a w) (e : Ext w w') : Frame F a w' := h.trans (Frame.of_ext (F := F) e) (fun i hi _ => hi)
/-- 'found = append(found, cuts)' -/
theorem wpList_found {P : Program} {ops : Array Oper} {rest : List Oper} {o : Oper} {a : Act} {Q : Exit → Act → World → Prop} (h : SrchAt A g mk v limit most st vf w) (hgd : o.guard = Option.none) (s x : Operand) (t : TypeId)
    (ho : o.op = .call { callee := .builtin .append, args := #[s, x], argTypes := #[t, t] }) (ht : P.underlying t = some (.slice 24)) (hinfo : (P.info? 24).map (fun i => (i.zero, i.size, i.bytes)) = some (some (.slice Option.none 0 0), 1, 24))
    (hs : a.eval s = vf) (u : Option Addr × Nat × Nat) {cuts : List (List Int)} (hu : RowsA A w (slV u) cuts) (hx : a.eval x = .slice (some ⟨w.heap.size, 0, Option.none⟩) 1 1) (hn : st.found.length ≤ 1000000)
    (hK : ∀ v' w', w'.cell? ⟨g, 10, Option.none⟩ = some vf → w'.frozen? ⟨g, 10, Option.none⟩ = false → SrchAt A g mk v limit most ⟨st.tries, st.over, st.found ++ [cuts]⟩ v' (w'.setCell ⟨g, 10, Option.none⟩ v') → Frame (SF g vf) w (w'.setCell ⟨g, 10, Option.none⟩ v') →
      (∀ k, v'.ownBlock = some k → vf.ownBlock = some k ∨ w.heap.size ≤ k) → wpList P ops Q rest (a.put o.dst v') w') : wpList P ops Q (o :: rest) a (w.alloc (.cells #[slV u] 24)) := by
  obtain ⟨us, hl, hop, hel⟩ := h.found
  have hlt := h.lt
  have hblk := h.blk
  obtain ⟨i, hi, hz0, hz1, hz2⟩ := info_parts hinfo
  have hsz : (w.alloc (.cells #[slV u] 24)).heap.size = w.heap.size + 1 := by simp
  refine wpList_append_of hgd s x t ho hs hx (R := fun v' w' => OwnP slV 24 0 w' v' (us ++ [u]) ∧ (w.alloc (.cells #[slV u] 24)).grownBy w' vf.ownBlock ∧ (v'.ownBlock = vf.ownBlock ∨ v'.ownBlock = some (w.heap.size + 1))) (fun ty => ?_) (fun v' w' h' => ?_)
  · obtain ⟨v', w', hrun, hv', hg, -, hat⟩ := run_append_own_at (P := P) (w.alloc (.cells #[slV u] 24)) 0 t ty 24 i (.slice Option.none 0 0) 1 24 ht hi hz0 hz1 hz2 rfl (by omega) vf us.length (us.map slV) (hop.alloc _) ⟨w.heap.size, 0, Option.none⟩ 1 1 [slV u] (by simp)
      (fun j u' hu' => by
        cases j with
        | zero => rw [Addr.add_zero']; simp at hu'; subst hu'; simp
        | succ j => simp at hu') (fun u' hu' => by rw [List.mem_singleton.1 hu']; rfl) (by unfold maxLen; omega) (by omega) (Nat.zero_le _)
    refine ⟨v', w', hrun, ?_, hg, by rw [hsz] at hat; exact hat⟩
    unfold OwnP
    rw [List.length_append, List.map_append]
    exact hv'
  · obtain ⟨q1, q2, q3⟩ := h'
    have hq : ∀ k, k < w.heap.size → vf.ownBlock ≠ some k → w'.heap[k]? = w.heap[k]? := fun k hk hn => by
      rw [q2.block k (by omega) (fun e => hn e.symm)]
      exact Below.block (Ext.alloc w _) k hk
    have hgg := hq g hlt h.apart
    have hs' := q2.size
    rw [hsz] at hs'
    have hap : v'.ownBlock ≠ some g := fun e => by
      rcases q3 with q | q
      · exact h.apart (q ▸ e)
      · rw [q] at e; injection e with e; omega
    have hA : ∀ k, A k → k < w'.heap.size ∧ k ≠ g ∧ v'.ownBlock ≠ some k ∧ w'.heap[k]? = w.heap[k]? := fun k hk => by
      have h1 := h.lim k hk
      have h2 := h.off k hk
      refine ⟨by omega, h2.1, fun e => ?_, hq k h1 h2.2⟩
      rcases q3 with q | q
      · exact h2.2 (q ▸ e)
      · rw [q] at e; injection e with e; omega
    have hf : FoundAt A w' v' (st.found ++ [cuts]) := by
      refine ⟨us ++ [u], by simp [hl], q1, fun i hi hu' => ?_⟩
      have hmv : ∀ {x t}, RowsA A w x t → RowsA A w' x t := fun r => r.keep (by omega) (fun k hk _ => (hA k hk).2.2.2)
      by_cases e : i < st.found.length
      · rw [List.getElem_append_left e, List.getElem_append_left (by omega)]
        exact hmv (hel i e (by omega))
      · have e2 : i = st.found.length := by simp at hi; omega
        subst e2
        rw [List.getElem_append_right (by omega), List.getElem_append_right (by omega)]
        simp only [hl, Nat.sub_self, List.getElem_cons_zero]
        exact hmv hu
    have c10' : w'.cell? ⟨g, 10, Option.none⟩ = some vf := (World.cell?_of_block hgg).trans h.c10
    refine hK v' w' c10' ((World.frozen?_of_block hgg).trans h.f10) ?_ ?_ (fun k hk => ?_)
    · obtain ⟨⟨s0, s1, s2, s3, s4, s5⟩, c6, c7, c8, c9, c10, f8, f9, f10, -, off, ap, lm⟩ := h
      refine ⟨⟨?_, ?_, ?_, ?_, ?_, ?_⟩, ?_, ?_, ?_, ?_, World.cell?_setCell_same _ _ _ c10', ?_, ?_, ?_, hf.keep (by simp [World.setCell]) (fun k hk _ => srch_other (fun e => hap (e ▸ hk))) (fun k hk _ => srch_other (hA k hk).2.1), fun k hk => ⟨(hA k hk).2.1, (hA k hk).2.2.1⟩, hap, fun k hk => by have := (hA k hk).1; simpa [World.setCell] using this⟩
      any_goals (rw [World.cell?_setCell_other _ _ _ _ (by simp)]; exact (World.cell?_of_block hgg).trans (by assumption))
      all_goals (rw [World.frozen?_setCell]; exact (World.frozen?_of_block hgg).trans (by assumption))
    · refine frame_put (F := SF g vf) ⟨?_, ?_, ?_, by omega, fun k hk hn => hq k hk (fun e => hn (.inr e))⟩ (.inl rfl)
      · exact q2.os
      · exact q2.tape
      · exact q2.output
    · rcases q3 with q | q
      · exact .inl (q ▸ hk)
      · right; rw [q] at hk; injection hk with hk; omega
end
end Go.Proofs.YtkeikjedbfomnaaGreatDoor
