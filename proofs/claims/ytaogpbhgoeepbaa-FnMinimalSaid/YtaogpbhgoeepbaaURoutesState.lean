/- Proved: the memory of the walk over routes: the variables that the closure has captured, and what their writes leave. -/
import Derived.Test.YtaogpbhgoeepbaaURoutesLaw
import Derived.Test.YtaogpbhgoeepbaaUOwnRows
import Derived.Test.YtaogpbhgoeepbaaUExt
namespace Go.Proofs.Ytaogpbhgoeepbaa
open Go.ChangeShapes Go.WideShapes Go.ChangeAt Go.RowKit
set_option linter.unusedVariables false

/-- the blocks of the captured variables; B: the call's own blocks begin; H: the fixed ones end -/
structure RF where
  (T S M U N O R W g B H : Nat)
def RF.isC (f : RF) (k : Nat) : Prop := k = f.T ∨ k = f.M ∨ k = f.N ∨ k = f.O ∨ k = f.R ∨ k = f.W
def RF.isF (f : RF) (k : Nat) : Prop := f.isC k ∨ k = f.S ∨ k = f.U ∨ k = f.g
structure RF.Ok (f : RF) : Prop where
  lt : ∀ k, f.isF k → k < f.H
  ge : f.B ≤ f.S ∧ f.B ≤ f.U ∧ f.B ≤ f.g
  dS : ¬ f.isC f.S
  dU : ¬ f.isC f.U
  dg : ¬ f.isC f.g
  SU : f.S ≠ f.U
  Sg : f.S ≠ f.g
  Ug : f.U ≠ f.g
def RF.fn (f : RF) : Value := .func (.func 108) #[] #[.pointer (some ⟨f.T, 0, none⟩), .pointer (some ⟨f.S, 0, none⟩), .pointer (some ⟨f.M, 0, none⟩), .pointer (some ⟨f.U, 0, none⟩), .pointer (some ⟨f.N, 0, none⟩), .pointer (some ⟨f.O, 0, none⟩), .pointer (some ⟨f.R, 0, none⟩), .pointer (some ⟨f.W, 0, none⟩)]
/-- what the variables that are not written hold -/
structure RC where
  (t : Int) (most nc : Nat) (vo : Value) (c : Int) (vd : Value)
structure Cst (f : RF) (x : RC) (w : World) : Prop where
  cT : w.cell? ⟨f.T, 0, none⟩ = some (.int .i64 x.t)
  cM : w.cell? ⟨f.M, 0, none⟩ = some (.int .i64 x.most)
  cN : w.cell? ⟨f.N, 0, none⟩ = some (.slice (some ⟨f.g, 0, none⟩) x.nc x.nc)
  cO : w.cell? ⟨f.O, 0, none⟩ = some x.vo
  cR0 : w.cell? ⟨f.R, 0, none⟩ = some (.int .i64 x.c)
  cR1 : w.cell? ⟨f.R, 1, none⟩ = some x.vd
  cW : w.cell? ⟨f.W, 0, none⟩ = some f.fn
theorem cell_same {w w' : World} {b o : Nat} (h : w'.heap[b]? = w.heap[b]?) : w'.cell? ⟨b, o, none⟩ = w.cell? ⟨b, o, none⟩ := World.cell?_of_block (w := w) (a := ⟨b, o, none⟩) h
theorem Cst.keep {f : RF} {x : RC} {w w' : World} (h : Cst f x w) (hk : ∀ k, f.isC k → w'.heap[k]? = w.heap[k]?) : Cst f x w' :=
  ⟨(cell_same (hk _ (.inl rfl))).trans h.cT, (cell_same (hk _ (.inr (.inl rfl)))).trans h.cM, (cell_same (hk _ (.inr (.inr (.inl rfl))))).trans h.cN, (cell_same (hk _ (.inr (.inr (.inr (.inl rfl)))))).trans h.cO,
   (cell_same (hk _ (.inr (.inr (.inr (.inr (.inl rfl))))))).trans h.cR0, (cell_same (hk _ (.inr (.inr (.inr (.inr (.inl rfl))))))).trans h.cR1, (cell_same (hk _ (.inr (.inr (.inr (.inr (.inr rfl))))))).trans h.cW⟩

structure RS (f : RF) (x : RC) (w : World) (vs vu : Value) (rss : List (List Int)) (rt : List Int) (s : List Bool) : Prop where
  cst : Cst f x w
  hS : w.heap[f.S]? = some (.cells #[vs] 22 (0, 0))
  hU : w.heap[f.U]? = some (.cells #[vu] 25 (0, 0))
  oS : OwnA true (fun k => f.H ≤ k ∧ vu.ownBlock ≠ some k) IntsR 25 f.B w vs rss
  oU : OwnP (Value.int .i64) 2 f.B w vu rt
  oG : OwnP Value.bool 4 f.B w (.slice (some ⟨f.g, 0, none⟩) x.nc x.nc) s
  nS : ∀ k, vs.ownBlock = some k → ¬ f.isF k
  nU : ∀ k, vu.ownBlock = some k → ¬ f.isF k
  nSU : ∀ k, vs.ownBlock = some k → vu.ownBlock ≠ some k
  hH : f.H ≤ w.heap.size

section
variable {f : RF} {x : RC} {w w' : World} {vs vu v' : Value} {rss : List (List Int)} {rt : List Int} {s : List Bool}

theorem OwnP.outside {α : Type} {fv : α → Value} {e : TypeId} {B : Nat} {v : Value} {xs : List α} (h : OwnP fv e B w v xs) {g : Nat} (hg : ∀ k, k < w.heap.size → k ≠ g → w'.heap[k]? = w.heap[k]?) (hne : v.ownBlock ≠ some g) : OwnP fv e B w' v xs := by
  obtain ⟨ho1, ho2⟩ := h
  refine ⟨ho1, ?_⟩
  rcases ho2 with h | ⟨g', cap, cur, hv, hb, hgg, r⟩
  · exact .inl h
  · refine .inr ⟨g', cap, cur, hv, hb, ?_, r⟩
    rw [hg g' (Array.getElem?_eq_some_iff.1 hgg).1 (fun e => hne (by rw [hv, e]; rfl))]; exact hgg
/-- a later world -/
theorem RS.ext (h : RS f x w vs vu rss rt s) (hf : f.Ok) (he : Ext w w') : RS f x w' vs vu rss rt s := by
  have hsz := he.size
  have hb := he.below.block
  have hlt : ∀ k, f.isF k → w'.heap[k]? = w.heap[k]? := fun k hk => hb k (by have := hf.lt k hk; have := h.hH; omega)
  exact ⟨h.cst.keep (fun k hk => hlt k (.inl hk)), (hlt _ (.inr (.inl rfl))).trans h.hS, (hlt _ (.inr (.inr (.inl rfl)))).trans h.hU, OwnA.below stable_ints h.oS he, h.oU.ext he, h.oG.ext he, h.nS, h.nU, h.nSU, Nat.le_trans h.hH hsz⟩
/-- a store into a block of its own: what other blocks hold -/
theorem set_outside (w : World) (b o : Nat) (u : Value) : ∀ k, k < w.heap.size → k ≠ b → (w.setCell ⟨b, o, none⟩ u).heap[k]? = w.heap[k]? := fun k _ hk => Below.heap_setCell w ⟨b, o, none⟩ u k hk
theorem size_set (w : World) (a : Addr) (u : Value) : (w.setCell a u).heap.size = w.heap.size := by simp [World.setCell]

/-- 'entered[i] = b' -/
theorem RS.enter (h : RS f x w vs vu rss rt s) (hf : f.Ok) (i : Nat) (b : Bool) : RS f x (w.setCell ⟨f.g, i, none⟩ (.bool b)) vs vu rss rt (s.set i b) := by
  have ho := set_outside w f.g i (.bool b)
  have hH := h.hH
  have hlt : ∀ k, f.isC k → (w.setCell ⟨f.g, i, none⟩ (.bool b)).heap[k]? = w.heap[k]? := fun k hk => ho k (by have := hf.lt k (.inl hk); omega) (fun e => hf.dg (e ▸ hk))
  have hg : f.isF f.g := .inr (.inr (.inr rfl))
  have hgl := hf.lt _ hg
  exact ⟨h.cst.keep hlt, (ho _ (by have := hf.lt f.S (.inr (.inl rfl)); omega) hf.Sg).trans h.hS, (ho _ (by have := hf.lt f.U (.inr (.inr (.inl rfl))); omega) hf.Ug).trans h.hU,
    OwnA.outside stable_ints h.oS ho (by rw [size_set]; exact Nat.le_refl _) (fun hA => by have := hA.1; omega) (fun e => h.nS _ e hg), h.oU.outside ho (fun e => h.nU _ e hg), OwnP.store h.oG i b, h.nS, h.nU, h.nSU, by rw [size_set]; exact hH⟩

/-- 'routes = append(routes, ..)' -/
theorem RS.addRoute (h : RS f x w vs vu rss rt s) (hf : f.Ok) {w2 w3 : World} {zs : List (List Int)} (he : Ext w w2) (ha : AppA1 true (fun k => f.H ≤ k ∧ vu.ownBlock ≠ some k) IntsR 25 f.B w w2 vs zs v' w3) :
    RS f x (w3.setCell ⟨f.S, 0, none⟩ v') v' vu zs rt s := by
  obtain ⟨a1, a2, a3, a4, a5⟩ := ha
  have hH := h.hH
  have hs2 := he.size
  have hbig : ∀ k, k < w2.heap.size → vs.ownBlock ≠ some k → w3.heap[k]? = w2.heap[k]? := fun k hk hn => a4.block k hk (fun e => hn e.symm)
  have hb : ∀ k, k < w.heap.size → w2.heap[k]? = w.heap[k]? := he.below.block
  have hF : ∀ k, f.isF k → w3.heap[k]? = w.heap[k]? := fun k hk => by
    have := hf.lt k hk
    rw [hbig k (by omega) (fun e => h.nS k e hk), hb k (by omega)]
  have ho := set_outside w3 f.S 0 v'
  have hS3 : w3.heap[f.S]? = some (.cells #[vs] 22 (0, 0)) := (hF _ (.inr (.inl rfl))).trans h.hS
  have hFl : ∀ k, f.isF k → k < w3.heap.size := fun k hk => by have := hf.lt k hk; omega
  have hS : f.isF f.S := .inr (.inl rfl)
  have hSl := hf.lt _ hS
  have nS' : ∀ k, v'.ownBlock = some k → ¬ f.isF k := fun k hk hF' => by
    rcases a5 k hk with e | e
    · exact h.nS k e hF'
    · have := hf.lt k hF'; omega
  have hU2 : OwnP (Value.int .i64) 2 f.B w3 vu rt := (h.oU.ext he).kept a4 (by
    cases e : vu.ownBlock with
    | none => exact .inl rfl
    | some k => right; intro e'; exact h.nSU k e'.symm e)
  have hG2 : OwnP Value.bool 4 f.B w3 (.slice (some ⟨f.g, 0, none⟩) x.nc x.nc) s := (h.oG.ext he).kept a4 (.inr (fun e => h.nS f.g e.symm (.inr (.inr (.inr rfl)))))
  refine ⟨h.cst.keep (fun k hk => (ho k (hFl k (.inl hk)) (fun e => hf.dS (e ▸ hk))).trans (hF k (.inl hk))), one_setCell hS3, (ho _ (hFl _ (.inr (.inr (.inl rfl)))) hf.SU.symm).trans ((hF _ (.inr (.inr (.inl rfl)))).trans h.hU),
    OwnA.outside stable_ints a1 ho (by rw [size_set]; exact Nat.le_refl _) (fun hA => by have := hA.1; omega) (fun e => nS' _ e hS), hU2.outside ho (fun e => h.nU _ e hS), hG2.outside ho (fun e => by injection e with e; exact hf.Sg e.symm), nS', h.nU, fun k hk => ?_, by rw [size_set]; omega⟩
  rcases a5 k hk with e | e
  · exact h.nSU k e
  · intro e'
    have := (h.oU.block k e').2
    omega

/-- what an append of numbers leaves -/
def AppI (B : Nat) (w : World) (vu : Value) (zs : List Int) (v' : Value) (w' : World) : Prop :=
  OwnP (Value.int .i64) 2 B w' v' zs ∧ w.grownBy w' vu.ownBlock ∧ ∀ k, v'.ownBlock = some k → vu.ownBlock = some k ∨ w.heap.size ≤ k
theorem run_appendI {P : Program} {B : Nat} (t ty : TypeId) (ht : P.underlying t = some (.slice 2)) (hinfo : (P.info? 2).map (fun i => (i.zero, i.size, i.bytes)) = some (some (.int .i64 0), 1, 8)) (hown : OwnP (Value.int .i64) 2 B w vu rt) (d : Int) (hn : rt.length + 1 ≤ 1099511627776) (hB : B ≤ w.heap.size) {g : Nat} (hg : w.heap.size = g) :
    ∃ v' w', (Builtin.append_ #[t, t] ty #[vu, .slice (some ⟨g, 0, none⟩) 1 1]).run P (w.alloc (.cells #[.int .i64 d] 2)) = .ok v' w' ∧ AppI B w vu (rt ++ [d]) v' w' ∧ Below B w w' := by
  subst hg
  obtain ⟨i, hi, hz0, hz1, hz2⟩ := info_parts hinfo
  obtain ⟨v', w', hrun, hv', hgr, -, hat⟩ := run_append_own_at (P := P) (w.alloc (.cells #[.int .i64 d] 2)) B t ty 2 i (.int .i64 0) 1 8 ht hi hz0 hz1 hz2 rfl (by omega) vu rt.length (rt.map (Value.int .i64)) (hown.alloc _) ⟨w.heap.size, 0, none⟩ 1 1 [.int .i64 d] rfl (cell_one_new _ _ _) (by intro u hu; rw [List.mem_singleton.1 hu]; rfl) (by unfold maxLen; omega) (by omega) (by simp; omega)
  have hg' : w.grownBy w' vu.ownBlock := grownBy_trans (World.grownBy_alloc w _ _) hgr
  refine ⟨v', w', hrun, ⟨?_, hg', fun k hk => ?_⟩, (Below.refl _ _).grown hg' hB (fun k hk => (hown.block k hk).1)⟩
  · unfold OwnP; rw [List.length_append, List.map_append]; exact hv'
  · rcases hat with hat | hat
    · exact .inl (hat ▸ hk)
    · right; rw [hat] at hk; injection hk with hk; simp at hk; omega
/-- 'route = append(route, ..)' -/
theorem RS.push (h : RS f x w vs vu rss rt s) (hf : f.Ok) {w3 : World} {zs : List Int} (ha : AppI f.B w vu zs v' w3) : RS f x (w3.setCell ⟨f.U, 0, none⟩ v') vs v' rss zs s := by
  obtain ⟨a1, a4, a5⟩ := ha
  have hH := h.hH
  have hs2 := a4.size
  have hbig : ∀ k, k < w.heap.size → vu.ownBlock ≠ some k → w3.heap[k]? = w.heap[k]? := fun k hk hn => a4.block k hk (fun e => hn e.symm)
  have hF : ∀ k, f.isF k → w3.heap[k]? = w.heap[k]? := fun k hk => by
    have := hf.lt k hk
    exact hbig k (by omega) (fun e => h.nU k e hk)
  have ho := set_outside w3 f.U 0 v'
  have hU3 : w3.heap[f.U]? = some (.cells #[vu] 25 (0, 0)) := (hF _ (.inr (.inr (.inl rfl)))).trans h.hU
  have hFl : ∀ k, f.isF k → k < w3.heap.size := fun k hk => by have := hf.lt k hk; omega
  have hUf : f.isF f.U := .inr (.inr (.inl rfl))
  have hUl := hf.lt _ hUf
  have nU' : ∀ k, v'.ownBlock = some k → ¬ f.isF k := fun k hk hF' => by
    rcases a5 k hk with e | e
    · exact h.nU k e hF'
    · have := hf.lt k hF'; omega
  have oS3 : OwnA true (fun k => f.H ≤ k ∧ vu.ownBlock ≠ some k) IntsR 25 f.B w3 vs rss := OwnA.kept stable_ints h.oS a4 (by
    cases e : vs.ownBlock with
    | none => exact .inl rfl
    | some k => right; intro e'; exact h.nSU k e e'.symm) (fun g hg hA => hA.2 hg)
  have oS4 : OwnA true (fun k => f.H ≤ k ∧ v'.ownBlock ≠ some k) IntsR 25 f.B w vs rss := h.oS.weaken (fun k hk hA => ⟨hA.1, fun e => by
    rcases a5 k e with e | e
    · exact hA.2 e
    · omega⟩)
  have oS5 : OwnA true (fun k => f.H ≤ k ∧ v'.ownBlock ≠ some k) IntsR 25 f.B w3 vs rss := by
    have oS6 : OwnA true (fun k => (f.H ≤ k ∧ vu.ownBlock ≠ some k) ∧ k < w.heap.size) IntsR 25 f.B w3 vs rss := OwnA.kept stable_ints (h.oS.weaken (fun k hk hA => ⟨hA, hk⟩)) a4 (by
      cases e : vs.ownBlock with
      | none => exact .inl rfl
      | some k => right; intro e'; exact h.nSU k e e'.symm) (fun g hg hA => hA.1.2 hg)
    exact oS6.weaken (fun k hk hA => ⟨hA.1.1, fun e => by
      rcases a5 k e with e | e
      · exact hA.1.2 e
      · have := hA.2; omega⟩)
  have hG2 : OwnP Value.bool 4 f.B w3 (.slice (some ⟨f.g, 0, none⟩) x.nc x.nc) s := h.oG.kept a4 (.inr (fun e => h.nU f.g e.symm (.inr (.inr (.inr rfl)))))
  refine ⟨h.cst.keep (fun k hk => (ho k (hFl k (.inl hk)) (fun e => hf.dU (e ▸ hk))).trans (hF k (.inl hk))), (ho _ (hFl _ (.inr (.inl rfl))) hf.SU).trans ((hF _ (.inr (.inl rfl))).trans h.hS), one_setCell hU3,
    OwnA.outside stable_ints oS5 ho (by rw [size_set]; exact Nat.le_refl _) (fun hA => by have := hA.1; omega) (fun e => h.nS _ e hUf), a1.outside ho (fun e => nU' _ e hUf), hG2.outside ho (fun e => by injection e with e; exact hf.Ug e.symm), h.nS, nU', fun k hk e' => ?_, by rw [size_set]; omega⟩
  rcases a5 k e' with e | e
  · exact h.nSU k hk e
  · have := (h.oS.block k hk).2; omega
theorem OwnP.room {α : Type} {fv : α → Value} {e : TypeId} {B : Nat} {a : Option Addr} {n cap : Nat} {xs : List α} (h : OwnP fv e B w (.slice a n cap) xs) : n ≤ cap ∧ cap ≤ 9223372036854775807 := by
  rcases h.2 with ⟨h, h0⟩ | ⟨g', cap', cur, hv, hb, hgg, h1, h2, h3, h4⟩
  · injection h with e1 e2 e3; omega
  · injection hv with e1 e2 e3; unfold maxLen at h2; omega
/-- a row of the call's own, cut -/
theorem OwnP.cut {α : Type} {fv : α → Value} {e : TypeId} {B : Nat} {a : Option Addr} {n cap : Nat} {xs : List α} (h : OwnP fv e B w (.slice a n cap) xs) (k : Nat) (hk : k ≤ n) : OwnP fv e B w (.slice a k cap) (xs.take k) := by
  have hn := h.len
  obtain ⟨ho1, ho2⟩ := h
  have hl : (xs.take k).length = k := by simp; omega
  unfold OwnP
  rw [hl]
  refine ⟨by simp; omega, ?_⟩
  rcases ho2 with ⟨h, h0⟩ | ⟨g', cap', cur, hv, hb, hgg, h1, h2, h3, h4⟩
  · injection h with e1 e2 e3
    subst e1; subst e2; subst e3
    left
    obtain rfl : k = 0 := by omega
    exact ⟨rfl, rfl⟩
  · injection hv with e1 e2 e3
    subst e1; subst e3
    refine .inr ⟨g', cap, cur, rfl, hb, hgg, by omega, h2, h3, ?_⟩
    rw [List.map_take, ← h4, List.take_take]
    congr 1
    omega
/-- 'route = route[:k]' -/
theorem RS.pop {a : Option Addr} {n cap : Nat} (h : RS f x w vs (.slice a n cap) rss rt s) (hf : f.Ok) (k : Nat) (hk : k ≤ n) : RS f x (w.setCell ⟨f.U, 0, none⟩ (.slice a k cap)) vs (.slice a k cap) rss (rt.take k) s := by
  have hob : (Value.slice a k cap).ownBlock = (Value.slice a n cap).ownBlock := by cases a <;> rfl
  have hH := h.hH
  have ho := set_outside w f.U 0 (.slice a k cap)
  have hFl : ∀ k, f.isF k → k < w.heap.size := fun k hk => by have := hf.lt k hk; omega
  have hUf : f.isF f.U := .inr (.inr (.inl rfl))
  have hUl := hf.lt _ hUf
  have oS : OwnA true (fun j => f.H ≤ j ∧ (Value.slice a k cap).ownBlock ≠ some j) IntsR 25 f.B w vs rss := by rw [hob]; exact h.oS
  refine ⟨h.cst.keep (fun k hk => ho k (hFl k (.inl hk)) (fun e => hf.dU (e ▸ hk))), (ho _ (hFl _ (.inr (.inl rfl))) hf.SU).trans h.hS, one_setCell h.hU,
    OwnA.outside stable_ints oS ho (by rw [size_set]; exact Nat.le_refl _) (fun hA => by have := hA.1; omega) (fun e => h.nS _ e hUf), (h.oU.cut k hk).outside ho (fun e => h.nU _ (hob ▸ e) hUf), h.oG.outside ho (fun e => by injection e with e; exact hf.Ug e.symm), h.nS, fun j hj => h.nU j (hob ▸ hj), fun j hj e => h.nSU j hj (hob ▸ e), by rw [size_set]; exact hH⟩
end
end Go.Proofs.Ytaogpbhgoeepbaa
