/- Proved: the program's search goes on with a further row. -/
import Derived.Test.YthgmojggpjnckaaGreatChecked
import Derived.Deep.RegionHeld3
import Derived.Deep.Cut
import Derived.Laws.EntriesVeiled
import Derived.Test.YthgmojggpjnckaaGreatUGoVisit
namespace Go.Proofs.YthgmojggpjnckaaGreat
open Go.ChangeShapes Go.WideShapes Go.ChangeAt Go.RowKit
set_option linter.unusedVariables false

/-- the two boxes of a row, and what the closure 'stays' has caught -/
def RowMade (F : Nat → Prop) (mk : MK) (t cuts : List (List Int)) (v u : Value) (B : Nat) (s7 s8 : Value) (w : World) : Prop :=
  ∃ bm b4 : Nat, s7 = .pointer (some ⟨bm, 0, none⟩) ∧ s8 = .pointer (some ⟨b4, 0, none⟩) ∧ B ≤ bm ∧ B ≤ b4 ∧ bm ≠ b4 ∧ w.cell? ⟨bm, 0, none⟩ = some (.bool true) ∧ w.frozen? ⟨bm, 0, none⟩ = false ∧ ∃ r, w.cell? ⟨b4, 0, none⟩ = some r ∧ StaysV 182 mk t cuts (v, u) (fun k => ¬ F k ∧ k ≠ bm) r w
theorem same_aa {w : World} {o1 o2 : Obj} {k : Nat} (hk : k < w.heap.size) : ((w.alloc o1).alloc o2).heap[k]? = w.heap[k]? := Below.block ((Ext.alloc w o1).trans (Ext.alloc _ o2)) k hk
theorem same_sa {w : World} {p : Nat} {v : Value} {o : Obj} {k : Nat} (hk : k < w.heap.size) (hp : k ≠ p) : ((w.setCell ⟨p, 0, none⟩ v).alloc o).heap[k]? = w.heap[k]? := (Below.block (Ext.alloc (w.setCell ⟨p, 0, none⟩ v) o) k (by rw [go_size]; exact hk)).trans (go_other hp)
theorem same_ss {w : World} {p q : Nat} {v u : Value} {k : Nat} (hp : k ≠ p) (hq : k ≠ q) : ((w.setCell ⟨p, 0, none⟩ v).setCell ⟨q, 0, none⟩ u).heap[k]? = w.heap[k]? := (go_other hq).trans (go_other hp)
theorem staysV_move {mk : MK} {t cuts : List (List Int)} {v u : Value} {N7 N : Nat → Prop} {w7 W : World} {bl br bc bs : Nat} {vl vr : Value} {zl zr : Zone}
    (o7 : LocksR zl w7 vl (locks mk t cuts) ∧ IntsR zr w7 vr (t.getD cuts.length []) ∧ w7.cell? ⟨bl, 0, none⟩ = some vl ∧ w7.cell? ⟨br, 0, none⟩ = some vr ∧ w7.cell? ⟨bc, 0, none⟩ = some u ∧ SysAt w7 bs mk v ∧ (∀ k, zl.Has k → N7 k) ∧ (∀ k, zr.Has k → N7 k) ∧ N7 bl ∧ N7 br ∧ N7 bc ∧ N7 bs)
    (hN : ∀ k, k < w7.heap.size → N7 k → N k) (hb : ∀ k, k < w7.heap.size → N7 k → W.heap[k]? = w7.heap[k]?) :
    StaysV 182 mk t cuts (v, u) N (.func (.func 182) #[] #[.pointer (some ⟨bl, 0, none⟩), .pointer (some ⟨br, 0, none⟩), .pointer (some ⟨bc, 0, none⟩), .pointer (some ⟨bs, 0, none⟩)]) W := by
  obtain ⟨q3, q4, q5, q6, q7, q8, q9, q10, q11, q12, q13, q14⟩ := o7
  have hc : ∀ {k i : Nat} {x : Value}, w7.cell? ⟨k, i, none⟩ = some x → N7 k → W.cell? ⟨k, i, none⟩ = some x := fun h1 h2 => (World.cell?_of_block (hb _ (World.block_lt_of_cell? _ _ h1) h2)).trans h1
  have hl : ∀ {k i : Nat} {x : Value}, w7.cell? ⟨k, i, none⟩ = some x → k < w7.heap.size := fun h1 => World.block_lt_of_cell? _ _ h1
  have z1 : ∀ k, (⟨zl.lo, min zl.hi w7.heap.size, false⟩ : Zone).Has k → N7 k ∧ k < w7.heap.size := fun k hk => ⟨q9 k ⟨hk.1, by have := hk.2; simp only at this; omega⟩, by have := hk.2; simp only at this; omega⟩
  have z2 : ∀ k, (⟨zr.lo, min zr.hi w7.heap.size, false⟩ : Zone).Has k → N7 k ∧ k < w7.heap.size := fun k hk => ⟨q10 k ⟨hk.1, by have := hk.2; simp only at this; omega⟩, by have := hk.2; simp only at this; omega⟩
  exact ⟨bl, br, bc, bs, vl, _, vr, _, rfl, stable_locks.keep (shrinks_locks _ _ _ _ q3) (fun k hk hl => hb k hl (z1 k hk).1), stable_ints.keep (shrinks_ints _ _ _ _ q4) (fun k hk hl => hb k hl (z2 k hk).1), hc q5 q11, hc q6 q12, hc q7 q13, ⟨hc q8.c0 q14, hc q8.c1 q14, hc q8.c2 q14, hc q8.c3 q14, hc q8.c4 q14, hc q8.c5 q14⟩,
    fun k hk => hN k (z1 k hk).2 (z1 k hk).1, fun k hk => hN k (z2 k hk).2 (z2 k hk).1, hN _ (hl q5) q11, hN _ (hl q6) q12, hN _ (hl q7) q13, hN _ (hl q8.c0) q14⟩
section
variable {σ : Type} {g : Nat} {mk : MK} {v : Value} {limit : Int} {Fv : FuncId} {caps : Array Value} {w0 : World} {F0 : Nat → Prop} {Inv : (Nat → Prop) → σ → World → Prop} {step : σ → List (List Int) → σ} {more : σ → List (List Int) → Bool} {msz : σ → Nat} {Ok : List (List Int) → Prop} {t : List (List Int)}
theorem goN_zero (V : VisitD Fv caps w0 F0 Inv step more msz Ok) (hl4 : limit ≤ 4000) (hOk : ∀ x : List (List Int), x.length = t.length → (∀ r ∈ x, KeyOk mk r) → faults mk t x = 0 → Ok x) : GoN g mk v t limit Fv caps w0 F0 Inv step more msz 0 :=
  fun cuts F s w z A u hG hF hK hT _ hA _ hl hks hf _ h1 hm => goOn0_c V hG hF hK hT hA.rows (by omega) (hOk cuts (by omega) hks hf) (by rw [if_pos rfl] at hm; omega)

def RowEnd (g : Nat) (mk : MK) (v : Value) (limit : Int) (Fv : FuncId) (caps : Array Value) (Inv : (Nat → Prop) → σ → World → Prop) (bm : Nat) (F : Nat → Prop) (r : Bool × GS σ) (w wq : World) (e : Ending) (w' : World) : Prop :=
  e = .returned (.tuple #[]) ∧ (∀ (k i : Nat) (x : Value), k ≠ bm → ¬ F k → wq.cell? ⟨k, i, none⟩ = some x → w'.cell? ⟨k, i, none⟩ = some x) ∧ w'.cell? ⟨bm, 0, none⟩ = some (.bool r.1) ∧ ∃ F', GoAt g mk v limit Fv caps Inv F' r.2 w' ∧ (∀ k, F' k → F k ∨ w.heap.size ≤ k) ∧ Frame F w w'
theorem row_c (V : VisitD Fv caps w0 F0 Inv step more msz Ok) (okm : MkOk mk) (okS : SysOk mk t) (hlim : I64 limit) {n : Nat} (hgo : GoN g mk v t limit Fv caps w0 F0 Inv step more msz n) {cuts : List (List Int)} {F : Nat → Prop} {s : GS σ} {w : World} {z : Zone} {A : Nat → Prop} {u : Value} (hG : GoAt g mk v limit Fv caps Inv F s w) (hF : ∀ k, F k → F0 k ∨ w0.heap.size ≤ k) (hK : Kept F0 w0 w) (hT : RowsR z w v t) (hz : ∀ k, z.Has k → ¬ F k) (hA : RowsA A w u cuts) (hAF : ∀ k, A k → ¬ F k)
    (hl : cuts.length + (n + 1) = t.length) (hks : ∀ r ∈ cuts, KeyOk mk r) (hf0 : faults mk t cuts = 0) (h0 : 0 ≤ s.tries) (h1 : s.tries ≤ limit) (hm : (msz s.val : Int) ≤ s.tries)
    {wc w' : World} {bm b4 : Nat} {r : Value} (ec : Ext w wc) (e : Ext wc w') (hb : w.heap.size + 3 ≤ bm) (hb4 : w.heap.size + 3 ≤ b4) (hne : bm ≠ b4) (m4 : wc.cell? ⟨bm, 0, none⟩ = some (.bool true)) (m5 : wc.frozen? ⟨bm, 0, none⟩ = false) (m6 : wc.cell? ⟨b4, 0, none⟩ = some r) (m7 : StaysV 182 mk t cuts (v, u) (fun k => ¬ F k ∧ k ≠ bm) r wc)
    (y1 : wc.cell? ⟨w.heap.size, 0, none⟩ = some (.pointer (some ⟨g, 0, none⟩))) (y2 : wc.cell? ⟨w.heap.size + 1, 0, none⟩ = some u) (y3 : wc.cell? ⟨w.heap.size + 2, 0, none⟩ = some (.slice none 0 0)) :
    Calls Tryz.prog 127 #[mk.v, .slice none 0 0, .nilFunc, .func (.func 168) #[] #[.pointer (some ⟨w.heap.size + 2, 0, none⟩), .pointer (some ⟨w.heap.size, 0, none⟩), .pointer (some ⟨bm, 0, none⟩), .pointer (some ⟨b4, 0, none⟩), .pointer (some ⟨w.heap.size + 1, 0, none⟩)]] w' (RowEnd g mk v limit Fv caps Inv bm F (goV mk t limit step more (n + 1) cuts s) w w') := by
  have et := ec.trans e
  have hlt : ∀ k, F k → k < w.heap.size := hG.lt
  have hs := et.size
  have lm := World.block_lt_of_cell? _ _ m4
  have hs2 := e.size
  simp only at lm
  obtain ⟨bl, br, bc, bs, vl, zl, vr, zr, rfl, q3, q4, q5, q6, q7, q8, q9, q10, q11, q12, q13, q14⟩ := m7
  have hT' := shrinks_rows _ _ _ _ hT
  have hC : Caught g mk t cuts v u (fun k => (¬ F k ∧ k ≠ bm) ∧ k < w'.heap.size) (w.heap.size + 2) w.heap.size b4 (w.heap.size + 1) w' := by
    have big : ∀ k, w.heap.size ≤ k → k ≠ bm → k < w'.heap.size → (¬ F k ∧ k ≠ bm) ∧ k < w'.heap.size := fun k h1 h2 h3 => ⟨⟨fun q => by have := hlt k q; omega, h2⟩, h3⟩
    have hc : ∀ {k i : Nat} {x : Value}, wc.cell? ⟨k, i, none⟩ = some x → k < w'.heap.size := fun h => Nat.lt_of_lt_of_le (World.block_lt_of_cell? _ _ h) hs2
    have ql := shrinks_locks _ _ _ _ q3
    have qr := shrinks_ints _ _ _ _ q4
    refine ⟨⟨e.cell y3, big _ (by omega) (by omega) (hc y3)⟩, ⟨e.cell y1, big _ (by omega) (by omega) (hc y1)⟩, ⟨e.cell y2, big _ (by omega) (by omega) (hc y2)⟩, ⟨_, stable_rows.ext hT' et, fun k hk => ?_⟩, ((hA.mono (A' := fun k => A k ∧ k < w.heap.size) (fun k h1 h2 => ⟨h1, h2⟩)).ext et).mono (fun k hk hl => ?_), bl, br, bc, bs, vl, _, vr, _, ⟨e.cell m6, big _ (by omega) (fun q => hne q.symm) (hc m6)⟩, stable_locks.ext ql e, stable_ints.ext qr e, e.cell q5, e.cell q6, e.cell q7, q8.ext e, fun k hk => ?_, fun k hk => ?_, ⟨q11, hc q5⟩, ⟨q12, hc q6⟩, ⟨q13, hc q7⟩, ⟨q14, hc q8.c0⟩⟩
    · have h1 := hk.1; have h2 := hk.2; simp only at h1 h2
      exact ⟨⟨hz k ⟨h1, by omega⟩, by omega⟩, by omega⟩
    · exact ⟨⟨hAF k hk.1, by have := hk.2; omega⟩, hl⟩
    · have h1 := hk.1; have h2 := hk.2; simp only at h1 h2
      exact ⟨q9 k ⟨h1, by omega⟩, by omega⟩
    · have h1 := hk.1; have h2 := hk.2; simp only at h1 h2
      exact ⟨q10 k ⟨h1, by omega⟩, by omega⟩
  have VV := visitGo V hgo okS hl hks hf0 hlim (N := fun k => (¬ F k ∧ k ≠ bm) ∧ k < w'.heap.size) (F1 := fun k => F k ∨ k = bm) (bm := bm) (w4 := w') (fun k hk => hk.elim (hF k) (fun q => .inr (by have := hK.size; omega))) (hK.ext et) hC (fun k hk => ⟨fun q => q.elim hk.1.1 hk.1.2, hk.2⟩)
  have hI : InvB g mk v limit Fv caps Inv msz bm (fun k => F k ∨ k = bm) (s, true) w' := ⟨⟨⟨F, hG.ext V et, fun k hk => ⟨.inl hk, by have := hlt k hk; omega⟩⟩, e.cell m4, (Below.frozen e lm).trans m5, .inr rfl, fun k hk => hk.elim (fun q => by have := hlt k q; omega) (fun q => by omega)⟩, ⟨h0, h1⟩, hm⟩
  refine (eachKeyK_c VV mk okm (fun k hk => allK_key okm hk) (s, true) hI).mono ?_
  rintro e5 w5 ⟨rfl, F5, ⟨i5, -⟩, g5, f5⟩
  rw [visits_sweepG] at i5
  obtain ⟨G, j1, j2⟩ := i5.val
  refine ⟨rfl, fun k i x q1 q2 q3 => Frame.cell f5 (fun q => q.elim q2 q1) q3, i5.flag, G, j1, fun k hk => ?_, Frame.trans (Frame.of_ext et) f5 (fun i hi hl => hi.elim id (fun q => by omega))⟩
  rcases g5 k (j2 k hk).1 with (q | q) | q
  · exact .inl q
  · exact absurd q (j2 k hk).2
  · exact .inr (by omega)

set_option maxRecDepth 20000 in
set_option maxHeartbeats 800000 in
theorem goN_succ (V : VisitD Fv caps w0 F0 Inv step more msz Ok) (okm : MkOk mk) (okS : SysOk mk t) (hlim : I64 limit) {n : Nat} (hgo : GoN g mk v t limit Fv caps w0 F0 Inv step more msz n) : GoN g mk v t limit Fv caps w0 F0 Inv step more msz (n + 1) := by
  intro cuts F s w z A u hG hF hK hT hz hA hAF hl hks hf0 h0 h1 hm
  rw [if_neg (Nat.succ_ne_zero _), Int.add_zero] at hm
  have hpo : PartOk mk t cuts := ⟨okS, by omega, hks⟩
  have hT' := shrinks_rows _ _ _ _ hT
  have HL := Lib.hid (fun (w' : World) (e : Ext w w') => staysOpen_c w' mk v _ t (stable_rows.ext hT' e) u _ cuts (hA.ext e).rows hpo (by omega) (fun k => ¬ F k ∧ (w'.heap.size ≤ k ∨ k < w.heap.size)) (fun k hk => ⟨fun q => by have := hG.lt k q; have := e.size; omega, .inl hk⟩) (fun k hk => ⟨hz k ⟨hk.1, by have := hk.2; simp only at this; omega⟩, .inr (by have := hk.2; simp only at this; omega)⟩))
  obtain ⟨a, nt, k, rfl, hn, -⟩ := SliceR.shape hT
  obtain ⟨a2, n2, k2, rfl, hn2, -⟩ := SliceR.shape hA.rows
  have he : ((n2 : Int) == (nt : Int)) = false := by rw [beq_eq_false_iff_ne]; omega
  have HE := Lib.hid (fun (wc w' : World) (bm b4 : Nat) (r : Value) (ec : Ext w wc) (e : Ext wc w') (hb : w.heap.size + 3 ≤ bm) (hb4 : w.heap.size + 3 ≤ b4) (hne : bm ≠ b4) (m4 : wc.cell? ⟨bm, 0, none⟩ = some (.bool true)) (m5 : wc.frozen? ⟨bm, 0, none⟩ = false) (m6 : wc.cell? ⟨b4, 0, none⟩ = some r) (m7 : StaysV 182 mk t cuts (.slice a nt k, .slice a2 n2 k2) (fun k => ¬ F k ∧ k ≠ bm) r wc)
      (y1 : wc.cell? ⟨w.heap.size, 0, none⟩ = some (.pointer (some ⟨g, 0, none⟩))) (y2 : wc.cell? ⟨w.heap.size + 1, 0, none⟩ = some (.slice a2 n2 k2)) (y3 : wc.cell? ⟨w.heap.size + 2, 0, none⟩ = some (.slice none 0 0)) => row_c V okm okS hlim hgo hG hF hK hT hz hA hAF hl hks hf0 h0 h1 hm ec e hb hb4 hne m4 m5 m6 m7 y1 y2 y3)
  have HG := Lib.hid hG
  have HA := Lib.hid hA
  obtain ⟨s0, s1, s2, s3, s4, s5⟩ := hG.sys
  clear hn hn2 hT hT' hA hG hpo
  unfold sysV at HL
  unfold MK.v at HE
  go_enter Tryz.func142, Tryz.ntmps142
  go_wp2_with fail
  generalize hwB : World.alloc (World.alloc (World.alloc w _) _) _ = wB
  obtain ⟨eB, d3, d4, d5⟩ : Ext w wB ∧ wB.cell? ⟨w.heap.size, 0, none⟩ = some (.pointer (some ⟨g, 0, none⟩)) ∧ wB.cell? ⟨w.heap.size + 1, 0, none⟩ = some (.slice a2 n2 k2) ∧ wB.cell? ⟨w.heap.size + 2, 0, none⟩ = some (.slice none 0 0) := by
    subst hwB
    refine ⟨((Ext.alloc _ _).trans (Ext.alloc _ _)).trans (Ext.alloc _ _), ?_, ?_, ?_⟩
    all_goals (clear HL HG HA HE; go_simp; done)
  clear hwB
  have HCel : Hid (∀ w', Ext wB w' → w'.cell? ⟨w.heap.size, 0, none⟩ = some (.pointer (some ⟨g, 0, none⟩)) ∧ w'.cell? ⟨w.heap.size + 1, 0, none⟩ = some (.slice a2 n2 k2) ∧ w'.cell? ⟨w.heap.size + 2, 0, none⟩ = some (.slice none 0 0) ∧ w'.cell? ⟨g, 0, none⟩ = some (.int .i64 mk.c) ∧ w'.cell? ⟨g, 1, none⟩ = some (.int .i64 mk.d) ∧ w'.cell? ⟨g, 2, none⟩ = some (.int .i64 mk.s) ∧ w'.cell? ⟨g, 3, none⟩ = some (.int .i64 mk.m) ∧ w'.cell? ⟨g, 4, none⟩ = some (.int .i64 mk.l) ∧ w'.cell? ⟨g, 5, none⟩ = some (.slice a nt k)) :=
    fun w' e => ⟨e.cell d3, e.cell d4, e.cell d5, e.cell (eB.cell s0), e.cell (eB.cell s1), e.cell (eB.cell s2), e.cell (eB.cell s3), e.cell (eB.cell s4), e.cell (eB.cell s5)⟩
  have s5' := eB.cell s5
  clear s0 s1 s2 s3 s4 s5
  go_quiet (fail)
  have eD : Ext wB (wB.drewN nq) := Ext.drewN _ _
  generalize wB.drewN nq = wD at *
  clear s5' d3 d4 d5
  obtain ⟨x0, x1, x2, x3, x4, x5, x6, x7, x8⟩ := HCel.out _ eD
  have hr0 := Ext.refl wD
  go_upto_region 4 with fail
  go_cut [7, 8] (fun s7 s8 wx => Ext wB wx ∧ RowMade F mk t cuts (.slice a nt k) (.slice a2 n2 k2) wB.heap.size s7 s8 wx)
  case first =>
    go_region_held3 (fun w' => w'.cell? ⟨w.heap.size, 0, none⟩ = some (.pointer (some ⟨g, 0, none⟩)) ∧ w'.cell? ⟨w.heap.size + 1, 0, none⟩ = some (.slice a2 n2 k2) ∧ w'.cell? ⟨w.heap.size + 2, 0, none⟩ = some (.slice none 0 0) ∧ w'.cell? ⟨g, 0, none⟩ = some (.int .i64 mk.c) ∧ w'.cell? ⟨g, 1, none⟩ = some (.int .i64 mk.d) ∧ w'.cell? ⟨g, 2, none⟩ = some (.int .i64 mk.s) ∧ w'.cell? ⟨g, 3, none⟩ = some (.int .i64 mk.m) ∧ w'.cell? ⟨g, 4, none⟩ = some (.int .i64 mk.l) ∧ w'.cell? ⟨g, 5, none⟩ = some (.slice a nt k)) (exact HCel.out _ (Ext.trans eD (by repeat (first | with_reducible exact Ext.refl _ | with_reducible assumption | (with_reducible refine Ext.trans ?_ (Ext.drew _)) | (with_reducible refine Ext.trans ?_ (Ext.alloc _ _)) | (with_reducible refine keep_store ?_ (Nat.le_refl _)) | (with_reducible refine keep_store ?_ (Nat.le_succ _)) | (with_reducible refine keep_store ?_ zX) | (with_reducible refine keep_store ?_ (Nat.le_succ_of_le zX)))))) (first | (go_at_call 167; (with_reducible refine (HL.out _ (Ext.trans eB (Ext.trans eD (by repeat (first | exact Ext.refl _ | assumption | (refine Ext.trans ?_ (Ext.alloc _ _)) | (refine Ext.trans ?_ (Ext.drew _)) | (refine Ext.trans ?_ (by assumption))))))).mono ?_); rintro e w7 hr7; obtain ⟨r7, rfl, o7, e7⟩ := ret_ext hr7; clear hr7; obtain ⟨bl, br, bc, bs, vl, zl, vr, zr, rfl, o7⟩ := o7; have eX : Ext wD w7 := (by repeat (first | exact Ext.refl _ | assumption | (refine Ext.trans ?_ (Ext.alloc _ _)) | (refine Ext.trans ?_ (Ext.drew _)) | (refine Ext.trans ?_ (by assumption)))); have zX := Ext.size eX; (first | (with_reducible have q := afterA2 e7; obtain ⟨q5, f5, q6, f6⟩ := q; have z5 := World.block_lt_of_cell? _ _ q5; have z6 := World.block_lt_of_cell? _ _ q6; simp only at z5 z6) | (with_reducible have q := afterA1 e7; obtain ⟨q5, f5⟩ := q; have z5 := World.block_lt_of_cell? _ _ q5; simp only at z5; have z5' := Nat.ne_of_lt z5; have z5'' := Nat.ne_of_gt z5) | skip); clear x0 x1 x2 x3 x4 x5 x6 x7 x8) | fail)
    all_goals
      go_wp2_with fail
      go_meet
      have zw := eB.size
      have zd := eD.size
      have ze := Ext.size e7
      simp at ze
      refine ⟨eD.trans (by repeat (first | with_reducible exact Ext.refl _ | with_reducible assumption | (with_reducible refine Ext.trans ?_ (Ext.drew _)) | (with_reducible refine Ext.trans ?_ (Ext.alloc _ _)) | (with_reducible refine keep_store ?_ (Nat.le_refl _)) | (with_reducible refine keep_store ?_ (Nat.le_succ _)) | (with_reducible refine keep_store ?_ zX) | (with_reducible refine keep_store ?_ (Nat.le_succ_of_le zX)))), _, _, rfl, rfl, ?_, ?_, ?_, ?_, ?_, _, ?_, staysV_move o7 (fun k hk hn => ⟨hn.1, ?_⟩) (fun k hk hn => ?_)⟩
      all_goals first | omega | exact same_aa hk | (have q := hn.2; simp at q; first | omega | exact same_sa hk (by omega) | exact same_ss (by omega) (by omega)) | (clear HL HCel HG HA HE; go_simp; done)
  case rest =>
    obtain ⟨ec, bm, b4, rfl, rfl, m1, m2, m3, m4, m5, r, m6, m7⟩ := hcut
    have lB := World.block_lt_of_cell? _ _ (HCel.out wB (Ext.refl _)).2.2.1
    simp only at lB
    obtain ⟨x0, x1, x2, x3, x4, x5, x6, x7, x8⟩ := HCel.out _ ec
    have HE2 := Lib.hid (fun (w' : World) (e : Ext wc w') => HE.out wc w' bm b4 r (eB.trans ec) e (by omega) (by omega) m3 m4 m5 m6 m7 x0 x1 x2)
    have HCel2 : Hid (∀ w', Ext wc w' → w'.cell? ⟨w.heap.size, 0, none⟩ = some (.pointer (some ⟨g, 0, none⟩)) ∧ w'.cell? ⟨w.heap.size + 1, 0, none⟩ = some (.slice a2 n2 k2) ∧ w'.cell? ⟨w.heap.size + 2, 0, none⟩ = some (.slice none 0 0) ∧ w'.cell? ⟨g, 0, none⟩ = some (.int .i64 mk.c) ∧ w'.cell? ⟨g, 1, none⟩ = some (.int .i64 mk.d) ∧ w'.cell? ⟨g, 2, none⟩ = some (.int .i64 mk.s) ∧ w'.cell? ⟨g, 3, none⟩ = some (.int .i64 mk.m) ∧ w'.cell? ⟨g, 4, none⟩ = some (.int .i64 mk.l)) := fun w' e => ⟨e.cell x0, e.cell x1, e.cell x2, e.cell x3, e.cell x4, e.cell x5, e.cell x6, e.cell x7⟩
    have HNF : Hid (∀ k, w.heap.size ≤ k → ¬ F k) := fun k hk q => by have := HG.out.lt k q; omega
    have HNB : Hid (w.heap.size ≠ bm ∧ w.heap.size + 1 ≠ bm ∧ w.heap.size + 2 ≠ bm) := by refine ⟨?_, ?_, ?_⟩ <;> omega
    have HCel3 : Hid (∀ wa w' (G' : Nat → Prop) (s' : GS σ), Ext wc wa → (∀ (k i : Nat) (x : Value), k ≠ bm → ¬ F k → wa.cell? ⟨k, i, none⟩ = some x → w'.cell? ⟨k, i, none⟩ = some x) → GoAt g mk (.slice a nt k) limit Fv caps Inv G' s' w' → w'.cell? ⟨w.heap.size, 0, none⟩ = some (.pointer (some ⟨g, 0, none⟩)) ∧ w'.cell? ⟨w.heap.size + 1, 0, none⟩ = some (.slice a2 n2 k2) ∧ w'.cell? ⟨w.heap.size + 2, 0, none⟩ = some (.slice none 0 0) ∧ w'.cell? ⟨g, 0, none⟩ = some (.int .i64 mk.c) ∧ w'.cell? ⟨g, 1, none⟩ = some (.int .i64 mk.d) ∧ w'.cell? ⟨g, 2, none⟩ = some (.int .i64 mk.s) ∧ w'.cell? ⟨g, 3, none⟩ = some (.int .i64 mk.m) ∧ w'.cell? ⟨g, 4, none⟩ = some (.int .i64 mk.l)) := fun wa w' G' s' e hq hg => by
      obtain ⟨p0, p1, p2, -⟩ := HCel2.out wa e
      exact ⟨hq _ _ _ HNB.out.1 (HNF.out _ (Nat.le_refl _)) p0, hq _ _ _ HNB.out.2.1 (HNF.out _ (Nat.le_succ _)) p1, hq _ _ _ HNB.out.2.2 (HNF.out _ (Nat.le_add_right _ _)) p2, hg.sys.c0, hg.sys.c1, hg.sys.c2, hg.sys.c3, hg.sys.c4⟩
    clear HL HE HG HA HCel m1 m2 m3 m4 m5 m6 m7 lB
    have hr1 := Ext.refl wc
    go_wp2_with fail
    go_region_held3 (fun w' => w'.cell? ⟨w.heap.size, 0, none⟩ = some (.pointer (some ⟨g, 0, none⟩)) ∧ w'.cell? ⟨w.heap.size + 1, 0, none⟩ = some (.slice a2 n2 k2) ∧ w'.cell? ⟨w.heap.size + 2, 0, none⟩ = some (.slice none 0 0) ∧ w'.cell? ⟨g, 0, none⟩ = some (.int .i64 mk.c) ∧ w'.cell? ⟨g, 1, none⟩ = some (.int .i64 mk.d) ∧ w'.cell? ⟨g, 2, none⟩ = some (.int .i64 mk.s) ∧ w'.cell? ⟨g, 3, none⟩ = some (.int .i64 mk.m) ∧ w'.cell? ⟨g, 4, none⟩ = some (.int .i64 mk.l)) (first | exact HCel3.out _ _ _ _ (by repeat (first | exact Ext.refl _ | assumption | (refine Ext.trans ?_ (Ext.alloc _ _)) | (refine Ext.trans ?_ (Ext.drew _)) | (refine Ext.trans ?_ (by assumption)))) hq5 j5 | exact HCel2.out _ (by repeat (first | exact Ext.refl _ | assumption | (refine Ext.trans ?_ (Ext.alloc _ _)) | (refine Ext.trans ?_ (Ext.drew _)) | (refine Ext.trans ?_ (by assumption))))) (first | (go_at_call 127; (with_reducible refine (HE2.out _ (by repeat (first | exact Ext.refl _ | assumption | (refine Ext.trans ?_ (Ext.alloc _ _)) | (refine Ext.trans ?_ (Ext.drew _)) | (refine Ext.trans ?_ (by assumption))))).mono ?_); rintro e w5 ⟨rfl, hq5, hf5, F5, j5, g5, f5⟩) | fail)
    all_goals
      go_wp2_with fail
      go_ret
      exact ⟨rfl, F5, j5, g5, f5⟩
end
end Go.Proofs.YthgmojggpjnckaaGreat
