/- Proved: the program's search: one key of a row. -/
import Derived.Test.YthgmojggpjnckaaGreatChecked
import Derived.Deep.RegionHeld3
import Derived.Laws.EntriesVeiled
import Derived.Test.YthgmojggpjnckaaGreatUGoEnd
import Derived.Test.YthgmojggpjnckaaGreatUGoJoin
import Derived.Test.YthgmojggpjnckaaGreatUEachKept
import Derived.Test.YthgmojggpjnckaaGreatUPkSt
namespace Go.Proofs.YthgmojggpjnckaaGreat
open Go.ChangeShapes Go.WideShapes Go.ChangeAt Go.RowKit
set_option linter.unusedVariables false

theorem Tryz.goesStays1 : Goes Tryz.prog 182 := goes_of Tryz.func182 (by kernel_rfl) (by kernel_rfl)

/-- what the search of n further rows leaves -/
def GoN {σ : Type} (g : Nat) (mk : MK) (v : Value) (t : List (List Int)) (limit : Int) (Fv : FuncId) (caps : Array Value) (w0 : World) (F0 : Nat → Prop) (Inv : (Nat → Prop) → σ → World → Prop) (step : σ → List (List Int) → σ) (more : σ → List (List Int) → Bool) (msz : σ → Nat) (n : Nat) : Prop :=
  ∀ (cuts : List (List Int)) (F : Nat → Prop) (s : GS σ) (w : World) (z : Zone) (A : Nat → Prop) (u : Value), GoAt g mk v limit Fv caps Inv F s w → (∀ k, F k → F0 k ∨ w0.heap.size ≤ k) → Kept F0 w0 w → RowsR z w v t → (∀ k, z.Has k → ¬ F k) → RowsA A w u cuts → (∀ k, A k → ¬ F k) →
    cuts.length + n = t.length → (∀ r ∈ cuts, KeyOk mk r) → faults mk t cuts = 0 → 0 ≤ s.tries → s.tries ≤ limit → (msz s.val : Int) + (if n = 0 then 1 else 0) ≤ s.tries →
    Calls Tryz.prog 142 #[.pointer (some ⟨g, 0, none⟩), u, .slice none 0 0] w (GoR g mk v limit Fv caps Inv F (goV mk t limit step more n cuts s) w)
/-- what the closure of one row has caught; all of it lies in blocks of N -/
structure Caught (g : Nat) (mk : MK) (t cuts : List (List Int)) (v u : Value) (N : Nat → Prop) (b1 b2 b4 b5 : Nat) (w : World) : Prop where
  c1 : w.cell? ⟨b1, 0, none⟩ = some (.slice none 0 0) ∧ N b1
  c2 : w.cell? ⟨b2, 0, none⟩ = some (.pointer (some ⟨g, 0, none⟩)) ∧ N b2
  c5 : w.cell? ⟨b5, 0, none⟩ = some u ∧ N b5
  rows : ∃ z, RowsR z w v t ∧ ∀ k, z.Has k → N k
  crows : RowsA N w u cuts
  stay : ∃ (bl br bc bs : Nat) (vl : Value) (zl : Zone) (vr : Value) (zr : Zone), (w.cell? ⟨b4, 0, none⟩ = some (.func (.func 182) #[] #[.pointer (some ⟨bl, 0, none⟩), .pointer (some ⟨br, 0, none⟩), .pointer (some ⟨bc, 0, none⟩), .pointer (some ⟨bs, 0, none⟩)]) ∧ N b4) ∧
    LocksR zl w vl (locks mk t cuts) ∧ IntsR zr w vr (t.getD cuts.length []) ∧ w.cell? ⟨bl, 0, none⟩ = some vl ∧ w.cell? ⟨br, 0, none⟩ = some vr ∧ w.cell? ⟨bc, 0, none⟩ = some u ∧ SysAt w bs mk v ∧ (∀ k, zl.Has k → N k) ∧ (∀ k, zr.Has k → N k) ∧ N bl ∧ N br ∧ N bc ∧ N bs
theorem Caught.keep {g : Nat} {mk : MK} {t cuts : List (List Int)} {v u : Value} {N : Nat → Prop} {b1 b2 b4 b5 : Nat} {w w' : World} (h : Caught g mk t cuts v u N b1 b2 b4 b5 w) (hs : w.heap.size ≤ w'.heap.size) (hb : ∀ k, k < w.heap.size → N k → w'.heap[k]? = w.heap[k]?) : Caught g mk t cuts v u N b1 b2 b4 b5 w' := by
  have hc : ∀ {k i : Nat} {x : Value}, w.cell? ⟨k, i, none⟩ = some x → N k → w'.cell? ⟨k, i, none⟩ = some x := fun h1 h2 => (World.cell?_of_block (hb _ (World.block_lt_of_cell? _ _ h1) h2)).trans h1
  obtain ⟨z, z1, z2⟩ := h.rows
  obtain ⟨bl, br, bc, bs, vl, zl, vr, zr, ⟨q1, q2⟩, q3, q4, q5, q6, q7, q8, q9, q10, q11, q12, q13, q14⟩ := h.stay
  exact ⟨⟨hc h.c1.1 h.c1.2, h.c1.2⟩, ⟨hc h.c2.1 h.c2.2, h.c2.2⟩, ⟨hc h.c5.1 h.c5.2, h.c5.2⟩, ⟨z, stable_rows.keep z1 (fun k hk hl => hb k hl (z2 k hk)), z2⟩, h.crows.keep hs (fun k hk hl => hb k hl hk),
    bl, br, bc, bs, vl, zl, vr, zr, ⟨hc q1 q2, q2⟩, stable_locks.keep q3 (fun k hk hl => hb k hl (q9 k hk)), stable_ints.keep q4 (fun k hk hl => hb k hl (q10 k hk)), hc q5 q11, hc q6 q12, hc q7 q13, ⟨hc q8.c0 q14, hc q8.c1 q14, hc q8.c2 q14, hc q8.c3 q14, hc q8.c4 q14, hc q8.c5 q14⟩, q9, q10, q11, q12, q13, q14⟩
theorem Caught.frame {g : Nat} {mk : MK} {t cuts : List (List Int)} {v u : Value} {N F : Nat → Prop} {b1 b2 b4 b5 : Nat} {w w' : World} (h : Caught g mk t cuts v u N b1 b2 b4 b5 w) (hN : ∀ k, N k → ¬ F k) (f : Frame F w w') : Caught g mk t cuts v u N b1 b2 b4 b5 w' := h.keep f.size (fun k hk hn => f.block k hk (hN k hn))

/-- what one key leaves -/
def KeyEnd {σ : Type} (g : Nat) (mk : MK) (v : Value) (limit : Int) (Fv : FuncId) (caps : Array Value) (Inv : (Nat → Prop) → σ → World → Prop) (bm : Nat) (F : Nat → Prop) (w : World) (p : GS σ × Bool) (w' : World) : Prop :=
  ∃ F', InvG g mk v limit Fv caps Inv bm F' p w' ∧ (∀ k, F' k → F k ∨ w.heap.size ≤ k) ∧ Frame F w w'
section
variable {σ : Type} {g : Nat} {mk : MK} {v : Value} {limit : Int} {Fv : FuncId} {caps : Array Value} {w0 : World} {F0 : Nat → Prop} {Inv : (Nat → Prop) → σ → World → Prop} {step : σ → List (List Int) → σ} {more : σ → List (List Int) → Bool} {msz : σ → Nat} {Ok : List (List Int) → Prop} {bm : Nat} {F : Nat → Prop} {p : GS σ × Bool} {w w' : World}
theorem end_over (V : VisitD Fv caps w0 F0 Inv step more msz Ok) (h : InvG g mk v limit Fv caps Inv bm F p w) {wq : World} (e : Ext w wq) : KeyEnd g mk v limit Fv caps Inv bm F w (⟨p.1.tries, true, p.1.val⟩, false) ((wq.setCell ⟨g, 8, none⟩ (.bool true)).setCell ⟨bm, 0, none⟩ (.bool false)) :=
  ⟨F, ((h.ext V e).setOver V true).setFlag V false, fun k hk => .inl hk, Frame.trans (Frame.trans (Frame.of_ext e) (frame_set h.ne.2) (fun i hi _ => hi)) (frame_set h.box) (fun i hi _ => hi)⟩
theorem end_no (V : VisitD Fv caps w0 F0 Inv step more msz Ok) (h : InvG g mk v limit Fv caps Inv bm F p w) {wq : World} (e : Ext w wq) (x : Int) (e' : Ext (wq.setCell ⟨g, 7, none⟩ (.int .i64 x)) w') : KeyEnd g mk v limit Fv caps Inv bm F w (⟨x, p.1.over, p.1.val⟩, p.2) w' :=
  ⟨F, ((h.ext V e).setTries V x).ext V e', fun k hk => .inl hk, Frame.trans (Frame.trans (Frame.of_ext e) (frame_set h.ne.2) (fun i hi _ => hi)) (Frame.of_ext e') (fun i hi _ => hi)⟩
theorem end_yes (V : VisitD Fv caps w0 F0 Inv step more msz Ok) (h : InvG g mk v limit Fv caps Inv bm F p w) {G G' : Nat → Prop} (hG : ∀ k, G k → F k ∧ k ≠ bm) {wq wa wb : World} (e : Ext w wq) (x : Int) (e1 : Ext (wq.setCell ⟨g, 7, none⟩ (.int .i64 x)) wa) {s : GS σ} (i' : GoAt g mk v limit Fv caps Inv G' s wb) (g' : ∀ k, G' k → G k ∨ wa.heap.size ≤ k) (f' : Frame G wa wb) (b : Bool) :
    KeyEnd g mk v limit Fv caps Inv bm F w (s, b) (wb.setCell ⟨bm, 0, none⟩ (.bool b)) := by
  have A := ((h.ext V e).setTries V x).ext V e1
  have fa : Frame F w wa := Frame.trans (Frame.trans (Frame.of_ext e) (frame_set h.ne.2) (fun i hi _ => hi)) (Frame.of_ext e1) (fun i hi _ => hi)
  have hb : wb.heap[bm]? = wa.heap[bm]? := f'.block bm (A.lt bm A.box) (fun q => (hG bm q).2 rfl)
  obtain ⟨i2, g2, f2⟩ := InvG.below V (World.cell?_of_block (a := ⟨bm, 0, none⟩) hb) (World.frozen?_of_block (a := ⟨bm, 0, none⟩) hb) A.flag A.free A.box A.lt hG i' g' f'
  exact ⟨_, i2.setFlag V b, fun k hk => (g2 k hk).elim .inl (fun q => .inr (Nat.le_trans fa.size q)), Frame.trans (Frame.trans fa f2 (fun i hi _ => hi)) (frame_set h.box) (fun i hi _ => hi)⟩

set_option maxRecDepth 20000 in
set_option maxHeartbeats 800000 in
theorem goOn1_c (V : VisitD Fv caps w0 F0 Inv step more msz Ok) {t cuts : List (List Int)} {n : Nat} (hgo : GoN g mk v t limit Fv caps w0 F0 Inv step more msz n) (okS : SysOk mk t) (hl : cuts.length + (n + 1) = t.length) (hks : ∀ r ∈ cuts, KeyOk mk r) (hf0 : faults mk t cuts = 0) (hlim : I64 limit)
    {N : Nat → Prop} {b1 b2 b4 b5 : Nat} {u : Value} (w : World) (hI : InvG g mk v limit Fv caps Inv bm F p w) (h0 : 0 ≤ p.1.tries) (h1 : p.1.tries ≤ limit) (hm : (msz p.1.val : Int) ≤ p.1.tries) (hF : ∀ k, F k → F0 k ∨ w0.heap.size ≤ k) (hK : Kept F0 w0 w) (hC : Caught g mk t cuts v u N b1 b2 b4 b5 w) (hN : ∀ k, N k → ¬ F k)
    (v4 : Value) (z4 : Zone) (key : List Int) (hk : IntsR z4 w v4 key) (hz4 : ∀ k, z4.Has k → ¬ F k) (kok : KeyOk mk key) :
    Calls Tryz.prog 168 #[v4, .pointer (some ⟨b1, 0, none⟩), .pointer (some ⟨b2, 0, none⟩), .pointer (some ⟨bm, 0, none⟩), .pointer (some ⟨b4, 0, none⟩), .pointer (some ⟨b5, 0, none⟩)] w
      (fun e w' => e = .returned (.bool (moreG (stays mk t cuts) (fun k s => goV mk t limit step more n (cuts ++ [k]) s) limit p key)) ∧ KeyEnd g mk v limit Fv caps Inv bm F w (stepG (stays mk t cuts) (fun k s => goV mk t limit step more n (cuts ++ [k]) s) limit p key) w') := by
  have hnn := fun (w' : World) => run_neq_slice_nil_any (P := Tryz.prog) w' 41 2 none 0 0 0 0 Tryz.underlying41
  have HI := Lib.hid hI
  obtain ⟨G, hG, hGF⟩ := hI.val
  obtain ⟨c1, c2, c3, c4, c5, c6⟩ := hG.sys
  have c6 := hG.c6
  have c7 := hG.c7
  have c8 := hG.c8
  have f7 := hG.f7
  have f8 := hG.f8
  have d1 := hC.c1.1
  have d2 := hC.c2.1
  have dm := hI.flag
  have fm := hI.free
  obtain ⟨a4, n4, k4, rfl, -⟩ := SliceR.shape hk
  by_cases ht : p.1.tries = limit
  · have HEnd := Lib.hid (fun (wq : World) (e : Ext w wq) => end_over V hI e)
    have HS : Hid (stepG (stays mk t cuts) (fun k s => goV mk t limit step more n (cuts ++ [k]) s) limit p key = (⟨p.1.tries, true, p.1.val⟩, false)) := stepG_over ht
    have hb : (p.1.tries == limit) = true := by rw [beq_iff_eq]; exact ht
    unfold moreG
    clear hgo okS hl hks hf0 hlim h0 h1 hm hF hK hC hN hk hz4 kok hG hGF hI ht
    go_enter Tryz.func168, Tryz.ntmps168
    go_wp2_with fail
    go_quiet (fail)
    have eD : Ext w (w.drewN nq) := Ext.drewN _ _
    have x2 := eD.cell d2
    have x8 := eD.cell c8
    have xm := eD.cell dm
    have y8 : (w.drewN nq).frozen? ⟨g, 8, none⟩ = false := f8
    have ym : (w.drewN nq).frozen? ⟨bm, 0, none⟩ = false := fm
    generalize w.drewN nq = wD at *
    clear hnn c1 c2 c3 c4 c5 c6 c7 f7 d1 d2 dm fm c8 f8
    go_wp2_with fail
    go_ret
    rw [HS.out]
    exact ⟨rfl, HEnd.out wD eD⟩
  · obtain ⟨bl, br, bc, bs, vl, zl, vr, zr, ⟨q1, q2⟩, q3, q4, q5, q6, q7, q8, q9, q10, q11, q12, q13, q14⟩ := hC.stay
    obtain ⟨z, z1, z2⟩ := hC.rows
    have hpo : PartOk mk t cuts := ⟨okS, by omega, hks⟩
    have hgF := hI.ne
    have HSt : Hid (∀ w', Frame F w w' → Calls Tryz.prog 182 #[.slice a4 n4 k4, .pointer (some ⟨bl, 0, none⟩), .pointer (some ⟨br, 0, none⟩), .pointer (some ⟨bc, 0, none⟩), .pointer (some ⟨bs, 0, none⟩)] w' (Ret w' fun r _ => r = .bool (stays mk t cuts key))) := fun w' f => by
      have C := hC.frame hN f
      have hc : ∀ {k i : Nat} {x : Value}, w.cell? ⟨k, i, none⟩ = some x → N k → w'.cell? ⟨k, i, none⟩ = some x := fun h1 h2 => Frame.cell f (hN _ h2) h1
      exact stays1_c w' mk v z t (stable_rows.keep z1 (fun k hk hl => f.block k hl (hN k (z2 k hk)))) u _ cuts C.crows.rows hpo (by omega) _ z4 key (stable_ints.keep hk (fun k hk hl => f.block k hl (hz4 k hk))) kok vl zl (stable_locks.keep q3 (fun k hk hl => f.block k hl (hN k (q9 k hk)))) vr zr (stable_ints.keep q4 (fun k hk hl => f.block k hl (hN k (q10 k hk)))) bl br bc bs (hc q5 q11) (hc q6 q12) (hc q7 q13) ⟨hc q8.c0 q14, hc q8.c1 q14, hc q8.c2 q14, hc q8.c3 q14, hc q8.c4 q14, hc q8.c5 q14⟩
    have HNo := Lib.hid (fun (wq w' : World) (e : Ext w wq) (e' : Ext (wq.setCell ⟨g, 7, none⟩ (.int .i64 (p.1.tries + 1))) w') => end_no V hI e (p.1.tries + 1) e')
    have HS0 : Hid (stays mk t cuts key = false → stepG (stays mk t cuts) (fun k s => goV mk t limit step more n (cuts ++ [k]) s) limit p key = (⟨p.1.tries + 1, p.1.over, p.1.val⟩, p.2)) := fun h => stepG_no ht h
    have HS1 : Hid (stays mk t cuts key = true → stepG (stays mk t cuts) (fun k s => goV mk t limit step more n (cuts ++ [k]) s) limit p key = ((goV mk t limit step more n (cuts ++ [key]) ⟨p.1.tries + 1, p.1.over, p.1.val⟩).2, (goV mk t limit step more n (cuts ++ [key]) ⟨p.1.tries + 1, p.1.over, p.1.val⟩).1)) := fun h => stepG_yes ht h
    have HFr : Hid (∀ wq, Ext w wq → Frame F w (wq.setCell ⟨g, 7, none⟩ (.int .i64 (p.1.tries + 1)))) := fun wq e => Frame.trans (Frame.of_ext e) (frame_set hgF.2) (fun i hi _ => hi)
    have HCf : Hid (∀ w', Frame F w w' → Caught g mk t cuts v u N b1 b2 b4 b5 w') := fun w' f => hC.frame hN f
    have hb : (p.1.tries == limit) = false := by simpa using ht
    have hw : IntKind.i64.wrap (p.1.tries + 1) = p.1.tries + 1 := by rw [IntWalk.i64_in _ (by have := hlim; unfold I64 at *; omega)]
    have hg4 : b4 ≠ g := fun e => hN b4 q2 (e ▸ hgF.2)
    have hgb := hgF.1
    have HGo : Hid (stays mk t cuts key = true → ∀ (wq wx : World) (u' : Value), Ext w wq → Ext (wq.setCell ⟨g, 7, none⟩ (.int .i64 (p.1.tries + 1))) wx → RowsA (fun k => N k ∨ w.heap.size ≤ k) wx u' (cuts ++ [key]) →
        Calls Tryz.prog 142 #[.pointer (some ⟨g, 0, none⟩), u', .slice none 0 0] wx (GoR g mk v limit Fv caps Inv G (goV mk t limit step more n (cuts ++ [key]) ⟨p.1.tries + 1, p.1.over, p.1.val⟩) wx)) := fun hq wq wx u' e ex hr => by
      have f : Frame F w wx := Frame.trans (HFr.out wq e) (Frame.of_ext ex) (fun i hi _ => hi)
      obtain ⟨z', z1', z2'⟩ := (HCf.out wx f).rows
      have hfk := stays_part hpo (by omega) hf0 kok
      rw [hq, decide_eq_true_iff] at hfk
      refine hgo (cuts ++ [key]) G ⟨p.1.tries + 1, p.1.over, p.1.val⟩ wx z' (fun k => N k ∨ w.heap.size ≤ k) u' (((hG.ext V e).tries V (p.1.tries + 1)).ext V ex) (fun k hk => hF k (hGF k hk).1) ⟨Nat.le_trans hK.size f.size, fun k hk hn => (f.block k (Nat.lt_of_lt_of_le hk hK.size) (fun q => (hF k q).elim hn (fun q => by omega))).trans (hK.block k hk hn)⟩ z1' (fun k hk q => hN k (z2' k hk) (hGF k q).1) hr (fun k hk q => hk.elim (fun h => hN k h (hGF k q).1) (fun h => by have := hG.lt k q; omega)) (by simp; omega) (fun r hr => ?_) hfk (by show 0 ≤ p.1.tries + 1; omega) (by show p.1.tries + 1 ≤ limit; omega) (by show (msz p.1.val : Int) + _ ≤ p.1.tries + 1; split <;> omega)
      rcases List.mem_append.1 hr with hr | hr
      · exact hks r hr
      · rw [List.mem_singleton.1 hr]; exact kok
    have HYes := Lib.hid (fun (wq wa wb : World) (G' : Nat → Prop) (s : GS σ) (b : Bool) (e : Ext w wq) (e1 : Ext (wq.setCell ⟨g, 7, none⟩ (.int .i64 (p.1.tries + 1))) wa) (i' : GoAt g mk v limit Fv caps Inv G' s wb) (g' : ∀ k, G' k → G k ∨ wa.heap.size ≤ k) (f' : Frame G wa wb) => end_yes V hI hGF e (p.1.tries + 1) e1 i' g' f' b)
    have HnG : Hid (¬ G b2 ∧ ¬ G b5 ∧ ¬ G bm ∧ b2 ≠ bm ∧ b5 ≠ bm) := ⟨fun q => hN _ hC.c2.2 (hGF _ q).1, fun q => hN _ hC.c5.2 (hGF _ q).1, fun q => (hGF _ q).2 rfl, fun e => hN _ hC.c2.2 (e ▸ hI.box), fun e => hN _ hC.c5.2 (e ▸ hI.box)⟩
    have HKey : Hid (∀ w', Frame F w w' → IntsR z4 w' (.slice a4 n4 k4) key) := fun w' f => stable_ints.keep hk (fun k hk hl => f.block k hl (hz4 k hk))
    have HM : Hid (∀ x ∈ key, I64 x) := IntsR.mem hk
    have HLen : Hid (cuts.length ≤ 1000 ∧ key.length ≤ 1000) := ⟨by have := okS.len; omega, by have q1 := okS.mk1; have q2 := kok.len; omega⟩
    unfold moreG
    generalize stays mk t cuts key = q at *
    clear hgo okS hl hks hf0 hlim h0 h1 hm hF hK hC hN hk hz4 kok hG hGF hI ht q2 q3 q4 q5 q6 q7 q8 q9 q10 q11 q12 q13 q14 z1 z2 hpo hgF
    go_enter Tryz.func168, Tryz.ntmps168
    go_wp2_with fail
    go_quiet (fail)
    have eD : Ext w (w.drewN nq) := Ext.drewN _ _
    have x2 := eD.cell d2
    have x7 := eD.cell c7
    have x4 := eD.cell q1
    have y7 : (w.drewN nq).frozen? ⟨g, 7, none⟩ = false := f7
    generalize w.drewN nq = wD at *
    clear hnn c1 c2 c3 c4 c5 c6 c7 f7 d1 d2 c8 f8 q1
    have fD := HFr.out wD eD
    have u4 : (wD.setCell ⟨g, 7, none⟩ (.int .i64 (p.1.tries + 1))).cell? ⟨b4, 0, none⟩ = _ := (go_cellF (a := ⟨b4, 0, none⟩) hg4).trans x4
    have hGs := Tryz.goesStays1
    unfold Goes at hGs
    go_wp2_with fail
    refine Calls.mono (HSt.out _ fD) ?_
    rintro e w1 hr
    obtain ⟨r, rfl, rfl, e1⟩ := ret_ext hr
    clear hr
    have xm : w1.cell? ⟨bm, 0, none⟩ = some (.bool p.2) := e1.cell ((go_cellF (a := ⟨bm, 0, none⟩) (fun e => hgb e.symm)).trans (eD.cell dm))
    cases q with
    | false =>
      go_wp2_with fail
      go_ret
      rw [HS0.out (by trivial)]
      exact ⟨rfl, HNo.out wD w1 eD e1⟩
    | true =>
      have fa : Frame F w w1 := Frame.trans fD (Frame.of_ext e1) (fun i hi _ => hi)
      have C1 := HCf.out w1 fa
      have hsz : w.heap.size ≤ w1.heap.size := fa.size
      have k1 := HKey.out w1 fa
      have fm1 : w1.frozen? ⟨bm, 0, none⟩ = false := (Below.frozen e1 (World.block_lt_of_cell? _ _ ((go_cellF (a := ⟨bm, 0, none⟩) (fun e => hgb e.symm)).trans (eD.cell dm)))).trans ((go_frozenF (a := ⟨bm, 0, none⟩) (fun e => hgb e.symm)).trans ((Below.frozen eD (World.block_lt_of_cell? _ _ dm)).trans fm))
      have HC1 := Lib.hid (fun (w' : World) (e : Ext w1 w') => CloneRows_c w' u N cuts (C1.crows.ext e) HLen.out.1)
      have HC2 := Lib.hid (fun (w' : World) (e : Ext w1 w') => Clone_c w' _ z4 key (stable_ints.ext k1 e) (Nat.le_trans HLen.out.2 (by decide)))
      have HG2 := Lib.hid (fun (wx : World) (u' : Value) (ex : Ext w1 wx) (hr : RowsA (fun k => N k ∨ w1.heap.size ≤ k) wx u' (cuts ++ [key])) => HGo.out rfl wD wx u' eD (e1.trans ex) (hr.mono (fun k h _ => h.elim .inl (fun q => .inr (Nat.le_trans hsz q)))))
      have HY2 := Lib.hid (fun (wa wb : World) (G' : Nat → Prop) (s : GS σ) (b : Bool) (ex : Ext w1 wa) (i' : GoAt g mk v limit Fv caps Inv G' s wb) (g' : ∀ k, G' k → G k ∨ wa.heap.size ≤ k) (f' : Frame G wa wb) => HYes.out wD wa wb G' s b eD (e1.trans ex) i' g' f')
      have HS2 := HS1.out rfl
      clear HYes HGo HNo HS0 HS1 HCf HKey HSt HFr hsz fD fa x2 x7 x4 y7 u4
      generalize goV mk t limit step more n (cuts ++ [key]) ⟨p.1.tries + 1, p.1.over, p.1.val⟩ = res at *
      have Hl : Hid (cuts.length + 1 ≤ 1099511627776) := by have := HLen.out.1; show _ ≤ _; omega
      obtain ⟨a5, n5, k5, rfl, -⟩ := SliceR.shape C1.crows.rows
      have HCel : Hid (∀ w', Ext w1 w' → w'.cell? ⟨b2, 0, none⟩ = some (.pointer (some ⟨g, 0, none⟩)) ∧ w'.cell? ⟨b5, 0, none⟩ = some (.slice a5 n5 k5)) := fun w' e => ⟨e.cell C1.c2.1, e.cell C1.c5.1⟩
      have HCel2 : Hid (∀ wa wb, Ext w1 wa → Frame G wa wb → wb.cell? ⟨b2, 0, none⟩ = some (.pointer (some ⟨g, 0, none⟩)) ∧ wb.cell? ⟨b5, 0, none⟩ = some (.slice a5 n5 k5)) := fun wa wb e f => ⟨Frame.cell f HnG.out.1 (HCel.out wa e).1, Frame.cell f HnG.out.2.1 (HCel.out wa e).2⟩
      have HCel3 : Hid (∀ wa wb (b : Value), Ext w1 wa → Frame G wa wb → (wb.setCell ⟨bm, 0, none⟩ b).cell? ⟨b2, 0, none⟩ = some (.pointer (some ⟨g, 0, none⟩)) ∧ (wb.setCell ⟨bm, 0, none⟩ b).cell? ⟨b5, 0, none⟩ = some (.slice a5 n5 k5)) := fun wa wb b e f => ⟨(go_cellF (a := ⟨b2, 0, none⟩) HnG.out.2.2.2.1).trans (HCel2.out wa wb e f).1, (go_cellF (a := ⟨b5, 0, none⟩) HnG.out.2.2.2.2).trans (HCel2.out wa wb e f).2⟩
      have HFl : Hid (∀ wa wb, Ext w1 wa → Frame G wa wb → wb.cell? ⟨bm, 0, none⟩ = some (.bool p.2) ∧ wb.frozen? ⟨bm, 0, none⟩ = false) := fun wa wb e f => by
        have hlt := World.block_lt_of_cell? _ _ xm
        have hb := f.block bm (Nat.lt_of_lt_of_le hlt e.size) HnG.out.2.2.1
        exact ⟨(World.cell?_of_block (a := ⟨bm, 0, none⟩) hb).trans (e.cell xm), (World.frozen?_of_block (a := ⟨bm, 0, none⟩) hb).trans ((Below.frozen e hlt).trans fm1)⟩
      clear C1 k1 dm fm fm1 xm
      obtain ⟨y2, y5⟩ := HCel.out w1 (Ext.refl _)
      have hr0 := Ext.refl w1
      go_wp2_with fail
      (go_region_held3 (fun w' => w'.cell? ⟨b2, 0, none⟩ = some (.pointer (some ⟨g, 0, none⟩)) ∧ w'.cell? ⟨b5, 0, none⟩ = some (.slice a5 n5 k5)) (first | exact HCel3.out _ _ _ (by repeat (first | exact Ext.refl _ | assumption | (refine Ext.trans ?_ (Ext.alloc _ _)) | (refine Ext.trans ?_ (Ext.drew _)) | (refine Ext.trans ?_ (by assumption)))) f' | exact HCel2.out _ _ (by repeat (first | exact Ext.refl _ | assumption | (refine Ext.trans ?_ (Ext.alloc _ _)) | (refine Ext.trans ?_ (Ext.drew _)) | (refine Ext.trans ?_ (by assumption)))) f' | exact HCel.out _ (by repeat (first | exact Ext.refl _ | assumption | (refine Ext.trans ?_ (Ext.alloc _ _)) | (refine Ext.trans ?_ (Ext.drew _)) | (refine Ext.trans ?_ (by assumption))))) (first | (go_at_call 169; (with_reducible refine (HC1.out _ (by repeat (first | exact Ext.refl _ | assumption | (refine Ext.trans ?_ (Ext.alloc _ _)) | (refine Ext.trans ?_ (Ext.drew _)) | (refine Ext.trans ?_ (by assumption))))).mono ?_); rintro e w7 hr7; obtain ⟨r7, rfl, o7, e7⟩ := ret_ext hr7; clear hr7; obtain ⟨a7, n7, k7, rfl, -⟩ := OwnA.shape o7) | (go_at_call 112; (with_reducible refine (HC2.out _ (by repeat (first | exact Ext.refl _ | assumption | (refine Ext.trans ?_ (Ext.alloc _ _)) | (refine Ext.trans ?_ (Ext.drew _)) | (refine Ext.trans ?_ (by assumption))))).mono ?_); rintro e w8 hr8; obtain ⟨r8, rfl, o8, e8⟩ := ret_ext hr8; clear hr8; obtain ⟨a8, n8, k8, rfl, -⟩ := o8.shape) | (refine step_append_of (by rfl) _ _ 30 (by rfl) (by rfl) (by rfl) (fun ty => run_joinC (u := (a8, n8, k8)) 30 ty Tryz.underlying30 Tryz.infoInts o7 (OwnP.ints o8 HM.out (Nat.le_refl _)) Hl.out (base := w1) (by repeat (first | exact Ext.refl _ | assumption | (refine Ext.trans ?_ (Ext.alloc _ _)) | (refine Ext.trans ?_ (Ext.drew _)) | (refine Ext.trans ?_ (by assumption)))) (by repeat (first | exact Ext.refl _ | assumption | (refine Ext.trans ?_ (Ext.alloc _ _)) | (refine Ext.trans ?_ (Ext.drew _)) | (refine Ext.trans ?_ (by assumption)))) e7 e8 (by first | exact .inl ⟨(by repeat (first | exact Ext.refl _ | assumption | (refine Ext.trans ?_ (Ext.alloc _ _)) | (refine Ext.trans ?_ (Ext.drew _)) | (refine Ext.trans ?_ (by assumption)))), (by repeat (first | exact Ext.refl _ | assumption | (refine Ext.trans ?_ (Ext.alloc _ _)) | (refine Ext.trans ?_ (Ext.drew _)) | (refine Ext.trans ?_ (by assumption))))⟩ | exact .inr ⟨(by repeat (first | exact Ext.refl _ | assumption | (refine Ext.trans ?_ (Ext.alloc _ _)) | (refine Ext.trans ?_ (Ext.drew _)) | (refine Ext.trans ?_ (by assumption)))), (by repeat (first | exact Ext.refl _ | assumption | (refine Ext.trans ?_ (Ext.alloc _ _)) | (refine Ext.trans ?_ (Ext.drew _)) | (refine Ext.trans ?_ (by assumption))))⟩) (by first | (simp [slV]; done) | (refine Ext.cell e7 ?_; simp [slV]; done))) ?_; intro v9 w9 h9; obtain ⟨x9, e9⟩ := h9; obtain ⟨a9, k9, hv9⟩ := RowsA.len x9; rw [List.length_append, List.length_singleton] at hv9; subst hv9; clear o7 o8 e7 e8) | (go_at_call 142; (with_reducible refine (HG2.out _ _ (by repeat (first | exact Ext.refl _ | assumption | (refine Ext.trans ?_ (Ext.alloc _ _)) | (refine Ext.trans ?_ (Ext.drew _)) | (refine Ext.trans ?_ (by assumption)))) (by first | exact x9 | exact x9.ext (by repeat (first | exact Ext.refl _ | assumption | (refine Ext.trans ?_ (Ext.alloc _ _)) | (refine Ext.trans ?_ (Ext.drew _)) | (refine Ext.trans ?_ (by assumption)))))).mono ?_); rintro e wb ⟨rfl, G', i', g', f'⟩; obtain ⟨d1, d2⟩ := HFl.out _ _ (by repeat (first | exact Ext.refl _ | assumption | (refine Ext.trans ?_ (Ext.alloc _ _)) | (refine Ext.trans ?_ (Ext.drew _)) | (refine Ext.trans ?_ (by assumption)))) f') | fail))
      all_goals
        go_wp2_with fail
        go_ret
        rw [HS2]
        exact ⟨rfl, HY2.out _ _ G' _ _ (by repeat (first | exact Ext.refl _ | assumption | (refine Ext.trans ?_ (Ext.alloc _ _)) | (refine Ext.trans ?_ (Ext.drew _)) | (refine Ext.trans ?_ (by assumption)))) i' g' f'⟩
end
end Go.Proofs.YthgmojggpjnckaaGreat
