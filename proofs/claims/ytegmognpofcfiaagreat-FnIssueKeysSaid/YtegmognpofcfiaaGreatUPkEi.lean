/- Proved: the program's visit of all keys that can be issued; a variable of the call's own that holds a list of rows; and the visit of keys that collects them; IssueKeys of the program; EasiestKey of the reference; EasiestKey of the program. -/
import Derived.Test.YtegmognpofcfiaaGreatChecked
import Derived.Laws.EntriesVeiled
import Derived.Deep.RegionLaw
import Derived.Deep.RegionHeld3
import Derived.Test.YtegmognpofcfiaaGreatUPkEk
import Derived.Test.YtegmognpofcfiaaGreatUIssueLaw
import Derived.Test.YtegmognpofcfiaaGreatUPkSt
import Derived.Test.YtegmognpofcfiaaGreatUPkE
import Derived.Test.YtegmognpofcfiaaGreatURowCode
import Derived.Test.YtegmognpofcfiaaGreatUPkIf
import Derived.Test.YtegmognpofcfiaaGreatUCands
import Derived.Test.YtegmognpofcfiaaGreatURowCodeSpec
import Derived.Test.YtegmognpofcfiaaGreatUChanged
namespace Go.Proofs.YtegmognpofcfiaaGreat
open Go.ChangeShapes Go.WideShapes Go.ChangeAt Go.RowKit
set_option linter.unusedVariables false

theorem Tryz.goesStaysOpen1 : Goes Tryz.prog 201 := goes_of Tryz.func201 (by kernel_rfl) (by kernel_rfl)
theorem Tryz.goesEachIssue1 : Goes Tryz.prog 204 := goes_of Tryz.func204 (by kernel_rfl) (by kernel_rfl)

set_option maxRecDepth 20000 in
set_option maxHeartbeats 2000000 in
/-- the closure: a key that stays is visited -/
theorem eachIssue1_c {σ : Type} {Fv : FuncId} {caps : Array Value} {w0 : World} {F0 : Nat → Prop} {Inv : (Nat → Prop) → σ → World → Prop} {step : σ → List Int → σ} {more : σ → List Int → Bool} {Ok : List Int → Prop} (V : VisitK Fv caps w0 F0 Inv step more Ok)
    {mk : MK} {t cuts : List (List Int)} (ok : PartOk mk t cuts) (hlast : cuts.length < t.length) {F : Nat → Prop} {s : σ} (w : World) (hI : Inv F s w) (hF : ∀ k, F k → F0 k ∨ w0.heap.size ≤ k) (hK : Kept F0 w0 w)
    {b8 b7 bl br bc bs : Nat} {v u vl vr : Value} {z y zl zr : Zone} (h : RowsR z w v t) (hc : RowsR y w u cuts) (hL : LocksR zl w vl (locks mk t cuts)) (hr : IntsR zr w vr (t.getD cuts.length [])) (cl : w.cell? ⟨bl, 0, none⟩ = some vl) (cr : w.cell? ⟨br, 0, none⟩ = some vr) (cc : w.cell? ⟨bc, 0, none⟩ = some u) (S0 : SysAt w bs mk v)
    (c8 : w.cell? ⟨b8, 0, none⟩ = some (.func (.func 201) #[] #[.pointer (some ⟨bl, 0, none⟩), .pointer (some ⟨br, 0, none⟩), .pointer (some ⟨bc, 0, none⟩), .pointer (some ⟨bs, 0, none⟩)])) (c7 : w.cell? ⟨b7, 0, none⟩ = some (.func (.func Fv) #[] caps))
    (v4 : Value) (z4 : Zone) (key : List Int) (hk : IntsR z4 w v4 key) (kok : KeyOk mk key) (hOk : Ok key) :
    Calls Tryz.prog 204 #[v4, .pointer (some ⟨b8, 0, none⟩), .pointer (some ⟨b7, 0, none⟩)] w (fun e w' => e = .returned (.bool (!stays mk t cuts key || more s key)) ∧ ∃ F', Inv F' (if stays mk t cuts key = true then step s key else s) w' ∧ (∀ k, F' k → F k ∨ w.heap.size ≤ k) ∧ Frame F w w') := by
  have hGo := Tryz.goesStaysOpen1
  unfold Goes at hGo
  have hGv := V.goes
  unfold Goes at hGv
  have HS := Lib.hid (stays1_c w mk v z t h u y cuts hc ok hlast v4 z4 key hk kok vl zl hL vr zr hr bl br bc bs cl cr cc S0)
  have HV := Lib.hid (fun (w' : World) (e : Ext w w') => V.call w' v4 z4 key (V.keep hI (fun k hk => Below.block e k (V.fresh hI k hk)) e.size) hF (hK.ext e) (stable_ints.ext hk e) hOk)
  have HI := Lib.hid (fun (w' : World) (e : Ext w w') => V.keep hI (fun k hk => Below.block e k (V.fresh hI k hk)) e.size)
  generalize stays mk t cuts key = q at *
  obtain ⟨a4, n4, k4, rfl, -⟩ := SliceR.shape hk
  clear hI hK h hc hL hr cl cr cc S0 hk
  go_enter Tryz.func204, Tryz.ntmps204
  go_wp2_with fail
  refine Calls.mono HS.out ?_
  rintro e w1 hr
  obtain ⟨r, rfl, rfl, e1⟩ := ret_ext hr
  clear hr
  have c7' := e1.cell c7
  cases q with
  | false =>
    go_wp2_with fail
    go_ret
    exact ⟨rfl, F, HI.out w1 e1, fun k hk => .inl hk, Frame.of_ext e1⟩
  | true =>
    go_wp2_with fail
    refine Calls.mono (HV.out w1 e1) ?_
    rintro e w2 ⟨rfl, F', i2, g2, f2⟩
    have HR : Hid (∃ F', Inv F' (step s key) w2 ∧ (∀ k, F' k → F k ∨ w.heap.size ≤ k) ∧ Frame F w w2) := ⟨F', i2, fun k hk => (g2 k hk).elim .inl (fun q => .inr (Nat.le_trans e1.size q)), Frame.trans (Frame.of_ext (F := F) e1) f2 (fun i hi _ => hi)⟩
    go_wp2_with fail
    go_ret
    exact ⟨rfl, by simpa using HR.out⟩

theorem visitIssue {σ : Type} {Fv : FuncId} {caps : Array Value} {w0 w4 : World} {F0 : Nat → Prop} {Inv : (Nat → Prop) → σ → World → Prop} {step : σ → List Int → σ} {more : σ → List Int → Bool} {Ok : List Int → Prop} (V : VisitK Fv caps w0 F0 Inv step more Ok)
    {mk : MK} {t cuts : List (List Int)} (ok : PartOk mk t cuts) (hlast : cuts.length < t.length) (e4 : Ext w0 w4)
    {b8 b7 bl br bc bs : Nat} {v u vl vr : Value} {z y zl zr : Zone} (h : RowsR z w4 v t) (hc : RowsR y w4 u cuts) (hL : LocksR zl w4 vl (locks mk t cuts)) (hr : IntsR zr w4 vr (t.getD cuts.length [])) (cl : w4.cell? ⟨bl, 0, none⟩ = some vl) (cr : w4.cell? ⟨br, 0, none⟩ = some vr) (cc : w4.cell? ⟨bc, 0, none⟩ = some u) (S0 : SysAt w4 bs mk v)
    (c8 : w4.cell? ⟨b8, 0, none⟩ = some (.func (.func 201) #[] #[.pointer (some ⟨bl, 0, none⟩), .pointer (some ⟨br, 0, none⟩), .pointer (some ⟨bc, 0, none⟩), .pointer (some ⟨bs, 0, none⟩)])) (c7 : w4.cell? ⟨b7, 0, none⟩ = some (.func (.func Fv) #[] caps))
    (hz : ∀ k, z.Has k → ¬ F0 k) (hy : ∀ k, y.Has k → ¬ F0 k) (hzl : ∀ k, zl.Has k → ¬ F0 k) (hzr : ∀ k, zr.Has k → ¬ F0 k) (hbl : ¬ F0 bl) (hbr : ¬ F0 br) (hbc : ¬ F0 bc) (hbs : ¬ F0 bs) (h8 : ¬ F0 b8) (h7 : ¬ F0 b7) :
    VisitK 204 #[.pointer (some ⟨b8, 0, none⟩), .pointer (some ⟨b7, 0, none⟩)] w4 F0 Inv (fun s k => if stays mk t cuts k = true then step s k else s) (fun s k => !stays mk t cuts k || more s k) (fun k => Ok k ∧ KeyOk mk k) where
  goes := Tryz.goesEachIssue1
  keep := V.keep
  fresh := V.fresh
  call := by
    intro F s W v4 z4 key hI hF hK hk hok
    have K : Kept F0 w0 W := hK.back e4
    refine eachIssue1_c V ok hlast W hI (fun k hk => (hF k hk).elim .inl (fun q => .inr (Nat.le_trans e4.size q))) K (hK.read stable_rows h hz) (hK.read stable_rows hc hy) (hK.read stable_locks hL hzl) (hK.read stable_ints hr hzr) (hK.cell hbl cl) (hK.cell hbr cr) (hK.cell hbc cc) ⟨hK.cell hbs S0.c0, hK.cell hbs S0.c1, hK.cell hbs S0.c2, hK.cell hbs S0.c3, hK.cell hbs S0.c4, hK.cell hbs S0.c5⟩ (hK.cell h8 c8) (hK.cell h7 c7) v4 z4 key hk hok.2 hok.1

set_option maxRecDepth 20000 in
set_option maxHeartbeats 2000000 in
theorem eachIssue_c {σ : Type} {Fv : FuncId} {caps : Array Value} {w : World} {F0 : Nat → Prop} {Inv : (Nat → Prop) → σ → World → Prop} {step : σ → List Int → σ} {more : σ → List Int → Bool} {Ok : List Int → Prop} (V : VisitK Fv caps w F0 Inv step more Ok)
    (mk : MK) (v : Value) (z : Zone) (t : List (List Int)) (h : RowsR z w v t) (u : Value) (y : Zone) (cuts : List (List Int)) (hc : RowsR y w u cuts) (v3 : Value) (z3 : Zone) (row : List Int) (hr : IntsR z3 w v3 row) (ok : RowCodeOk mk t cuts row []) (hy : ∀ k, y.Has k → ¬ F0 k)
    (hOk : ∀ k ∈ allK mk, Ok k) (s : σ) (hI : Inv F0 s w) :
    Calls Tryz.prog 132 #[sysV mk v, u, v3, .func (.func Fv) #[] caps] w (EachEnd Inv F0 w (visits step more s ((allK mk).filter (stays mk (t ++ [row]) cuts))).1) := by
  have hfr := V.fresh hI
  have hnf : ∀ k, w.heap.size ≤ k → ¬ F0 k := fun k hk hf => by have := hfr k hf; omega
  have hpo : PartOk mk (t ++ [row]) cuts := partOk_front ok
  have hlt : cuts.length < (t ++ [row]).length := by have := ok.eq; simp; omega
  have okm := designOk_mk ok.toDesignOk
  have HC1 := Lib.hid (fun (w' : World) (e : Ext w w') => withFirstI w' mk v z t (stable_rows.ext h e) v3 z3 row (stable_ints.ext hr e) ok)
  have HC2 := Lib.hid (fun (w' : World) (e : Ext w w') (v' : Value) (x1 : Zone) (g1 : RowsR x1 w' v' (t ++ [row])) (hx : ∀ k, x1.Has k → ¬ F0 k) => staysOpen_c w' mk v' x1 _ g1 u y cuts (stable_rows.ext hc e) hpo hlt (fun k => ¬ F0 k) (fun k hk => hnf k (Nat.le_trans e.size hk)) hx)
  have HV := Lib.hid (fun (w4 : World) (e4 : Ext w w4) (b8 b7 bl br bc bs : Nat) (v' vl vr : Value) (x1 zl zr : Zone) (g1 : RowsR x1 w4 v' (t ++ [row])) (hL : LocksR zl w4 vl (locks mk (t ++ [row]) cuts)) (hr : IntsR zr w4 vr ((t ++ [row]).getD cuts.length [])) (cl : w4.cell? ⟨bl, 0, none⟩ = some vl) (cr : w4.cell? ⟨br, 0, none⟩ = some vr) (cc : w4.cell? ⟨bc, 0, none⟩ = some u) (S0 : SysAt w4 bs mk v') (c8) (c7) (hx : ∀ k, x1.Has k → ¬ F0 k) (hzl : ∀ k, zl.Has k → ¬ F0 k) (hzr : ∀ k, zr.Has k → ¬ F0 k) (hbl : ¬ F0 bl) (hbr : ¬ F0 br) (hbc : ¬ F0 bc) (hbs : ¬ F0 bs) (h8 : w.heap.size ≤ b8) (h7 : w.heap.size ≤ b7) =>
    eachKeyK_c (visitIssue V hpo hlt e4 (b8 := b8) (b7 := b7) (bl := bl) (br := br) (bc := bc) (bs := bs) g1 (stable_rows.ext hc e4) hL hr cl cr cc S0 c8 c7 hx hy hzl hzr hbl hbr hbc hbs (hnf b8 h8) (hnf b7 h7)) mk okm (fun k hk => ⟨hOk k hk, allK_key okm hk⟩) s (V.keep hI (fun k hk => Below.block e4 k (hfr k hk)) e4.size))
  have HVF := Lib.hid (visits_filter (step := step) (more := more) (p := stays mk (t ++ [row]) cuts) (allK mk) s)
  have HNF := Lib.hid hnf
  have HFR := Lib.hid hfr
  obtain ⟨a, n, cap, rfl, -⟩ := SliceR.shape h
  obtain ⟨a2, n2, cap2, rfl, -⟩ := SliceR.shape hc
  obtain ⟨a3, n3, cap3, rfl, -⟩ := SliceR.shape hr
  clear h hc hr ok hpo hlt hfr hnf hI hOk hy
  have hGo := Tryz.goesEachIssue1
  unfold Goes at hGo
  unfold sysV MK.v at *
  go_enter Tryz.func132, Tryz.ntmps132
  go_wp2_with fail
  generalize hw0 : World.alloc (World.alloc _ _) _ = w0
  obtain ⟨e0, S0, c7⟩ : Ext w w0 ∧ SysAt w0 w.heap.size mk (.slice a n cap) ∧ w0.cell? ⟨w.heap.size + 1, 0, none⟩ = some (.func (.func Fv) #[] caps) := by
    subst hw0
    refine ⟨(Ext.alloc _ _).trans (Ext.alloc _ _), ⟨?_, ?_, ?_, ?_, ?_, ?_⟩, ?_⟩
    all_goals (clear HC1 HC2 HV HVF HNF HFR; go_simp; done)
  clear hw0
  have HS := Lib.hid S0
  have H7 := Lib.hid c7
  clear S0 c7
  refine Calls.mono (HC1.out w0 e0) ?_
  rintro e w1 hr
  obtain ⟨r, rfl, ⟨v', rfl, g1⟩, e1⟩ := ret_ext hr
  clear hr
  have et1 := e0.trans e1
  have hx1 : ∀ k, (⟨w0.heap.size, w1.heap.size, false⟩ : Zone).Has k → ¬ F0 k := fun k hk => HNF.out k (Nat.le_trans e0.size hk.1)
  have hcall := HC2.out w1 et1 v' _ g1 hx1
  have G1 := Lib.hid g1
  have HX1 := Lib.hid hx1
  obtain ⟨a5, n5, k5, rfl, -⟩ := SliceR.shape g1
  clear g1 hx1
  go_wp2_with fail
  refine Calls.mono hcall ?_
  rintro e w2 hr
  obtain ⟨r, rfl, ⟨bl, br, bc, bs, vl, zl, vr, zr, rfl, hL, hR, k1, k2, k3, S2, n1, n2', n3', n4, n5', n6⟩, e2⟩ := ret_ext hr
  clear hr hcall
  have et2 := et1.trans e2
  have HQ : Hid (LocksR zl w2 vl (locks mk (t ++ [row]) cuts) ∧ IntsR zr w2 vr ((t ++ [row]).getD cuts.length []) ∧ w2.cell? ⟨bl, 0, none⟩ = some vl ∧ w2.cell? ⟨br, 0, none⟩ = some vr ∧ w2.cell? ⟨bc, 0, none⟩ = some (.slice a2 n2 cap2) ∧ SysAt w2 bs mk (.slice a5 n5 k5) ∧ (∀ k, zl.Has k → ¬ F0 k) ∧ (∀ k, zr.Has k → ¬ F0 k) ∧ ¬ F0 bl ∧ ¬ F0 br ∧ ¬ F0 bc ∧ ¬ F0 bs) := ⟨hL, hR, k1, k2, k3, S2, n1, n2', n3', n4, n5', n6⟩
  clear hL hR k1 k2 k3 S2 n1 n2' n3' n4 n5' n6
  obtain ⟨c0, c1, c2, c3, c4, c5⟩ := HS.out.ext (e1.trans e2)
  have zb := World.block_lt_of_cell? _ _ c0
  simp only at zb
  have zb' := Nat.ne_of_lt zb
  have zb'' := Nat.ne_of_gt zb
  go_wp2_with fail
  generalize hw4 : World.alloc _ _ = w4
  obtain ⟨e4, c8⟩ : Ext w2 w4 ∧ w4.cell? ⟨w2.heap.size, 0, none⟩ = some (.func (.func 201) #[] #[.pointer (some ⟨bl, 0, none⟩), .pointer (some ⟨br, 0, none⟩), .pointer (some ⟨bc, 0, none⟩), .pointer (some ⟨bs, 0, none⟩)]) := by
    subst hw4
    exact ⟨Ext.alloc _ _, by go_simp⟩
  clear hw4 c0 c1 c2 c3 c4 c5 zb zb' zb''
  have et4 := et2.trans e4
  obtain ⟨hL, hR, k1, k2, k3, S2, n1, n2', n3', n4, n5', n6⟩ := HQ.out
  have c7 := (((e1.trans e2).trans e4).cell H7.out)
  refine Calls.mono (HV.out w4 et4 w2.heap.size (w.heap.size + 1) bl br bc bs _ vl vr _ zl zr (stable_rows.ext G1.out (e2.trans e4)) (stable_locks.ext hL e4) (stable_ints.ext hR e4) (e4.cell k1) (e4.cell k2) (e4.cell k3) (S2.ext e4) c8 c7 HX1.out n1 n2' n3' n4 n5' n6 et2.size (Nat.le_succ _)) ?_
  intro e w5 h5
  rw [HVF.out] at h5
  obtain ⟨rfl, F5, i5, g5, f5⟩ := h5
  have HR : Hid (EachEnd Inv F0 w (visits step more s ((allK mk).filter (stays mk (t ++ [row]) cuts))).1 (.returned (.tuple #[])) w5) := ⟨rfl, F5, i5, fun k hk => (g5 k hk).elim .inl (fun q => .inr (Nat.le_trans et4.size q)), Frame.trans (Frame.of_ext (F := F0) et4) f5 (fun i hi _ => hi)⟩
  clear hL hR k1 k2 k3 S2 n1 n2' n3' n4 n5' n6 c7 c8
  go_wp2_with fail
  go_end0
  exact HR.out

open Go.ChangeShapes Go.WideShapes Go.ChangeAt Go.RowKit
set_option linter.unusedVariables false

theorem OwnP.keepA {α : Type} {f : α → Value} {e : TypeId} {B : Nat} {w w' : World} {v : Value} {xs : List α} (h : OwnP f e B w v xs) (hown : ∀ k, v.ownBlock = some k → w'.heap[k]? = w.heap[k]?) : OwnP f e B w' v xs := by
  obtain ⟨h1, h2⟩ := h
  refine ⟨h1, ?_⟩
  rcases h2 with h2 | ⟨g, cap, cur, hv, hbg, hg, r⟩
  · exact .inl h2
  · exact .inr ⟨g, cap, cur, hv, hbg, by rw [hown g (by rw [hv]; rfl)]; exact hg, r⟩
theorem OwnA.keepA {α : Type} {b : Bool} {A : Nat → Prop} {E : Repr α} {e : TypeId} {B : Nat} {w w' : World} {v : Value} {xs : List α} (hE : Stable E) (h : OwnA b A E e B w v xs) (hA : ∀ k, A k → w'.heap[k]? = w.heap[k]?) (hown : ∀ k, v.ownBlock = some k → w'.heap[k]? = w.heap[k]?) (hs : w.heap.size ≤ w'.heap.size) : OwnA b A E e B w' v xs := by
  obtain ⟨us, Z, hl, ho, h1, h2, h3⟩ := h
  exact ⟨us, Z, hl, ho.keepA hown, fun i hi => ⟨(h1 i hi).1, fun k hk => ⟨((h1 i hi).2 k hk).1, Nat.lt_of_lt_of_le ((h1 i hi).2 k hk).2.1 hs, ((h1 i hi).2 k hk).2.2⟩⟩, h2, fun i hi hi' => hE.keep (h3 i hi hi') (fun k hz _ => hA k ((h1 i hi).2 k hz).1)⟩
theorem OwnA.raise {α : Type} {b : Bool} {A : Nat → Prop} {E : Repr α} {e : TypeId} {B B' : Nat} {w : World} {v : Value} {xs : List α} (h : OwnA b A E e B w v xs) (hB : ∀ k, v.ownBlock = some k → B' ≤ k) : OwnA b A E e B' w v xs := by
  obtain ⟨us, Z, hl, ho, h1, h2, h3⟩ := h
  exact ⟨us, Z, hl, ho.raise hB, h1, h2, h3⟩
/-- the variable b holds a list of rows; all of it lies in the blocks of F -/
structure RowsBox (b : Nat) (F : Nat → Prop) (s : List (List Int)) (w : World) (v : Value) : Prop where
  cell : w.cell? ⟨b, 0, none⟩ = some v
  free : w.frozen? ⟨b, 0, none⟩ = false
  own : OwnA true (fun k => F k ∧ k ≠ b) IntsR 29 0 w v s
  row : ∀ k, v.ownBlock = some k → F k ∧ k ≠ b
  box : F b
  lt : ∀ k, F k → k < w.heap.size
theorem RowsBox.keep {b : Nat} {F : Nat → Prop} {s : List (List Int)} {w w' : World} {v : Value} (h : RowsBox b F s w v) (hb : ∀ k, F k → w'.heap[k]? = w.heap[k]?) (hs : w.heap.size ≤ w'.heap.size) : RowsBox b F s w' v :=
  ⟨(World.cell?_of_block (a := ⟨b, 0, none⟩) (hb b h.box)).trans h.cell, (World.frozen?_of_block (a := ⟨b, 0, none⟩) (hb b h.box)).trans h.free, h.own.keepA stable_ints (fun k hk => hb k hk.1) (fun k hk => hb k (h.row k hk).1) hs, h.row, h.box, fun k hk => Nat.lt_of_lt_of_le (h.lt k hk) hs⟩
/-- a row of its own is appended, and the variable is written -/
theorem RowsBox.push {b : Nat} {F : Nat → Prop} {s s' : List (List Int)} {w w7 w8 : World} {v v8 : Value} (h : RowsBox b F s w v) (e7 : Ext w w7)
    (ha : AppA1 true (fun k => (F k ∧ k ≠ b) ∨ w.heap.size ≤ k) IntsR 29 0 w w7 v s' v8 w8) :
    RowsBox b (fun k => F k ∨ (w.heap.size ≤ k ∧ k < w8.heap.size)) s' (w8.setCell ⟨b, 0, none⟩ v8) v8 ∧ Frame F w (w8.setCell ⟨b, 0, none⟩ v8) := by
  obtain ⟨ho, -, hs, hg, hv⟩ := ha
  have hbl := h.lt b h.box
  have hs7 := e7.size
  have hbo : ¬ some b = v.ownBlock := fun e => (h.row b e.symm).2 rfl
  have hb8 : w8.heap[b]? = w.heap[b]? := (hg.block b (by omega) hbo).trans (Below.block e7 b hbl)
  have hset : ∀ k, k ≠ b → (w8.setCell ⟨b, 0, none⟩ v8).heap[k]? = w8.heap[k]? := fun k hk => Below.heap_setCell _ _ _ _ hk
  have hsz : (w8.setCell ⟨b, 0, none⟩ v8).heap.size = w8.heap.size := setCell_size _ _ _
  have hrow : ∀ k, v8.ownBlock = some k → (F k ∨ (w.heap.size ≤ k ∧ k < w8.heap.size)) ∧ k ≠ b := fun k hk => by
    rcases hv k hk with q | q
    · exact ⟨.inl (h.row k q).1, (h.row k q).2⟩
    · have := ho.block k hk
      exact ⟨.inr ⟨by omega, this.2⟩, by omega⟩
  refine ⟨⟨World.cell?_setCell_same _ _ _ ((World.cell?_of_block (a := ⟨b, 0, none⟩) hb8).trans h.cell), by rw [World.frozen?_setCell]; exact (World.frozen?_of_block (a := ⟨b, 0, none⟩) hb8).trans h.free, ?_, hrow, .inl h.box, fun k hk => ?_⟩, ?_⟩
  · have h1 : OwnA true (fun k => (F k ∨ (w.heap.size ≤ k ∧ k < w8.heap.size)) ∧ k ≠ b) IntsR 29 0 w8 v8 s' := ho.weaken (fun k hk ha => by
      rcases ha with ha | ha
      · exact ⟨.inl ha.1, ha.2⟩
      · exact ⟨.inr ⟨ha, hk⟩, by omega⟩)
    exact h1.keepA stable_ints (fun k hk => hset k hk.2) (fun k hk => hset k (hrow k hk).2) (by omega)
  · rw [hsz]
    rcases hk with hk | hk
    · have := h.lt k hk; omega
    · exact hk.2
  · refine ⟨hg.os.trans e7.os, hg.tape.trans e7.tape, hg.output.trans e7.output, by omega, fun k hk hn => ?_⟩
    rw [hset k (fun e => hn (e ▸ h.box)), hg.block k (by omega) (fun e => hn (h.row k e.symm).1)]
    exact Below.block e7 k hk
theorem RowsBox.weak {b : Nat} {F : Nat → Prop} {s : List (List Int)} {w : World} {v : Value} (h : RowsBox b F s w v) : OwnA true (fun k => (F k ∧ k ≠ b) ∨ w.heap.size ≤ k) IntsR 29 0 w v s := h.own.weaken (fun _ _ ha => .inl ha)
theorem RowsBox.rows {b : Nat} {F : Nat → Prop} {s : List (List Int)} {w : World} {v : Value} (h : RowsBox b F s w v) {L : Nat} (hL : ∀ k, F k → L ≤ k) : RowsR ⟨L, w.heap.size, true⟩ w v s :=
  OwnA.reads (h.own.raise (B' := L) (fun k hk => hL k (h.row k hk).1)) (fun k hk => hL k hk.1) (Nat.le_refl _)
def BoxInv (b : Nat) : (Nat → Prop) → List (List Int) → World → Prop := fun F s w => ∃ v, RowsBox b F s w v
/-- the first so many -/
def takeStep (most : Int) (s : List (List Int)) (k : List Int) : List (List Int) := if (s.length : Int) < most then s ++ [k] else s
def takeMore (most : Int) (s : List (List Int)) (k : List Int) : Bool := decide (((takeStep most s k).length : Int) < most)

theorem Tryz.goesIssueKeys1 : Goes Tryz.prog 133 := goes_of Tryz.func133 (by kernel_rfl) (by kernel_rfl)

set_option maxRecDepth 20000 in
set_option maxHeartbeats 2000000 in
theorem issueKeys1_c {b bm : Nat} {F : Nat → Prop} {s : List (List Int)} (w : World) (v : Value) (z : Zone) (key : List Int) (most : Int) (hI : BoxInv b F s w) (hsl : s.length ≤ 1000000) (hm : w.cell? ⟨bm, 0, none⟩ = some (.int .i64 most)) (hbm : ¬ F bm) (hk : IntsR z w v key) (hkl : key.length ≤ 1000) :
    Calls Tryz.prog 133 #[v, .pointer (some ⟨b, 0, none⟩), .pointer (some ⟨bm, 0, none⟩)] w (fun e w' => e = .returned (.bool (takeMore most s key)) ∧ ∃ F', BoxInv b F' (takeStep most s key) w' ∧ (∀ k, F' k → F k ∨ w.heap.size ≤ k) ∧ Frame F w w') := by
  obtain ⟨lv, hB⟩ := hI
  have HB := Lib.hid hB
  have HCl := Lib.hid (fun (w' : World) (e : Ext w w') => Clone_c w' v z key (stable_ints.ext hk e) (by omega))
  have HM := Lib.hid (IntsR.mem hk)
  obtain ⟨a2, n2, c2, rfl, hn2, hn3⟩ := OwnA.shape hB.own
  obtain ⟨a, n, c, rfl, -⟩ := SliceR.shape hk
  have hc := hB.cell
  have hfz := hB.free
  rw [← hn2] at hsl
  have Hn2 := Lib.hid hn2
  have Hlen : Hid (s.length + 1 ≤ 1099511627776) := by show _ ≤ _; rw [← Hn2.out]; omega
  have hblt := hB.lt b hB.box
  clear hB hk hn2
  by_cases hlt : (n2 : Int) < most
  · have HS : Hid (takeStep most s key = s ++ [key]) := by show _ = _; unfold takeStep; rw [if_pos (by rw [← Hn2.out]; exact hlt)]
    have HMo : Hid (takeMore most s key = decide (((n2 + 1 : Nat) : Int) < most)) := by show _ = _; unfold takeMore; rw [HS.out, List.length_append, List.length_singleton, ← Hn2.out]
    generalize takeStep most s key = s' at *
    generalize takeMore most s key = mo at *
    go_enter Tryz.func133, Tryz.ntmps133
    go_wp2_with fail
    go_region_law (first | (go_simp; go_at_call 127; refine (HCl.out _ (by repeat (first | exact Ext.refl _ | assumption | (refine Ext.trans ?_ (Ext.alloc _ _)) | (refine Ext.trans ?_ (Ext.drew _)) | (refine Ext.trans ?_ (by assumption))))).mono ?_; rintro e w7 hr7; obtain ⟨r7, rfl, o7, e7⟩ := ret_ext hr7; clear hr7; have e77 : Ext w w7 := (by repeat (first | exact Ext.refl _ | assumption | (refine Ext.trans ?_ (Ext.alloc _ _)) | (refine Ext.trans ?_ (Ext.drew _)) | (refine Ext.trans ?_ (by assumption)))); have x1 := e77.cell hc; have zb := Nat.lt_of_lt_of_le hblt e77.size; have zb' := Nat.ne_of_lt zb; have zb'' := Nat.ne_of_gt zb; have i7 : IntsR (.new w w7) w7 r7 key := OwnP.ints (o7.lower (Ext.size (by repeat (first | exact Ext.refl _ | assumption | (refine Ext.trans ?_ (Ext.alloc _ _)) | (refine Ext.trans ?_ (Ext.drew _)) | (refine Ext.trans ?_ (by assumption)))))) HM.out (Nat.le_refl _); obtain ⟨a7, n7, k7, rfl, -⟩ := OwnP.shape o7) | (refine step_append_of (by rfl) _ _ 26 (by rfl) (by rfl) (by rfl) (fun ty => run_appendRowA (w := w7) (w0 := w) (A := fun k => (F k ∧ k ≠ b) ∨ w.heap.size ≤ k) (B := 0) (E := IntsR) (xs := s) (u := (a7, n7, k7)) (y := key) stable_ints slRepr_slice 26 ty Tryz.underlying26 Tryz.infoInts HB.out.weak e77 i7 rfl Hlen.out (fun k hk => .inr hk) (Nat.zero_le _)) ?_; intro v8 w8 h8; have HP := Lib.hid (HB.out.push e77 h8); obtain ⟨o8, -, z8, hg8, -⟩ := h8; have y1 : w8.cell? ⟨b, 0, none⟩ = some (.slice a2 n2 c2) := (World.cell?_of_block (a := ⟨b, 0, none⟩) (hg8.block b (Nat.lt_of_lt_of_le hblt e77.size) (fun e => (HB.out.row b e.symm).2 rfl))).trans x1; have y2 : w8.frozen? ⟨b, 0, none⟩ = false := (World.frozen?_of_block (a := ⟨b, 0, none⟩) (hg8.block b (Nat.lt_of_lt_of_le hblt e77.size) (fun e => (HB.out.row b e.symm).2 rfl))).trans ((Below.frozen e77 hblt).trans hfz); obtain ⟨a8, n8, k8, rfl, hn8, -⟩ := OwnA.shape o8; rw [List.length_append, List.length_singleton, ← Hn2.out] at hn8; subst hn8; clear hg8 z8 o8) | fail)
    all_goals
      clear x1 y1 y2 zb zb' zb'' hc hfz o7 i7 e7
      generalize hw9 : World.setCell _ _ _ = w9 at *
      have hm9 := HP.out.2.cell hbm hm
      have hb9 := HP.out.1.cell
      clear hw9
      go_wp2_with fail
      go_ret
      refine ⟨by rw [HMo.out]; rfl, fun k => F k ∨ (w.heap.size ≤ k ∧ k < w8.heap.size), ⟨_, by rw [HS.out]; exact HP.out.1⟩, fun k hk => Or.elim hk .inl (fun q => .inr q.1), HP.out.2⟩
  · have HS : Hid (takeStep most s key = s) := by show _ = _; unfold takeStep; rw [if_neg (by rw [← Hn2.out]; exact hlt)]
    have HMo : Hid (takeMore most s key = decide ((n2 : Int) < most)) := by show _ = _; unfold takeMore; rw [HS.out, ← Hn2.out]
    generalize takeStep most s key = s' at *
    generalize takeMore most s key = mo at *
    go_enter Tryz.func133, Tryz.ntmps133
    go_wp2_with fail
    go_ret
    refine ⟨?_, F, ⟨_, by rw [HS.out]; exact HB.out⟩, fun k hk => .inl hk, Frame.refl _ _⟩
    rw [HMo.out, decide_eq_false (by omega)]
    rfl

open Go.ChangeShapes Go.WideShapes Go.ChangeAt Go.RowKit
set_option linter.unusedVariables false

theorem rows_free {z : Zone} {w : World} {v : Value} {xs : List (List Int)} (h : RowsR z w v xs) : RowsR ⟨0, w.heap.size, false⟩ w v xs := by
  obtain ⟨a, cap, rfl, h1, h2, h3, h4⟩ := h
  refine ⟨a, cap, rfl, h1, h2, h3, fun ad had hpos => ?_⟩
  obtain ⟨k1, k2, k3, k4, Z, k5, k6, k7⟩ := h4 ad had hpos
  refine ⟨k1, ⟨Nat.zero_le _, k3⟩, k3, (fun h => by cases h), fun _ => ⟨0, w.heap.size, false⟩, fun i _ => Zone.Sub.refl _, (fun h => by cases h), fun i hi => ?_⟩
  obtain ⟨u, c1, c2⟩ := k7 i hi
  exact ⟨u, c1, IntsR.free c2⟩
/-- an empty list in a variable of its own -/
theorem box_new {w2 w6 : World} (h : ((w2.alloc (.cells #[] 29)).alloc (.cells #[.slice (some ⟨w2.heap.size, 0, none⟩) 0 0] 26)) = w6) : Ext w2 w6 ∧ BoxInv (w2.heap.size + 1) (fun k => k = w2.heap.size + 1 ∨ k = w2.heap.size) [] w6 := by
  subst h
  refine ⟨(Ext.alloc _ _).trans (Ext.alloc _ _), .slice (some ⟨w2.heap.size, 0, none⟩) 0 0, by simp, by simp, ?_, fun k hk => ?_, .inl rfl, fun k hk => ?_⟩
  · exact OwnA.below stable_ints (OwnA.empty (Nat.zero_le _)) (Ext.alloc _ _)
  · injection hk with hk
    simp only at hk
    exact ⟨.inr hk.symm, by omega⟩
  · simp only [World.size_alloc]
    omega
theorem visits_take {most : Int} (h0 : 0 ≤ most) : ∀ (L s : List (List Int)), (s.length : Int) ≤ most → (visits (takeStep most) (takeMore most) s L).1 = s ++ L.take (most.toNat - s.length)
  | [], s, _ => by simp [visits]
  | k :: L, s, hs => by
    have e1 : visits (takeStep most) (takeMore most) s (k :: L) = if takeMore most s k = true then visits (takeStep most) (takeMore most) (takeStep most s k) L else (takeStep most s k, false) := rfl
    have e3 : takeMore most s k = decide (((takeStep most s k).length : Int) < most) := rfl
    rw [e1, e3]
    by_cases hlt : (s.length : Int) < most
    · have e2 : takeStep most s k = s ++ [k] := by unfold takeStep; rw [if_pos hlt]
      rw [e2]
      have hl : (s ++ [k]).length = s.length + 1 := by simp
      obtain ⟨m, hm⟩ : ∃ m, most.toNat - s.length = m + 1 := ⟨most.toNat - s.length - 1, by omega⟩
      rw [hm, List.take_succ_cons]
      by_cases h2 : ((s ++ [k]).length : Int) < most
      · rw [if_pos (decide_eq_true h2), visits_take h0 L _ (by omega), hl, show most.toNat - (s.length + 1) = m by omega]
        simp
      · rw [if_neg (by rw [decide_eq_false h2]; decide)]
        have : m = 0 := by omega
        subst this
        simp
    · have e2 : takeStep most s k = s := by unfold takeStep; rw [if_neg hlt]
      rw [e2, if_neg (by rw [decide_eq_false hlt]; decide), show most.toNat - s.length = 0 by omega]
      simp

def TakeInv (b : Nat) (F : Nat → Prop) (s : List (List Int)) (w : World) : Prop := BoxInv b F s w ∧ s.length ≤ 300
theorem visitTake {b bm : Nat} {most : Int} (hm : most ≤ 300) {w0 : World} {F0 : Nat → Prop} (hc : w0.cell? ⟨bm, 0, none⟩ = some (.int .i64 most)) (hbm : ¬ F0 bm) :
    VisitK 133 #[.pointer (some ⟨b, 0, none⟩), .pointer (some ⟨bm, 0, none⟩)] w0 F0 (TakeInv b) (takeStep most) (takeMore most) (fun k => k.length ≤ 1000) where
  goes := Tryz.goesIssueKeys1
  keep := by
    rintro F s w w' ⟨⟨v, hb⟩, hl⟩ hk hs
    exact ⟨⟨v, hb.keep hk hs⟩, hl⟩
  fresh := by
    rintro F s w ⟨⟨v, hb⟩, hl⟩
    exact hb.lt
  call := by
    rintro F s w v z key ⟨hb, hl⟩ hF hK hr hok
    have hlt : bm < w0.heap.size := World.block_lt_of_cell? _ _ hc
    refine (issueKeys1_c w v z key most hb (by omega) (hK.cell hbm hc) (fun q => (hF bm q).elim hbm (fun q => by omega)) hr hok).mono ?_
    rintro e w' ⟨rfl, F', i', g', f'⟩
    refine ⟨rfl, F', ⟨i', ?_⟩, g', f'⟩
    unfold takeStep
    split
    · rw [List.length_append, List.length_singleton]; omega
    · exact hl

set_option maxRecDepth 20000 in
set_option maxHeartbeats 2000000 in
theorem IssueKeys_c (w : World) (mk : MK) (v : Value) (z : Zone) (t : List (List Int)) (h : RowsR z w v t) (u : Value) (y : Zone) (cuts : List (List Int)) (hc : RowsR y w u cuts) (v3 : Value) (z3 : Zone) (row : List Int) (hr : IntsR z3 w v3 row) (most : Int) (hm : I64 most) :
    Calls Tryz.prog 45 #[sysV mk v, u, v3, .int .i64 most] w (Ret w (RowsCode w (issueKeys mk t cuts row most))) := by
  have H1 : Hid (designCode mk t cuts ≠ 0 → issueKeys mk t cuts row most = ([], 1) ∧ rowCode mk t cuts row [] = 1) := fun h => ⟨issueKeys_bad h, by rw [rowCode_bad h]; have := designCode_val mk t cuts; omega⟩
  have H2 : Hid (designCode mk t cuts = 0 → inB most 0 300 = false → issueKeys mk t cuts row most = ([], 2)) := issueKeys_most
  have H3 : Hid (designCode mk t cuts = 0 → inB most 0 300 = true → rowCode mk t cuts row [] ≠ 0 → issueKeys mk t cuts row most = ([], rowCode mk t cuts row [])) := issueKeys_row
  have HN1 : Hid (designCode mk t cuts = 0 → rowCode mk t cuts row [] ≠ 1) := rowCode_val
  have HC1 := Lib.hid (fun (w' : World) (e : Ext w w') => rowCode_c w' mk v z t (stable_rows.ext h e) u y cuts (stable_rows.ext hc e) v3 z3 row (stable_ints.ext hr e) (.slice none 0 0) (.old w') [] (SliceR.nil _ _ _))
  have HCf : RowsR ⟨0, w.heap.size, false⟩ w u cuts := rows_free hc
  have HC2 := Lib.hid (fun (h1 : designCode mk t cuts = 0) (h0 : rowCode mk t cuts row [] = 0) (hq : inB most 0 300 = true) (w6 : World) (e : Ext w w6) (b bm r0 : Nat) (hb : w.heap.size ≤ b) (hr0 : w.heap.size ≤ r0) (hcm : w6.cell? ⟨bm, 0, none⟩ = some (.int .i64 most)) (hbm : bm ≠ b ∧ bm ≠ r0) (hI : BoxInv b (fun k => k = b ∨ k = r0) [] w6) =>
    eachIssue_c (visitTake (b := b) (bm := bm) (by have := inB_iff.1 hq; omega) hcm (fun q => by rcases q with q | q; exact hbm.1 q; exact hbm.2 q)) mk v z t (stable_rows.ext h e) u ⟨0, w.heap.size, false⟩ cuts (stable_rows.ext HCf e) v3 z3 row (stable_ints.ext hr e) (rowCode_zero h0) (fun k hk q => by have := hk.2; simp only at this; rcases q with q | q <;> omega) (fun k hk => by rw [(allK_mem hk).1]; have := (designOk_mk (rowCode_zero h0).toDesignOk).c6; omega) [] ⟨hI, by simp⟩)
  have HRes : Hid (designCode mk t cuts = 0 → rowCode mk t cuts row [] = 0 → inB most 0 300 = true → issueKeys mk t cuts row most = ((visits (takeStep most) (takeMore most) [] ((allK mk).filter (stays mk (t ++ [row]) cuts))).1, 0)) := fun h1 h0 hq => by
    have := inB_iff.1 hq
    rw [issueKeys_ok h1 hq h0, visits_take (by omega) _ _ (by simp; omega)]
    rfl
  generalize (visits (takeStep most) (takeMore most) [] ((allK mk).filter (stays mk (t ++ [row]) cuts))).1 = cl at *
  generalize issueKeys mk t cuts row most = res at *
  generalize designCode mk t cuts = dc at *
  generalize rowCode mk t cuts row [] = rc at *
  have HI := Lib.hid (fun (w' : World) => within_c w' most 0 300)
  generalize inB most 0 300 = q at *
  obtain ⟨a, n, cap, rfl, -⟩ := SliceR.shape h
  obtain ⟨a2, n2, cap2, rfl, -⟩ := SliceR.shape hc
  obtain ⟨a3, n3, cap3, rfl, -⟩ := SliceR.shape hr
  clear h hc hr HCf
  have hGo := Tryz.goesIssueKeys1
  unfold Goes at hGo
  unfold sysV at *
  go_enter Tryz.func45, Tryz.ntmps45
  go_wp2_with fail
  generalize hw0 : World.alloc (World.alloc _ _) _ = w0
  obtain ⟨e0, S0, c7⟩ : Ext w w0 ∧ SysAt w0 w.heap.size mk (.slice a n cap) ∧ w0.cell? ⟨w.heap.size + 1, 0, none⟩ = some (.int .i64 most) := by
    subst hw0
    refine ⟨(Ext.alloc _ _).trans (Ext.alloc _ _), ⟨?_, ?_, ?_, ?_, ?_, ?_⟩, ?_⟩
    all_goals (clear HC1 HC2 HRes H1 H2 H3 HN1 HI; go_simp; done)
  clear hw0
  have HS := Lib.hid S0
  have H7 := Lib.hid c7
  clear S0 c7
  refine Calls.mono (HC1.out w0 e0) ?_
  rintro e w1 hr
  obtain ⟨r, rfl, rfl, e1⟩ := ret_ext hr
  clear hr
  have et := e0.trans e1
  have c7 := e1.cell H7.out
  by_cases hd : dc = 0
  · have hn1 : (rc != 1) = true := by rw [bne_iff_ne]; exact HN1.out hd
    have H2' := Lib.hid (H2.out hd)
    have H3' := Lib.hid (H3.out hd)
    have HR' := Lib.hid (HRes.out hd)
    have HC2' := Lib.hid (HC2.out hd)
    clear H1 H2 H3 HN1 hd HRes HC2
    go_wp2_with fail
    refine Calls.mono (HI.out w1) ?_
    rintro e w2 ⟨rfl, hd2⟩
    have et2 := et.trans (Ext.ofDrew hd2)
    clear c7
    have e12 := e1.trans (Ext.ofDrew hd2)
    cases q with
    | false =>
      have HH := Lib.hid (H2'.out (by trivial))
      go_wp2_with fail
      go_ret2
      exact ⟨_, rfl, RowsCode_nil HH.out, et2⟩
    | true =>
      by_cases hr0 : rc = 0
      · have HR := Lib.hid (HR'.out hr0 (by trivial))
        have HD := Lib.hid (HC2'.out hr0 (by trivial))
        have hb : (rc != 0) = false := by rw [hr0]; rfl
        obtain ⟨c0, c1, c2, c3, c4, c5⟩ := HS.out.ext e12
        have zb := World.block_lt_of_cell? _ _ c0
        simp only at zb
        have zb' := Nat.ne_of_lt zb
        have zb'' := Nat.ne_of_gt zb
        clear H2' H3' HR' HC2' hr0
        go_wp2_with fail
        generalize hw6 : World.alloc (World.alloc _ _) _ = w6
        obtain ⟨e6, i6⟩ := box_new hw6
        clear hw6 c0 c1 c2 c3 c4 c5 zb' zb''
        have h7 := (e12.trans e6).cell H7.out
        have h72 := World.block_lt_of_cell? _ _ (e12.cell H7.out)
        simp only at h72
        refine Calls.mono (HD.out w6 (et2.trans e6) (w2.heap.size + 1) (w.heap.size + 1) w2.heap.size (Nat.le_succ_of_le et2.size) et2.size h7 ⟨by omega, by omega⟩ i6) ?_
        intro e w7 h7'
        obtain ⟨rfl, F7, ⟨⟨v7, hB7⟩, -⟩, g7, f7⟩ := h7'
        have hc7 := hB7.cell
        obtain ⟨a7, n7, k7, rfl, -⟩ := OwnA.shape hB7.own
        have es := et2.size
        have es6 := e6.size
        have HZ : Hid (RowsR (.new w w7) w7 (.slice a7 n7 k7) cl) := RowsBox.rows hB7 (L := w.heap.size) (fun k hk => by
          rcases g7 k hk with q | q
          · rcases q with q | q <;> omega
          · omega)
        have HE7 : Hid (Ext w w7) := (Frame.trans (Frame.of_ext (F := fun k => k = w2.heap.size + 1 ∨ k = w2.heap.size) (et2.trans e6)) f7 (fun i hi _ => hi)).below (B := w.heap.size) (fun k hk => by rcases hk with q | q <;> omega) (Nat.le_refl _)
        clear hB7 g7 f7 h7 i6
        go_wp2_with fail
        go_ret2
        exact ⟨_, rfl, by rw [HR.out]; exact ⟨_, rfl, HZ.out⟩, HE7.out⟩
      · have HH := Lib.hid (H3'.out (by trivial) hr0)
        have hb : (rc != 0) = true := by rw [bne_iff_ne]; exact hr0
        clear H2' H3' HR' HC2' hr0
        go_wp2_with fail
        go_ret2
        exact ⟨_, rfl, RowsCode_nil HH.out, et2⟩
  · obtain ⟨h1, h2⟩ := H1.out hd
    have HH := Lib.hid h1
    subst h2
    clear hd H1 H2 H3 HN1 HRes HC2 h1
    go_wp2_with fail
    go_ret2
    exact ⟨_, rfl, RowsCode_nil HH.out, et⟩

open Go.ChangeShapes Go.WideShapes Go.ChangeAt Go.RowKit
set_option linter.unusedVariables false

/-- a list, a number and a code -/
def IntsTwo (w : World) (x : List Int × Int × Int) (r : Value) (w' : World) : Prop := ∃ u, r = .tuple #[u, .int .i64 x.2.1, .int .i64 x.2.2] ∧ IntsR (.new w w') w' u x.1
theorem IntsTwo_nil {w w' : World} {x : List Int × Int × Int} {a c : Int} (h : x = ([], a, c)) : IntsTwo w x (.tuple #[.slice none 0 0, .int .i64 a, .int .i64 c]) w' := by rw [h]; exact ⟨_, rfl, SliceR.nil _ _ _⟩
theorem IntsTwo_mk {w w' : World} {x : List Int × Int × Int} {a c : Int} {ys : List Int} {u : Value} (h : x = (ys, a, c)) (hr : IntsR (.new w w') w' u ys) : IntsTwo w x (.tuple #[u, .int .i64 a, .int .i64 c]) w' := by rw [h]; exact ⟨_, rfl, hr⟩
theorem take_next' {xs : List (List Int)} {k : Nat} (h : k < xs.length) : xs.take (k+1) = xs.take k ++ [xs.getD k []] := take_next h
theorem eas_yes {f : List Int → Nat} {L : List (List Int)} {b k : List Int} (h : easL f L = some b) (hf : f k < f b) : easL f (L ++ [k]) = some k := by
  rw [easL_snoc, h]; exact if_pos hf
theorem eas_no {f : List Int → Nat} {L : List (List Int)} {b k : List Int} (h : easL f L = some b) (hf : ¬ f k < f b) : easL f (L ++ [k]) = some b := by
  rw [easL_snoc, h]; exact if_neg hf
def BestAt (w3 : World) (Z : Zone) (k : List Int) (v : Value) : Prop := ∃ a n c y, v = .slice a n c ∧ y.Sub Z ∧ ∀ w', Ext w3 w' → IntsR y w' (.slice a n c) k
theorem rows_own {w : World} {a : Option Addr} {n cap : Nat} {z : Zone} {t : List (List Int)} (h : RowsR z w (.slice a n cap) t) {k : Nat} (hk : k < n) :
    ∃ b off, a = some ⟨b, off, none⟩ ∧ ∃ a1 n1 c1, (∀ w', Ext w w' → w'.cell? ⟨b, off + k, none⟩ = some (.slice a1 n1 c1)) ∧ BestAt w z (t.getD k []) (.slice a1 n1 c1) := by
  obtain ⟨a', n', cap', he, hn, -, -, -, -, hel⟩ := SliceR.shape h
  injection he with e1 e2 e3
  subst e1; subst e2; subst e3
  have hk' : k < t.length := by omega
  obtain ⟨b, off, rfl, -, -, -, u, y, hc, hy, -, hE⟩ := hel k hk'
  obtain ⟨a1, n1, c1, rfl, -⟩ := SliceR.shape hE
  have e : t.getD k [] = t[k] := by simp [hk']
  exact ⟨b, off, rfl, a1, n1, c1, fun w' e => e.cell hc, a1, n1, c1, y, rfl, hy, fun w' e' => by rw [e]; exact stable_ints.ext hE e'⟩

set_option maxRecDepth 20000 in
set_option maxHeartbeats 2000000 in
theorem EasiestKeySpec_c (w : World) (mk : MK) (v : Value) (z : Zone) (t : List (List Int)) (h : RowsR z w v t) (u : Value) (y : Zone) (cuts : List (List Int)) (hc : RowsR y w u cuts) (v3 : Value) (z3 : Zone) (row : List Int) (hr : IntsR z3 w v3 row) :
    Calls Tryz.prog 49 #[sysV mk v, u, v3] w (Ret w (IntsTwo w (easiest mk t cuts row))) := by
  have H1 : Hid (rowCode mk t cuts row [] ≠ 0 → easiest mk t cuts row = ([], 0, rowCode mk t cuts row [])) := easiest_bad
  have HOk : Hid (rowCode mk t cuts row [] = 0 → RowCodeOk mk t cuts row []) := rowCode_zero
  have HL : Hid (rowCode mk t cuts row [] = 0 → candL mk (fun k => decide (faults mk (t ++ [row]) (cuts ++ [k]) = 0)) 1000000 = (allK mk).filter (stays mk (t ++ [row]) cuts)) := fun h3 => by rw [candL_congr (cand_stays h3), candL_all (designOk_mk (rowCode_zero h3).toDesignOk)]
  have H2 : Hid (rowCode mk t cuts row [] = 0 → easL (changes mk t cuts row) ((allK mk).filter (stays mk (t ++ [row]) cuts)) = none → easiest mk t cuts row = ([], 0, 4)) := easiest_none
  have H3 : Hid (∀ b, rowCode mk t cuts row [] = 0 → easL (changes mk t cuts row) ((allK mk).filter (stays mk (t ++ [row]) cuts)) = some b → easiest mk t cuts row = (b, (changes mk t cuts row b : Int), 0)) := fun b => easiest_some
  have HC2 := Lib.hid (fun (w' : World) (e : Ext w w') => l24Row_c w' mk v z t (stable_rows.ext h e) u y cuts (stable_rows.ext hc e) v3 z3 row (stable_ints.ext hr e))
  have HC3 := Lib.hid (fun (h0 : rowCode mk t cuts row [] = 0) (w' : World) (e : Ext w w') => withFirst w' mk v z t (stable_rows.ext h e) v3 z3 row (stable_ints.ext hr e) (rowCode_zero h0))
  have HC4 := Lib.hid (fun (h0 : rowCode mk t cuts row [] = 0) (w' : World) (e : Ext w w') (v' : Value) (x1 : Zone) (g1 : RowsR x1 w' v' (t ++ [row])) => l16Candidates_c w' mk (designOk_mk (rowCode_zero h0).toDesignOk) v' x1 _ g1 u y cuts (stable_rows.ext hc e) (rowCode_front h0) (by have := (rowCode_zero h0).eq; simp; omega) 1000000 (by unfold I64; omega))
  have HC5 : Hid (rowCode mk t cuts row [] = 0 → ∀ (k : List Int), k ∈ (allK mk).filter (stays mk (t ++ [row]) cuts) → ∀ (w' : World) (e : Ext w w') (v4 : Value) (z4 : Zone) (g : IntsR z4 w' v4 k), Calls Tryz.prog 107 #[sysV mk v, u, v3, v4] w' (Ret w' fun r w'' => ∃ a n c, r = .slice a n c ∧ n = changes mk t cuts row k ∧ n ≤ 12)) := fun h0 k hk w' e v4 z4 g => by
    have ok := rowCode_zero h0
    refine (l24Changed_c w' mk v z t (stable_rows.ext h e) u y cuts (stable_rows.ext hc e) v3 z3 row (stable_ints.ext hr e) v4 z4 k g ok.toPartOk ok.row_len (by have := allK_key (designOk_mk ok.toDesignOk) (List.mem_filter.1 hk).1; exact this.len)).mono ?_
    rintro e w'' hr
    obtain ⟨r, rfl, o, e2⟩ := ret_ext hr
    obtain ⟨a, n, c, rfl, hn, -⟩ := OwnP.shape o
    exact ⟨_, rfl, ⟨a, n, c, rfl, hn, by rw [hn]; have := changes_le mk t cuts row k; have := ok.doors; unfold changes at *; omega⟩, e2⟩
  have HB : Hid (rowCode mk t cuts row [] = 0 → ((allK mk).filter (stays mk (t ++ [row]) cuts)).length ≤ 262144) := fun h0 => Nat.le_trans (List.length_filter_le _ _) (allK_length (designOk_mk (rowCode_zero h0).toDesignOk))
  generalize candL mk (fun k => decide (faults mk (t ++ [row]) (cuts ++ [k]) = 0)) 1000000 = cl at *
  generalize (allK mk).filter (stays mk (t ++ [row]) cuts) = L at *
  generalize changes mk t cuts row = f at *
  generalize easiest mk t cuts row = res at *
  generalize rowCode mk t cuts row [] = rc at *
  obtain ⟨a, n, cap, rfl, -⟩ := SliceR.shape h
  obtain ⟨a2, n2, cap2, rfl, -⟩ := SliceR.shape hc
  obtain ⟨a3, n3, cap3, rfl, -⟩ := SliceR.shape hr
  clear h hc hr
  unfold sysV at *
  go_enter Tryz.func49, Tryz.ntmps49
  go_wp2_with fail
  generalize hw0 : World.alloc _ _ = w0
  obtain ⟨e0, S0⟩ := sys_box hw0
  clear hw0
  refine Calls.mono (HC2.out w0 e0) ?_
  rintro e w1 hr
  obtain ⟨r, rfl, rfl, e1⟩ := ret_ext hr
  clear hr
  have HS1 := Lib.hid (S0.ext e1)
  obtain ⟨c0, c1, c2, c3, c4, c5⟩ := HS1.out
  have et := e0.trans e1
  clear S0
  by_cases hd : rc = 0
  · have hb : (rc != 0) = false := by rw [hd]; rfl
    have hcall := HC3.out hd w1 et
    have HD4 := Lib.hid (HC4.out hd)
    have HD5 := Lib.hid (HC5.out hd)
    have HDL := Lib.hid (HL.out hd)
    have HDB := Lib.hid (HB.out hd)
    have HD2 := Lib.hid (H2.out hd)
    have HD3 := Lib.hid (fun b => H3.out b hd)
    clear hd H1 H2 H3 HC2 HC3 HC4 HC5 HL HB HOk
    go_wp2_with fail
    refine Calls.mono hcall ?_
    rintro e w2 hr
    obtain ⟨r, rfl, ⟨v', rfl, g1⟩, e2⟩ := ret_ext hr
    clear hr hcall
    have et2 := et.trans e2
    have hcall := HD4.out w2 et2 v' _ g1
    rw [HDL.out] at hcall
    obtain ⟨a5, n5, k5, rfl, -⟩ := SliceR.shape g1
    clear HD4 g1
    go_wp2_with fail
    refine Calls.mono hcall ?_
    rintro e w3 hr
    obtain ⟨r, rfl, g5, e3⟩ := ret_ext hr
    clear hr hcall
    have et3 := et2.trans e3
    obtain ⟨a6, n6, k6, rfl, hn6, hn7, -⟩ := SliceR.shape g5
    have HE := Lib.hid (fun (k : Nat) (hk : k < n6) => rows_own g5 hk)
    have HDB' := HDB.out
    rw [← hn6] at HDB'
    have Hn6 := Lib.hid hn6
    clear g5 hn6
    by_cases h6 : n6 = 0
    · have HH : Hid (res = ([], 0, 4)) := HD2.out (easL_none.2 (List.eq_nil_of_length_eq_zero (by rw [← Hn6.out]; exact h6)))
      subst h6
      go_wp2_with fail
      go_ret3
      exact ⟨_, rfl, IntsTwo_nil HH.out, et3⟩
    · obtain ⟨bq, oq, rfl, a0, n0, k0, hcell0, hbest0⟩ := HE.out 0 (by omega)
      have h60 : 0 < n6 := by omega
      have h61 : (0 : Int) < (n6 : Int) := by omega
      have hb6 : ((n6 : Int) == 0) = false := by rw [beq_eq_false_iff_ne]; omega
      have h00 := hcell0 w3 (Ext.refl _)
      rw [Nat.add_zero] at h00
      have HB0 : Hid (easL f (L.take 1) = some (L.getD 0 [])) := by
        show _ = _
        have h0 : 0 < L.length := by rw [← Hn6.out]; exact h60
        cases L with
        | nil => simp at h0
        | cons x L => rfl
      have HTk : Hid (∀ k, k < n6 → L.take (k + 1) = L.take k ++ [L.getD k []]) := fun k hk => take_next (by rw [← Hn6.out]; exact hk)
      have HMem : Hid (∀ k, k < n6 → L.getD k [] ∈ L) := fun k hk => by
        have hk' : k < L.length := by rw [← Hn6.out]; exact hk
        have e : L.getD k [] = L[k] := by simp [hk']
        rw [e]; exact List.getElem_mem hk'
      have HAll : Hid (L.take n6 = L) := by show _ = _; rw [Hn6.out, List.take_length]
      have HBest0 := Lib.hid hbest0
      clear hbest0 hcell0 h6
      go_wp2_with fail
      go_loopw [11, 12] (fun s11 s12 wr => ∃ i j : Nat, 1 ≤ i ∧ i ≤ n6 ∧ j < n6 ∧ s12 = .int .i64 i ∧ BestAt w3 (.new w2 w3) (L.getD j []) s11 ∧ easL f (L.take i) = some (L.getD j []) ∧ Ext w3 wr) (fun _ s12 _ => n6 - (intOf s12).toNat)
      case atStart => exact ⟨1, 0, Nat.le_refl _, h60, h60, rfl, HBest0.out, HB0.out, Ext.refl _⟩
      case round =>
        obtain ⟨i, j, hi1, hi, hj, rfl, ⟨a4, n4, k4, y4, rfl, hy4, hr4⟩, hbest, ew⟩ := hrel
        have HBest := Lib.hid hbest
        have HR4 := Lib.hid hr4
        have HY4 := Lib.hid hy4
        have HE0 := Lib.hid (et3.trans ew)
        clear hbest hr4 hy4
        by_cases hlt : i < n6
        · obtain ⟨_, _, he, a1, n1, c1, hcell1, ⟨a1', n1', c1', y1, he1, hy1, hr1⟩⟩ := HE.out i hlt
          injection he with he; injection he with he1' he2 _
          subst he1'; subst he2
          injection he1 with q1 q2 q3
          subst q1; subst q2; subst q3
          have HC1 := Lib.hid hcell1
          have HR1 := Lib.hid hr1
          have HY1 := Lib.hid hy1
          have HCel : Hid (∀ w', Ext wr w' → w'.cell? ⟨w.heap.size, 0, none⟩ = some (.int .i64 mk.c) ∧ w'.cell? ⟨w.heap.size, 1, none⟩ = some (.int .i64 mk.d) ∧ w'.cell? ⟨w.heap.size, 2, none⟩ = some (.int .i64 mk.s) ∧ w'.cell? ⟨w.heap.size, 3, none⟩ = some (.int .i64 mk.m) ∧ w'.cell? ⟨w.heap.size, 4, none⟩ = some (.int .i64 mk.l) ∧ w'.cell? ⟨w.heap.size, 5, none⟩ = some (.slice a n cap) ∧ w'.cell? ⟨bq, oq + i, none⟩ = some (.slice a1 n1 c1)) := fun w' e => have q := HS1.out.ext (((e2.trans e3).trans ew).trans e); ⟨q.c0, q.c1, q.c2, q.c3, q.c4, q.c5, HC1.out w' (ew.trans e)⟩
          have HA1 := Lib.hid (fun (w' : World) (e : Ext wr w') => HD5.out _ (HMem.out i hlt) w' (HE0.out.trans e) _ _ (HR1.out w' (ew.trans e)))
          have HA4 := Lib.hid (fun (w' : World) (e : Ext wr w') => HD5.out _ (HMem.out j hj) w' (HE0.out.trans e) _ _ (HR4.out w' (ew.trans e)))
          have HYes := Lib.hid (fun (h : f (L.getD i []) < f (L.getD j [])) => eas_yes HBest.out h)
          have HNo := Lib.hid (fun (h : ¬ f (L.getD i []) < f (L.getD j [])) => eas_no HBest.out h)
          have HT := Lib.hid (HTk.out i hlt)
          have hin : (i : Int) < (n6 : Int) := by omega
          have hi0 : (0 : Int) ≤ (i : Int) := by omega
          clear hcell1 hr1 hy1
          generalize hfi : f (L.getD i []) = fi at *
          generalize hfj : f (L.getD j []) = fj at *
          clear hfi hfj
          go_wp2_with fail
          first | (go_region_held3 (fun w' => w'.cell? ⟨w.heap.size, 0, none⟩ = some (.int .i64 mk.c) ∧ w'.cell? ⟨w.heap.size, 1, none⟩ = some (.int .i64 mk.d) ∧ w'.cell? ⟨w.heap.size, 2, none⟩ = some (.int .i64 mk.s) ∧ w'.cell? ⟨w.heap.size, 3, none⟩ = some (.int .i64 mk.m) ∧ w'.cell? ⟨w.heap.size, 4, none⟩ = some (.int .i64 mk.l) ∧ w'.cell? ⟨w.heap.size, 5, none⟩ = some (.slice a n cap) ∧ w'.cell? ⟨bq, oq + i, none⟩ = some (.slice a1 n1 c1)) (exact HCel.out _ (by repeat (first | exact Ext.refl _ | assumption | (refine Ext.trans ?_ (Ext.alloc _ _)) | (refine Ext.trans ?_ (Ext.drew _)) | (refine Ext.trans ?_ (by assumption))))) (first | ((with_reducible refine (HA1.out _ (by repeat (first | exact Ext.refl _ | assumption | (refine Ext.trans ?_ (Ext.alloc _ _)) | (refine Ext.trans ?_ (Ext.drew _)) | (refine Ext.trans ?_ (by assumption))))).mono ?_); rintro e w7 hr7; obtain ⟨r7, rfl, ⟨a7, n7, k7, rfl, rfl, h7⟩, e7⟩ := ret_ext hr7; clear hr7; have eL7 : Ext wr w7 := (by repeat (first | exact Ext.refl _ | assumption | (refine Ext.trans ?_ (Ext.alloc _ _)) | (refine Ext.trans ?_ (Ext.drew _)) | (refine Ext.trans ?_ (by assumption)))); have cX7 := HC1.out w7 (ew.trans eL7)) | ((with_reducible refine (HA4.out _ (by repeat (first | exact Ext.refl _ | assumption | (refine Ext.trans ?_ (Ext.alloc _ _)) | (refine Ext.trans ?_ (Ext.drew _)) | (refine Ext.trans ?_ (by assumption))))).mono ?_); rintro e w8 hr8; obtain ⟨r8, rfl, ⟨a8, n8, k8, rfl, rfl, h8⟩, e8⟩ := ret_ext hr8; clear hr8; have eL8 : Ext wr w8 := (by repeat (first | exact Ext.refl _ | assumption | (refine Ext.trans ?_ (Ext.alloc _ _)) | (refine Ext.trans ?_ (Ext.drew _)) | (refine Ext.trans ?_ (by assumption)))); have cX8 := HC1.out w8 (ew.trans eL8)) | fail)) | fail
          all_goals
            by_cases hf : n7 < n8
            focus
              have HE1 : Hid (easL f (L.take (i + 1)) = some (L.getD i [])) := by show _ = _; rw [HT.out]; exact HYes.out hf
              have hbf : decide (n7 < n8) = true := decide_eq_true hf
              go_wp2_with fail
              go_roundw
              case rel => exact ⟨i + 1, i, by omega, by omega, hlt, by go_num, ⟨_, _, _, _, rfl, HY1.out, HR1.out⟩, HE1.out, by first | exact ew.trans eL8 | exact ew.trans eL7⟩
              case measure => simp [intOf] <;> omega
            have HE1 : Hid (easL f (L.take (i + 1)) = some (L.getD j [])) := by show _ = _; rw [HT.out]; exact HNo.out hf
            have hbf : decide (n7 < n8) = false := decide_eq_false hf
            go_wp2_with fail
            go_roundw
            case rel => exact ⟨i + 1, j, by omega, by omega, hj, by go_num, ⟨_, _, _, _, rfl, HY4.out, HR4.out⟩, HE1.out, by first | exact ew.trans eL8 | exact ew.trans eL7⟩
            case measure => simp [intOf] <;> omega
        · have hie : i = n6 := by omega
          have HH : Hid (res = (L.getD j [], (f (L.getD j []) : Int), 0)) := HD3.out _ (by rw [← HBest.out, hie, HAll.out])
          have hcall := HD5.out _ (HMem.out j hj) wr HE0.out _ _ (HR4.out wr ew)
          have HX := Lib.hid (HR4.out)
          obtain ⟨c0, c1, c2, c3, c4, c5⟩ := HS1.out.ext ((e2.trans e3).trans ew)
          clear hie
          generalize f (L.getD j []) = fj at *
          go_wp2_with fail
          refine Calls.mono hcall ?_
          rintro e w7 hr7
          obtain ⟨r7, rfl, ⟨a7, n7, k7, rfl, rfl, h7⟩, e7⟩ := ret_ext hr7
          clear hr7 hcall
          go_wp2_with fail
          go_ret3
          refine ⟨_, rfl, IntsTwo_mk HH.out (stable_ints.sub (HX.out w7 (ew.trans e7)) (HY4.out.trans ⟨fun k hk => ⟨Nat.le_trans et2.size hk.1, Nat.lt_of_lt_of_le hk.2 (ew.trans e7).size⟩, fun h => h⟩)), HE0.out.trans e7⟩
  · have HH := Lib.hid (H1.out hd)
    have hb : (rc != 0) = true := by rw [bne_iff_ne]; exact hd
    clear H1 H2 H3 hd
    go_wp2_with fail
    go_ret3
    exact ⟨_, rfl, IntsTwo_nil HH.out, et⟩

open Go.ChangeShapes Go.WideShapes Go.ChangeAt Go.RowKit
set_option linter.unusedVariables false

def leastOf (f : List Int → Nat) (s : Option (List Int)) : Int := match s with
  | none => -1
  | some b => f b
/-- the best key so far and how many doors it changes -/
structure EasAt (f : List Int → Nat) (bb bl : Nat) (F : Nat → Prop) (s : Option (List Int)) (w : World) (v : Value) : Prop where
  cell : w.cell? ⟨bb, 0, none⟩ = some v
  free : w.frozen? ⟨bb, 0, none⟩ = false
  own : OwnP (Value.int .i64) 2 0 w v (s.getD [])
  row : ∀ k, v.ownBlock = some k → F k ∧ k ≠ bb ∧ k ≠ bl
  i64 : ∀ x ∈ s.getD [], I64 x
  least : w.cell? ⟨bl, 0, none⟩ = some (.int .i64 (leastOf f s))
  lfree : w.frozen? ⟨bl, 0, none⟩ = false
  box : F bb ∧ F bl ∧ bb ≠ bl
  lt : ∀ k, F k → k < w.heap.size
  small : ∀ b, s = some b → f b ≤ 12
def EasInv (f : List Int → Nat) (bb bl : Nat) (F : Nat → Prop) (s : Option (List Int)) (w : World) : Prop := ∃ v, EasAt f bb bl F s w v
theorem EasAt.keep {f : List Int → Nat} {bb bl : Nat} {F : Nat → Prop} {s : Option (List Int)} {w w' : World} {v : Value} (h : EasAt f bb bl F s w v) (hb : ∀ k, F k → w'.heap[k]? = w.heap[k]?) (hs : w.heap.size ≤ w'.heap.size) : EasAt f bb bl F s w' v :=
  ⟨(World.cell?_of_block (a := ⟨bb, 0, none⟩) (hb bb h.box.1)).trans h.cell, (World.frozen?_of_block (a := ⟨bb, 0, none⟩) (hb bb h.box.1)).trans h.free, h.own.keepA (fun k hk => hb k (h.row k hk).1), h.row, h.i64, (World.cell?_of_block (a := ⟨bl, 0, none⟩) (hb bl h.box.2.1)).trans h.least, (World.frozen?_of_block (a := ⟨bl, 0, none⟩) (hb bl h.box.2.1)).trans h.lfree, h.box, fun k hk => Nat.lt_of_lt_of_le (h.lt k hk) hs, h.small⟩
theorem EasAt.set {f : List Int → Nat} {bb bl : Nat} {F : Nat → Prop} {s : Option (List Int)} {w w2 : World} {v v8 : Value} {key : List Int} (h : EasAt f bb bl F s w v) (e : Ext w w2) (ho : OwnP (Value.int .i64) 2 w.heap.size w2 v8 key) (hm : ∀ x ∈ key, I64 x) (h12 : f key ≤ 12) :
    EasAt f bb bl (fun k => F k ∨ (w.heap.size ≤ k ∧ k < w2.heap.size)) (some key) ((w2.setCell ⟨bb, 0, none⟩ v8).setCell ⟨bl, 0, none⟩ (.int .i64 (f key))) v8 ∧ Frame F w ((w2.setCell ⟨bb, 0, none⟩ v8).setCell ⟨bl, 0, none⟩ (.int .i64 (f key))) := by
  obtain ⟨h1, h2, h3⟩ := h.box
  have q1 := h.lt bb h1
  have q2 := h.lt bl h2
  have q3 := e.size
  have hb1 : w2.heap[bb]? = w.heap[bb]? := Below.block e bb q1
  have hb2 : w2.heap[bl]? = w.heap[bl]? := Below.block e bl q2
  have hset : ∀ k, k ≠ bb → k ≠ bl → ((w2.setCell ⟨bb, 0, none⟩ v8).setCell ⟨bl, 0, none⟩ (.int .i64 (f key))).heap[k]? = w2.heap[k]? := fun k g1 g2 => (Below.heap_setCell _ _ _ _ g2).trans (Below.heap_setCell _ _ _ _ g1)
  have hsz : ((w2.setCell ⟨bb, 0, none⟩ v8).setCell ⟨bl, 0, none⟩ (.int .i64 (f key))).heap.size = w2.heap.size := by rw [setCell_size, setCell_size]
  have hrow : ∀ k, v8.ownBlock = some k → w.heap.size ≤ k ∧ k < w2.heap.size := ho.block
  have c1 : w2.cell? ⟨bb, 0, none⟩ = some v := (World.cell?_of_block (a := ⟨bb, 0, none⟩) hb1).trans h.cell
  have c2 : w2.cell? ⟨bl, 0, none⟩ = some (.int .i64 (leastOf f s)) := (World.cell?_of_block (a := ⟨bl, 0, none⟩) hb2).trans h.least
  have f1 : w2.frozen? ⟨bb, 0, none⟩ = false := (World.frozen?_of_block (a := ⟨bb, 0, none⟩) hb1).trans h.free
  have f2 : w2.frozen? ⟨bl, 0, none⟩ = false := (World.frozen?_of_block (a := ⟨bl, 0, none⟩) hb2).trans h.lfree
  have ne1 : (⟨bl, 0, none⟩ : Addr) ≠ ⟨bb, 0, none⟩ := fun q => h3 (by injection q with q _ _; exact q.symm)
  refine ⟨⟨?_, ?_, ?_, fun k hk => ?_, hm, ?_, ?_, ⟨.inl h1, .inl h2, h3⟩, fun k hk => ?_, fun b hb => by injection hb with hb; rw [← hb]; exact h12⟩, ?_⟩
  · rw [World.cell?_setCell_other _ _ _ _ ne1]; exact World.cell?_setCell_same _ _ _ c1
  · rw [World.frozen?_setCell, World.frozen?_setCell]; exact f1
  · have : OwnP (Value.int .i64) 2 0 w2 v8 key := ho.lower (Nat.zero_le _)
    exact this.keepA (fun k hk => by have := hrow k hk; exact hset k (by omega) (by omega))
  · have := hrow k hk
    exact ⟨.inr this, by omega, by omega⟩
  · exact World.cell?_setCell_same _ _ _ ((World.cell?_setCell_other _ _ _ _ ne1.symm).trans c2)
  · rw [World.frozen?_setCell, World.frozen?_setCell]; exact f2
  · rw [hsz]
    rcases hk with hk | hk
    · have := h.lt k hk; omega
    · exact hk.2
  · exact ⟨e.os, e.tape, e.output, by omega, fun k hk hn => (hset k (fun q => hn (q ▸ h1)) (fun q => hn (q ▸ h2))).trans (Below.block e k hk)⟩

theorem Tryz.goesEasiestKey1 : Goes Tryz.prog 137 := goes_of Tryz.func137 (by kernel_rfl) (by kernel_rfl)

set_option maxRecDepth 20000 in
set_option maxHeartbeats 2000000 in
theorem easiest1_c {bb bl bL bR : Nat} {F : Nat → Prop} {s : Option (List Int)} {mk : MK} {t cuts : List (List Int)} {row : List Int} (w : World) (v : Value) (z : Zone) (key : List Int) (hI : EasInv (changes mk t cuts row) bb bl F s w) (hk : IntsR z w v key) (hkl : (key.length : Int) = mk.c) (ok : RowCodeOk mk t cuts row [])
    {vl : Value} {zl : Zone} (hL : LocksR zl w vl (locks mk t cuts)) {vr : Value} {zr : Zone} (hr : IntsR zr w vr row) (cl : w.cell? ⟨bL, 0, none⟩ = some vl) (cr : w.cell? ⟨bR, 0, none⟩ = some vr) :
    Calls Tryz.prog 137 #[v, .pointer (some ⟨bL, 0, none⟩), .pointer (some ⟨bR, 0, none⟩), .pointer (some ⟨bl, 0, none⟩), .pointer (some ⟨bb, 0, none⟩)] w (fun e w' => e = .returned (.bool true) ∧ ∃ F', EasInv (changes mk t cuts row) bb bl F' (easStep (changes mk t cuts row) s key) w' ∧ (∀ k, F' k → F k ∨ w.heap.size ≤ k) ∧ Frame F w w') := by
  obtain ⟨lv, hB⟩ := hI
  have hc6 := (designOk_mk ok.toDesignOk).c6
  have HCl := Lib.hid (fun (w' : World) (e : Ext w w') => Clone_c w' v z key (stable_ints.ext hk e) (by omega))
  have HM := Lib.hid (IntsR.mem hk)
  have HCh : Hid (Calls Tryz.prog 105 #[vl, vr, v] w (Ret w fun r w'' => ∃ a n c, r = .slice a n c ∧ n = changes mk t cuts row key ∧ n ≤ 12)) := by
    have hl := locks_len mk t cuts
    have := changedDoors_c w vl zl _ hL vr zr row hr v z key hk (by rw [hl]; exact ok.row_len) (by rw [hl]; exact ok.doors.2) (fun d hd => by rw [hl] at hd; rw [lock_len hd]; omega)
    rw [hl] at this
    refine this.mono ?_
    rintro e w'' hr
    obtain ⟨r, rfl, o, e2⟩ := ret_ext hr
    obtain ⟨a, n, c, rfl, hn, -⟩ := OwnP.shape o
    exact ⟨_, rfl, ⟨a, n, c, rfl, hn, by rw [hn]; have := changes_le mk t cuts row key; have := ok.doors; unfold changes at *; omega⟩, e2⟩
  have h12 : changes mk t cuts row key ≤ 12 := by have := changes_le mk t cuts row key; have := ok.doors; omega
  generalize changes mk t cuts row = f at *
  have HB := Lib.hid hB
  obtain ⟨al, nl, cll, rfl, -⟩ := SliceR.shape hL
  obtain ⟨ar, nr, crr, rfl, -⟩ := SliceR.shape hr
  obtain ⟨a, n, c, rfl, -⟩ := SliceR.shape hk
  clear hB hk hL hr ok hkl
  go_enter Tryz.func137, Tryz.ntmps137
  go_wp2_with fail
  refine Calls.mono HCh.out ?_
  rintro e w1 hr
  obtain ⟨r, rfl, ⟨a7, n7, k7, rfl, h7, h712⟩, e1⟩ := ret_ext hr
  clear hr
  have hB1 := HB.out.keep (fun k hk => Below.block e1 k (HB.out.lt k hk)) e1.size
  have HB1 := Lib.hid hB1
  have c1 := hB1.least
  have c2 := hB1.cell
  clear hB1
  have HSet := Lib.hid (fun (w2 : World) (v8 : Value) (e : Ext w w2) (o : OwnP (Value.int .i64) 2 w.heap.size w2 v8 key) => HB.out.set e o HM.out h12)
  have hcall := HCl.out w1 e1
  have h7' := Lib.hid h7
  by_cases hmin : ∀ b, s = some b → f key < f b
  · have HS : Hid (easStep f s key = some key) := by
      show _ = _
      cases s with
      | none => rfl
      | some b => exact if_pos (hmin b rfl)
    have hlt : leastOf f s < 0 ∨ (n7 : Int) < leastOf f s := by
      cases s with
      | none => exact .inl (show (-1 : Int) < 0 by decide)
      | some b => right; have := hmin b rfl; show (n7 : Int) < (f b : Int); omega
    generalize leastOf f s = ls at *
    clear h7 h12 hmin
    by_cases h0 : ls < 0
    focus
      have hf0 : decide (ls < 0) = true := decide_eq_true h0
      go_wp2_with fail
    rotate_left
    focus
      have hf0 : ¬ ls < 0 := h0
      have hf1 : (n7 : Int) < ls := hlt.resolve_left h0
      go_wp2_with fail
    all_goals
      refine Calls.mono hcall ?_
      rintro e w2 hr
      obtain ⟨r, rfl, o2, e2⟩ := ret_ext hr
      clear hr hcall
      have e12 := e1.trans e2
      have HP := Lib.hid (HSet.out w2 r e12 (o2.lower e1.size))
      have hB2 := HB.out.keep (fun k hk => Below.block e12 k (HB.out.lt k hk)) e12.size
      have d1 := hB2.cell
      have d2 := hB2.free
      have d3 := hB2.least
      have d4 := hB2.lfree
      have d5 := hB2.box.2.2
      have d6 := Ne.symm d5
      obtain ⟨a8, n8, k8, rfl, -⟩ := OwnP.shape o2
      rw [← h7'.out] at HP
      clear hB2 o2 c1 c2
      go_wp2_with fail
      go_ret
      exact ⟨rfl, fun k => F k ∨ (w.heap.size ≤ k ∧ k < w2.heap.size), ⟨_, by rw [HS.out]; exact HP.out.1⟩, fun k hk => Or.elim hk .inl (fun q => .inr q.1), HP.out.2⟩
  · have hmin' : ∃ b, s = some b ∧ ¬ f key < f b := by
      cases s with
      | none => exact absurd (fun b h => by cases h) hmin
      | some b => exact ⟨b, rfl, fun h => hmin (fun b' hb => by injection hb with hb; subst hb; exact h)⟩
    obtain ⟨b, rfl, hb⟩ := hmin'
    have HS : Hid (easStep f (some b) key = some b) := if_neg hb
    have hl : leastOf f (some b) = (f b : Int) := rfl
    rw [hl] at c1
    have hb12 := HB.out.small b rfl
    have hf0 : ¬ ((f b : Int) < 0) := by omega
    have hf1 : ¬ (n7 < f b) := by omega
    have hf2 : ¬ ((n7 : Int) < (f b : Int)) := by omega
    generalize f b = fb at *
    clear h7 h12 hmin hb hl
    go_wp2_with fail
    go_ret
    exact ⟨rfl, F, ⟨lv, by rw [HS.out]; exact HB1.out⟩, fun k hk => .inl hk, Frame.of_ext e1⟩

theorem visitEas {bb bl bL bR : Nat} {mk : MK} {t cuts : List (List Int)} {row : List Int} (ok : RowCodeOk mk t cuts row []) {w0 : World} {F0 : Nat → Prop} {vl : Value} {zl : Zone} (hL : LocksR zl w0 vl (locks mk t cuts)) {vr : Value} {zr : Zone} (hr : IntsR zr w0 vr row) (cl : w0.cell? ⟨bL, 0, none⟩ = some vl) (cr : w0.cell? ⟨bR, 0, none⟩ = some vr)
    (hzl : ∀ k, zl.Has k → ¬ F0 k) (hzr : ∀ k, zr.Has k → ¬ F0 k) (hbL : ¬ F0 bL) (hbR : ¬ F0 bR) :
    VisitK 137 #[.pointer (some ⟨bL, 0, none⟩), .pointer (some ⟨bR, 0, none⟩), .pointer (some ⟨bl, 0, none⟩), .pointer (some ⟨bb, 0, none⟩)] w0 F0 (EasInv (changes mk t cuts row) bb bl) (easStep (changes mk t cuts row)) (fun _ _ => true) (fun k => (k.length : Int) = mk.c) where
  goes := Tryz.goesEasiestKey1
  keep := by
    rintro F s w w' ⟨v, hb⟩ hk hs
    exact ⟨v, hb.keep hk hs⟩
  fresh := by
    rintro F s w ⟨v, hb⟩
    exact hb.lt
  call := by
    rintro F s w v z key hI hF hK hk hok
    exact easiest1_c w v z key hI hk hok ok (hK.read stable_locks hL hzl) (hK.read stable_ints hr hzr) (hK.cell hbL cl) (hK.cell hbR cr)

/-- an empty list, a number and locks in variables of their own -/
theorem eas_new {f : List Int → Nat} {w3 w4 w7 : World} {vl : Value} {r0 : Nat} (e : Ext w3 w4) (hr : w3.heap.size = r0) (hw3 : Ext (w3.alloc (.cells #[] 2)) w4) (h : (((w4.alloc (.cells #[.slice (some ⟨r0, 0, none⟩) 0 0] 29)).alloc (.cells #[.int .i64 (-1)] 3)).alloc (.cells #[vl] 79)) = w7) :
    Ext w4 w7 ∧ EasInv f w4.heap.size (w4.heap.size + 1) (fun k => k = w4.heap.size ∨ k = w4.heap.size + 1 ∨ k = r0) none w7 ∧ w7.cell? ⟨w4.heap.size + 2, 0, none⟩ = some vl := by
  subst hr
  have hs : w3.heap.size + 1 ≤ w4.heap.size := by have := hw3.size; simpa using this
  have e7 : Ext w4 w7 := by rw [← h]; exact ((Ext.alloc _ _).trans (Ext.alloc _ _)).trans (Ext.alloc _ _)
  have s7 : w7.heap.size = w4.heap.size + 3 := by rw [← h]; simp
  refine ⟨e7, ⟨.slice (some ⟨w3.heap.size, 0, none⟩) 0 0, by rw [← h]; clear h e7 s7 hs; go_simp, by rw [← h]; clear h e7 s7 hs; go_simp, ?_, fun k hk => ?_, fun x hx => by simp at hx, by show _ = some (Value.int .i64 (-1)); rw [← h]; clear h e7 s7 hs; go_simp, by rw [← h]; clear h e7 s7 hs; go_simp, ⟨.inl rfl, .inr (.inl rfl), by omega⟩, fun k hk => by rcases hk with q | q | q <;> omega, fun b hb => by cases hb⟩, by rw [← h]; clear h e7 s7 hs; go_simp⟩
  · exact OwnP.ext (OwnP.ext (OwnP.empty (f := Value.int .i64) (Nat.zero_le _)) hw3) e7
  · injection hk with hk
    simp only at hk
    exact ⟨.inr (.inr hk.symm), by omega, by omega⟩

set_option maxRecDepth 20000 in
set_option maxHeartbeats 2000000 in
theorem EasiestKey_c (w : World) (mk : MK) (v : Value) (z : Zone) (t : List (List Int)) (h : RowsR z w v t) (u : Value) (y : Zone) (cuts : List (List Int)) (hc : RowsR y w u cuts) (v3 : Value) (z3 : Zone) (row : List Int) (hr : IntsR z3 w v3 row) :
    Calls Tryz.prog 48 #[sysV mk v, u, v3] w (Ret w (IntsTwo w (easiest mk t cuts row))) := by
  have H1 : Hid (rowCode mk t cuts row [] ≠ 0 → easiest mk t cuts row = ([], 0, rowCode mk t cuts row [])) := easiest_bad
  have H2 : Hid (rowCode mk t cuts row [] = 0 → easL (changes mk t cuts row) ((allK mk).filter (stays mk (t ++ [row]) cuts)) = none → easiest mk t cuts row = ([], 0, 4)) := easiest_none
  have H3 : Hid (∀ b, rowCode mk t cuts row [] = 0 → easL (changes mk t cuts row) ((allK mk).filter (stays mk (t ++ [row]) cuts)) = some b → easiest mk t cuts row = (b, (changes mk t cuts row b : Int), 0)) := fun b => easiest_some
  have HC1 := Lib.hid (fun (w' : World) (e : Ext w w') => rowCode_c w' mk v z t (stable_rows.ext h e) u y cuts (stable_rows.ext hc e) v3 z3 row (stable_ints.ext hr e) (.slice none 0 0) (.old w') [] (SliceR.nil _ _ _))
  have HC2 := Lib.hid (fun (h0 : rowCode mk t cuts row [] = 0) (w' : World) (e : Ext w w') => partLocks_c w' mk v z t (stable_rows.ext h e) u y cuts (stable_rows.ext hc e) (rowCode_zero h0).toPartOk)
  have HCf : RowsR ⟨0, w.heap.size, false⟩ w u cuts := rows_free hc
  have HRf : IntsR ⟨0, w.heap.size, false⟩ w v3 row := IntsR.free hr
  have HC3 := Lib.hid (fun (h0 : rowCode mk t cuts row [] = 0) (w7 : World) (e : Ext w w7) (bb bl bL r0 : Nat) (vl : Value) (zl : Zone) (hbb : w.heap.size + 1 < r0 ∧ r0 < bb ∧ bb < bl ∧ bl < bL) (hz : r0 < zl.lo ∧ zl.hi ≤ bb) (hL : LocksR zl w7 vl (locks mk t cuts)) (cl : w7.cell? ⟨bL, 0, none⟩ = some vl) (cr : w7.cell? ⟨w.heap.size + 1, 0, none⟩ = some v3) (hI : EasInv (changes mk t cuts row) bb bl (fun k => k = bb ∨ k = bl ∨ k = r0) none w7) =>
    eachIssue_c (visitEas (rowCode_zero h0) hL (stable_ints.ext HRf e) cl cr (fun k hk q => by have h1 := hk.1; have h2 := hk.2; rcases q with q | q | q <;> omega) (fun k hk q => by have := hk.2; simp only at this; rcases q with q | q | q <;> omega) (fun q => by rcases q with q | q | q <;> omega) (fun q => by rcases q with q | q | q <;> omega)) mk v z t (stable_rows.ext h e) u ⟨0, w.heap.size, false⟩ cuts (stable_rows.ext HCf e) v3 z3 row (stable_ints.ext hr e) (rowCode_zero h0) (fun k hk q => by have := hk.2; simp only at this; rcases q with q | q | q <;> omega) (fun k hk => (allK_key (designOk_mk (rowCode_zero h0).toDesignOk) hk).len) none hI)
  have HV : Hid ((visits (easStep (changes mk t cuts row)) (fun _ _ => true) none ((allK mk).filter (stays mk (t ++ [row]) cuts))).1 = easL (changes mk t cuts row) ((allK mk).filter (stays mk (t ++ [row]) cuts))) := visits_all _ _
  generalize (allK mk).filter (stays mk (t ++ [row]) cuts) = L at *
  generalize changes mk t cuts row = f at *
  generalize easiest mk t cuts row = res at *
  generalize rowCode mk t cuts row [] = rc at *
  obtain ⟨a, n, cap, rfl, -⟩ := SliceR.shape h
  obtain ⟨a2, n2, cap2, rfl, -⟩ := SliceR.shape hc
  obtain ⟨a3, n3, cap3, rfl, -⟩ := SliceR.shape hr
  clear h hc hr HCf HRf
  have hGo := Tryz.goesEasiestKey1
  unfold Goes at hGo
  unfold sysV at *
  go_enter Tryz.func48, Tryz.ntmps48
  go_wp2_with fail
  generalize hw0 : World.alloc (World.alloc _ _) _ = w0
  obtain ⟨e0, S0, c7⟩ : Ext w w0 ∧ SysAt w0 w.heap.size mk (.slice a n cap) ∧ w0.cell? ⟨w.heap.size + 1, 0, none⟩ = some (.slice a3 n3 cap3) := by
    subst hw0
    refine ⟨(Ext.alloc _ _).trans (Ext.alloc _ _), ⟨?_, ?_, ?_, ?_, ?_, ?_⟩, ?_⟩
    all_goals (clear HC1 HC2 HC3 H1 H2 H3 HV; go_simp; done)
  clear hw0
  have HS := Lib.hid S0
  have H7 := Lib.hid c7
  clear S0 c7
  refine Calls.mono (HC1.out w0 e0) ?_
  rintro e w1 hr
  obtain ⟨r, rfl, rfl, e1⟩ := ret_ext hr
  clear hr
  have et := e0.trans e1
  by_cases hd : rc = 0
  · have hb : (rc != 0) = false := by rw [hd]; rfl
    have H2' := Lib.hid (H2.out hd)
    have H3' := Lib.hid (fun b => H3.out b hd)
    have HC2' := Lib.hid (HC2.out hd)
    have HC3' := Lib.hid (HC3.out hd)
    obtain ⟨c0, c1, c2, c3, c4, c5⟩ := HS.out.ext e1
    have zb := World.block_lt_of_cell? _ _ (e1.cell H7.out)
    simp only at zb
    have zb0 : w.heap.size < w1.heap.size := by omega
    have zb' := Nat.ne_of_lt zb0
    have zb'' := Nat.ne_of_gt zb0
    clear H1 H2 H3 HC2 HC3 hd
    go_wp2_with fail
    generalize hw3 : World.alloc w1 _ = w3
    have e3 : Ext w1 w3 := by rw [← hw3]; exact Ext.alloc _ _
    have s3 : w3.heap.size = w1.heap.size + 1 := by rw [← hw3]; simp
    have hw3' := Lib.hid hw3
    have S3 := Lib.hid s3
    clear hw3 s3 c0 c1 c2 c3 c4 c5
    have et3 := et.trans e3
    refine Calls.mono (HC2'.out w3 et3) ?_
    rintro e w4 hr
    obtain ⟨r, rfl, hL, e4⟩ := ret_ext hr
    clear hr
    obtain ⟨al, nl, kl, rfl, -⟩ := SliceR.shape hL
    have HLk := Lib.hid hL
    clear hL
    have et4 := et3.trans e4
    obtain ⟨c0, c1, c2, c3, c4, c5⟩ := HS.out.ext ((e1.trans e3).trans e4)
    have c7 := ((e1.trans e3).trans e4).cell H7.out
    have zb4 : w.heap.size < w4.heap.size := Nat.lt_of_lt_of_le zb0 (e3.trans e4).size
    have zb4' := Nat.ne_of_lt zb4
    have zb4'' := Nat.ne_of_gt zb4
    have zc4 : w.heap.size + 1 < w4.heap.size := Nat.lt_of_lt_of_le zb (e3.trans e4).size
    have zc4' := Nat.ne_of_lt zc4
    have zc4'' := Nat.ne_of_gt zc4
    go_upto_region 5 with fail
    generalize hw7 : World.alloc (World.alloc (World.alloc _ _) _) _ = w7
    obtain ⟨e7, i7, k7⟩ := eas_new (f := f) (r0 := w1.heap.size) (e3.trans e4) rfl (by rw [hw3'.out]; exact e4) hw7
    clear hw7 c0 c1 c2 c3 c4 c5 c7 zb4' zb4'' zc4' zc4'' zb' zb''
    obtain ⟨c0, c1, c2, c3, c4, c5⟩ := HS.out.ext (((e1.trans e3).trans e4).trans e7)
    have c7 := (((e1.trans e3).trans e4).trans e7).cell H7.out
    have s3 := S3.out
    have s4 := e4.size
    have hcall := HC3'.out w7 (et4.trans e7) w4.heap.size (w4.heap.size + 1) (w4.heap.size + 2) w1.heap.size _ _ (by omega) (by show w1.heap.size < w3.heap.size ∧ w4.heap.size ≤ w4.heap.size; omega) (stable_locks.ext HLk.out e7) k7 c7 i7
    rw [HV.out] at hcall
    have HCALL := Lib.hid hcall
    clear hcall k7 i7 s3 s4
    go_wp2_with fail
    refine Calls.mono HCALL.out ?_
    intro e w8 h8
    obtain ⟨rfl, F8, ⟨v8, hB8⟩, g8, f8⟩ := h8
    have et7 := et4.trans e7
    have es := et.size
    have es4 := (e3.trans e4).size
    have HG : Hid (∀ k, F8 k → w.heap.size ≤ k) := fun k hk => by
      have := et7.size
      rcases g8 k hk with q | q
      · rcases q with q | q | q <;> omega
      · omega
    have HE8 : Hid (Ext w w8) := (Frame.trans (Frame.of_ext (F := fun k => k = w4.heap.size ∨ k = w4.heap.size + 1 ∨ k = w1.heap.size) et7) f8 (fun i hi _ => hi)).below (B := w.heap.size) (fun k hk => by rcases hk with q | q | q <;> omega) (Nat.le_refl _)
    have d1 := hB8.cell
    have d2 := hB8.least
    have HB8 := Lib.hid hB8
    obtain ⟨a8, n8, k8, rfl, -⟩ := OwnP.shape hB8.own
    clear hB8 g8 f8 c0 c1 c2 c3 c4 c5 c7
    cases hL : easL f L with
    | none =>
      rw [hL] at d2
      have hl : leastOf f none = -1 := rfl
      rw [hl] at d2
      have HH := Lib.hid (H2'.out hL)
      clear hL hl
      go_wp2_with fail
      go_ret3
      exact ⟨_, rfl, IntsTwo_nil HH.out, HE8.out⟩
    | some b =>
      have HH := Lib.hid (H3'.out b hL)
      have hl : leastOf f (some b) = (f b : Int) := rfl
      rw [hL, hl] at d2
      have HX : Hid (IntsR (.new w w8) w8 (.slice a8 n8 k8) b) := by
        have h1 := HB8.out.own
        have h2 := HB8.out.i64
        rw [hL] at h1 h2
        exact OwnP.ints (h1.raise (fun k hk => HG.out k (HB8.out.row k hk).1)) h2 (Nat.le_refl _)
      have hf0 : ¬ ((f b : Int) < 0) := by omega
      have hf1 : decide ((f b : Int) < 0) = false := decide_eq_false hf0
      generalize f b = fb at *
      clear hL hl
      go_wp2_with fail
      go_quiet (fail)
      go_wp2_with fail
      go_ret3
      exact ⟨_, rfl, IntsTwo_mk HH.out (stable_ints.ext HX.out (Ext.drewN _ _)), HE8.out.trans (Ext.drewN _ _)⟩
  · have HH := Lib.hid (H1.out hd)
    have hb : (rc != 0) = true := by rw [bne_iff_ne]; exact hd
    clear H1 H2 H3 hd
    go_wp2_with fail
    go_ret3
    exact ⟨_, rfl, IntsTwo_nil HH.out, et⟩
end Go.Proofs.YtegmognpofcfiaaGreat
