/- Proved: the program's visit of all keys in order. -/
import Derived.Test.YthgmojggpjnckaaGreatChecked
import Derived.Deep.RegionHeld3
import Derived.Deep.RegionLaw
import Derived.Test.YthgmojggpjnckaaGreatUPkF2
import Derived.Test.YthgmojggpjnckaaGreatUKeyFirst
import Derived.Test.YthgmojggpjnckaaGreatUPkB
import Derived.Test.YthgmojggpjnckaaGreatUMixX
namespace Go.Proofs.YthgmojggpjnckaaGreat
open Go.ChangeShapes Go.WideShapes Go.ChangeAt Go.RowKit
set_option linter.unusedVariables false

/-- the boxes of eachKey: maker, visit, from (none), allowed (none), and the closure itself -/
structure Boxes (w : World) (mk : MK) (bk bm bv bf ba bc : Nat) (fv : Value) : Prop where
  m : MkAt w bm mk
  v : w.cell? ⟨bv, 0, none⟩ = some fv
  f : w.cell? ⟨bf, 0, none⟩ = some (.slice none 0 0)
  a : w.cell? ⟨ba, 0, none⟩ = some .nilFunc
  c : w.cell? ⟨bc, 0, none⟩ = some (.func (.func 159) #[] #[.pointer (some ⟨bk, 0, none⟩), .pointer (some ⟨bm, 0, none⟩), .pointer (some ⟨bv, 0, none⟩), .pointer (some ⟨bf, 0, none⟩), .pointer (some ⟨ba, 0, none⟩), .pointer (some ⟨bc, 0, none⟩)])
theorem Boxes.of {w w' : World} {mk : MK} {bk bm bv bf ba bc : Nat} {fv : Value} (h : Boxes w mk bk bm bv bf ba bc fv) (hb : ∀ k, k = bm ∨ k = bv ∨ k = bf ∨ k = ba ∨ k = bc → w'.heap[k]? = w.heap[k]?) : Boxes w' mk bk bm bv bf ba bc fv := by
  have c := fun (k i : Nat) (hk : k = bm ∨ k = bv ∨ k = bf ∨ k = ba ∨ k = bc) (u : Value) (hc : w.cell? ⟨k, i, none⟩ = some u) => (World.cell?_of_block (w := w) (w' := w') (a := ⟨k, i, none⟩) (hb k hk)).trans hc
  obtain ⟨⟨m0, m1, m2, m3, m4⟩, h2, h3, h4, h5⟩ := h
  exact ⟨⟨c _ _ (.inl rfl) _ m0, c _ _ (.inl rfl) _ m1, c _ _ (.inl rfl) _ m2, c _ _ (.inl rfl) _ m3, c _ _ (.inl rfl) _ m4⟩, c _ _ (.inr (.inl rfl)) _ h2, c _ _ (.inr (.inr (.inl rfl))) _ h3, c _ _ (.inr (.inr (.inr (.inl rfl)))) _ h4, c _ _ (.inr (.inr (.inr (.inr rfl)))) _ h5⟩
/-- the key's variable: a row of its own, from block B on, no box of X -/
structure KeyAt (w : World) (bk : Nat) (X : Nat → Prop) (B : Nat) (kv : Value) (pre : List Int) : Prop where
  cell : w.cell? ⟨bk, 0, none⟩ = some kv
  free : w.frozen? ⟨bk, 0, none⟩ = false
  own : OwnP (Value.int .i64) 2 B w kv pre
  row : ∀ k, kv.ownBlock = some k → ¬ X k
/-- the visit's blocks lie apart from the boxes and from the key's row -/
structure Apart3 (F : Nat → Prop) (X : Nat → Prop) (kv : Value) : Prop where
  box : ∀ k, F k → ¬ X k
  key : ∀ k, F k → kv.ownBlock ≠ some k
/-- the boxes are there, and block B -/
structure Room (X : Nat → Prop) (B : Nat) (w : World) : Prop where
  b : B ≤ w.heap.size
  x : ∀ k, X k → k < w.heap.size
theorem Room.mono {X : Nat → Prop} {B : Nat} {w w' : World} (h : Room X B w) (hs : w.heap.size ≤ w'.heap.size) : Room X B w' := ⟨Nat.le_trans h.b hs, fun k hk => Nat.lt_of_lt_of_le (h.x k hk) hs⟩
def KeyRow (F : Nat → Prop) (bk : Nat) (kv : Value) : Nat → Prop := fun k => F k ∨ k = bk ∨ kv.ownBlock = some k
/-- what a visit of the keys that begin with pre leaves -/
def CutEnd {σ : Type} (Inv : (Nat → Prop) → σ → World → Prop) (F : Nat → Prop) (bk : Nat) (X : Nat → Prop) (B : Nat) (kv : Value) (pre : List Int) (w : World) (x : σ × Bool) (e : Ending) (w' : World) : Prop :=
  e = .returned (.bool x.2) ∧ ∃ F' kv', Inv F' x.1 w' ∧ KeyAt w' bk X B kv' pre ∧ Apart3 F' X kv' ∧ (∀ k, F' k → F k ∨ w.heap.size ≤ k) ∧ (∀ k, kv'.ownBlock = some k → kv.ownBlock = some k ∨ w.heap.size ≤ k) ∧ Frame (KeyRow F bk kv) w w'
theorem growLow {F F' : Nat → Prop} {w W : World} (h : ∀ k, F' k → F k ∨ W.heap.size ≤ k) (e : Drew w W) : ∀ k, F' k → F k ∨ w.heap.size ≤ k := fun k hk => by
  have := e.size
  rcases h k hk with q | q
  · exact .inl q
  · exact .inr (by omega)
theorem KeyAt.frame {w w' : World} {bk B : Nat} {X : Nat → Prop} {kv : Value} {pre : List Int} {F : Nat → Prop} (h : KeyAt w bk X B kv pre) (fr : Frame F w w') (hb : ¬ F bk) (hk : ∀ k, F k → kv.ownBlock ≠ some k) : KeyAt w' bk X B kv pre := by
  have hlt : bk < w.heap.size := World.block_lt_of_cell? _ _ h.cell
  have e := fr.block bk hlt hb
  refine ⟨(World.cell?_of_block (a := ⟨bk, 0, none⟩) e).trans h.cell, (World.frozen?_of_block (a := ⟨bk, 0, none⟩) e).trans h.free, ?_, h.row⟩
  obtain ⟨h1, h2⟩ := h.own
  refine ⟨h1, ?_⟩
  rcases h2 with h2 | ⟨g, cap, cur, hv, hbg, hg, r⟩
  · exact .inl h2
  · exact .inr ⟨g, cap, cur, hv, hbg, by rw [fr.block g (Array.getElem?_eq_some_iff.1 hg).1 (fun hf => hk g hf (by rw [hv]; rfl))]; exact hg, r⟩
theorem Apart3.grow {F F' : Nat → Prop} {X : Nat → Prop} {B : Nat} {kv : Value} {w : World} (h : Apart3 F X kv) (hF : ∀ k, F' k → F k ∨ w.heap.size ≤ k) (hB : Room X B w) (hk : ∀ k, kv.ownBlock = some k → k < w.heap.size) : Apart3 F' X kv :=
  ⟨fun k hf => (hF k hf).elim (h.box k) (fun q hx => by have := hB.x k hx; omega), fun k hf => (hF k hf).elim (h.key k) (fun q e => by have := hk k e; omega)⟩
theorem lowKind {l : Int} {k : Nat} : (decide ((k : Int) < l) = true ↔ ¬ l ≤ (k : Int)) := by rw [decide_eq_true_iff]; omega

/-- a list of whole numbers is read in its own row alone -/
theorem ints_row {z : Zone} {w : World} {v : Value} {xs : List Int} (h : IntsR z w v xs) : ∃ Z : Zone, IntsR Z w v xs ∧ ∀ k, Z.Has k → ∃ ad n c, v = .slice (some ad) n c ∧ ad.block = k := by
  obtain ⟨a, cap, rfl, h1, h2, h3, h4⟩ := h
  cases a with
  | none => exact ⟨⟨0, 0, false⟩, ⟨none, cap, rfl, h1, h2, h3, fun ad had => by cases had⟩, fun k hk => absurd hk.2 (Nat.not_lt_zero _)⟩
  | some ad =>
    refine ⟨⟨ad.block, ad.block + 1, false⟩, ⟨some ad, cap, rfl, h1, h2, h3, fun ad' had hp => ?_⟩, fun k hk => ⟨ad, _, _, rfl, by have q1 := hk.1; have q2 := hk.2; simp only at q1 q2; omega⟩⟩
    injection had with had
    subst had
    obtain ⟨k1, k2, k3, k4, Z, k5, k6, k7⟩ := h4 ad rfl hp
    refine ⟨k1, ⟨Nat.le_refl _, Nat.lt_succ_self _⟩, k3, (fun h => by cases h), fun _ => ⟨ad.block, ad.block + 1, false⟩, fun i hi => ⟨fun k hk => hk, fun h => by cases h⟩, (fun h => by cases h), fun i hi => ?_⟩
    obtain ⟨u, c1, c2⟩ := k7 i hi
    exact ⟨u, c1, c2⟩
theorem key_row {e : TypeId} {B : Nat} {w : World} {kv : Value} {pre : List Int} (h : OwnP (Value.int .i64) e B w kv pre) (hm : ∀ x ∈ pre, I64 x) : ∃ Z : Zone, IntsR Z w kv pre ∧ ∀ k, Z.Has k → kv.ownBlock = some k := by
  obtain ⟨Z, h1, h2⟩ := ints_row (OwnP.ints h hm (Nat.le_refl _))
  refine ⟨Z, h1, fun k hk => ?_⟩
  obtain ⟨ad, n, c, rfl, q⟩ := h2 k hk
  rcases h.2 with ⟨h, -⟩ | ⟨g, cap, cur, hv, -⟩
  · cases h
  · injection hv with e1 e2 e3
    injection e1 with e1
    subst e1
    rw [← q]; rfl

set_option maxRecDepth 20000 in
set_option maxHeartbeats 2000000 in
theorem cut_zero {σ : Type} {Fv : FuncId} {caps : Array Value} {Inv : (Nat → Prop) → σ → World → Prop} {step : σ → List Int → σ} {more : σ → List Int → Bool} {Ok : List Int → Prop} (V : VisitOk Fv caps Inv step more Ok)
    (mk : MK) (ok : MkOk mk) {bk bm bv bf ba bc B : Nat} {X : Nat → Prop} (hbk : X bk) (pre : List Int) (hl : pre.length = mk.c.toNat) (hb : begins mk pre = true) (hOk : ∀ k ∈ keysR mk mk.d.toNat 0 pre, Ok k)
    (F : Nat → Prop) (s : σ) (w : World) (kv : Value) (hI : Inv F s w) (hB : Boxes w mk bk bm bv bf ba bc (.func (.func Fv) #[] caps)) (hK : KeyAt w bk X B kv pre) (hm : ∀ x ∈ pre, I64 x) (hA : Apart3 F X kv) (hBw : Room X B w) :
    Calls Tryz.prog 159 #[.bool false, .pointer (some ⟨bk, 0, none⟩), .pointer (some ⟨bm, 0, none⟩), .pointer (some ⟨bv, 0, none⟩), .pointer (some ⟨bf, 0, none⟩), .pointer (some ⟨ba, 0, none⟩), .pointer (some ⟨bc, 0, none⟩)] w
      (CutEnd Inv F bk X B kv pre w (visits step more s (keysR mk mk.d.toNat 0 pre))) := by
  have hGo := V.goes
  unfold Goes at hGo
  have hkr := keysR_zero mk mk.d.toNat pre
  rw [hb, if_pos rfl] at hkr
  have hlow := hK.own.block
  have hD := Lib.hid (fun (w' : World) (e : Ext w w') => different_c w' kv _ pre (stable_ints.ext (OwnP.ints hK.own hm (Nat.le_refl _)) e))
  have HK := Lib.hid hK
  have HA := Lib.hid hA
  have HI := Lib.hid hI
  have kc := hK.cell
  obtain ⟨⟨m0, m1, m2, m3, m4⟩, b1, b2, b3, b4⟩ := hB
  obtain ⟨ka, kn, kk, rfl, hkn, -⟩ := OwnP.shape hK.own
  have hc6 := ok.c6
  have hnc : ((kn : Int) == mk.c) = true := by rw [hkn, hl, beq_iff_eq]; omega
  by_cases hlk : mk.l ≤ (kinds pre : Int)
  · rw [if_pos hlk] at hkr
    obtain ⟨Zk, hZk1, hZk2⟩ := key_row HK.out.own hm
    have HV := Lib.hid (fun (w' : World) (e : Drew w w') => V.call w' _ Zk pre (V.keep HI.out (fun k _ => by obtain ⟨q, rfl⟩ := e; rfl) (by rw [e.size]; exact Nat.le_refl _)) (stable_ints.ext hZk1 (Ext.ofDrew e)) (fun k hk hf => HA.out.key k hf (hZk2 k hk)) (hOk pre (by rw [hkr]; exact List.mem_singleton.2 rfl)))
    have HR : Hid (visits step more s (keysR mk mk.d.toNat 0 pre) = (step s pre, more s pre)) := by show _ = _; rw [hkr, visits_one]
    have hb1 : decide ((kinds pre : Int) < mk.l) = false := decide_eq_false (by omega)
    have HDq := Lib.hid (fun (w' : World) (e : Drew w w') => hD.out w' (Ext.ofDrew e))
    have Hkc := Lib.hid kc
    clear hZk1 hZk2
    clear hkr hOk hl hD hlow hm hI hK hA hkn
    generalize kinds pre = kq at *
    generalize visits step more s (keysR mk mk.d.toNat 0 pre) = res at *
    go_enter Tryz.func159, Tryz.ntmps159
    go_wp2_with fail
    go_region_law (first | (go_simp; go_at_call 160; refine (HDq.out _ (by first | exact ⟨_, rfl⟩ | exact Drew.of2)).mono ?_; rintro e w6 ⟨rfl, hd6⟩; have hd66 : Drew w w6 := Drew.trans (by first | exact ⟨_, rfl⟩ | exact Drew.of2) hd6; have x1 := (hd66.cell _).trans b1; have x2 := (hd66.cell _).trans kc; have x3 := (hd66.cell _).trans m4) | (go_simp; refine (HV.out _ (by first | exact hd66 | exact ⟨_, rfl⟩ | exact Drew.drew hd66)).mono ?_; rintro e w7 ⟨rfl, F', i7, hF7, fr7⟩; have hF8 := growLow hF7 (by first | exact hd66 | exact ⟨_, rfl⟩ | exact Drew.drew hd66); have fr8 : Frame F w w7 := Frame.trans (Frame.of_ext (Ext.ofDrew (by first | exact hd66 | exact ⟨_, rfl⟩ | exact Drew.drew hd66))) fr7 (fun i hi _ => hi)) | fail)
    all_goals
      go_wp2_with fail
      go_ret
      have e := HR.out
      subst e
      have hbF : ¬ F bk := fun h => HA.out.box bk h hbk
      exact ⟨rfl, F', _, i7, HK.out.frame fr8 hbF HA.out.key, HA.out.grow hF8 hBw (fun k hk => (OwnP.block HK.out.own k hk).2), hF8, fun k h => .inl h, fr8.mono (fun i hi _ => .inl hi)⟩
  · rw [if_neg hlk] at hkr
    have HR : Hid (visits step more s (keysR mk mk.d.toNat 0 pre) = (s, true)) := by show _ = _; rw [hkr, visits_nil]
    have hb1 : decide ((kinds pre : Int) < mk.l) = true := decide_eq_true (by omega)
    have HDq := Lib.hid (fun (w' : World) (e : Drew w w') => hD.out w' (Ext.ofDrew e))
    clear hkr hOk hl hD hlow hm hI hK hA hkn
    generalize kinds pre = kq at *
    generalize visits step more s (keysR mk mk.d.toNat 0 pre) = res at *
    go_enter Tryz.func159, Tryz.ntmps159
    go_wp2_with fail
    go_quiet ((go_at_call 160; exact RetQ.quiet (HDq.out _ ⟨_, rfl⟩)))
    go_wp2_with fail
    go_ret
    have e := HR.out
    subst e
    exact ⟨rfl, F, _, V.keep HI.out (fun _ _ => rfl) (Nat.le_refl _), ⟨HK.out.cell, HK.out.free, HK.out.own, HK.out.row⟩, HA.out, fun k h => .inl h, fun k h => .inl h, Frame.of_ext (Ext.drewN _ _)⟩
end Go.Proofs.YthgmojggpjnckaaGreat
