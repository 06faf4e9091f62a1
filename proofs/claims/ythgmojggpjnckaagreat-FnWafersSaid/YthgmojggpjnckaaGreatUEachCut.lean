/- Proved: the program's visit of all keys in order, one more cut. -/
import Derived.Test.YthgmojggpjnckaaGreatChecked
import Derived.Deep.RegionHeld3
import Derived.Deep.RegionLaw
import Derived.Test.YthgmojggpjnckaaGreatUEachKey
import Derived.Test.YthgmojggpjnckaaGreatURegionStep
namespace Go.Proofs.YthgmojggpjnckaaGreat
open Go.ChangeShapes Go.WideShapes Go.ChangeAt Go.RowKit
set_option linter.unusedVariables false

/-- what has become of the visit's state and of the key's row -/
structure CutAt {σ : Type} (Inv : (Nat → Prop) → σ → World → Prop) (bk : Nat) (X : Nat → Prop) (B : Nat) (F : Nat → Prop) (kv : Value) (w : World) (F' : Nat → Prop) (kv' : Value) (pre : List Int) (s : σ) (w' : World) : Prop where
  inv : Inv F' s w'
  key : KeyAt w' bk X B kv' pre
  apart : Apart3 F' X kv'
  growF : ∀ k, F' k → F k ∨ w.heap.size ≤ k
  growK : ∀ k, kv'.ownBlock = some k → kv.ownBlock = some k ∨ w.heap.size ≤ k
  frame : Frame (KeyRow F bk kv) w w'
section
variable {σ : Type} {Inv : (Nat → Prop) → σ → World → Prop} {bk B : Nat} {X : Nat → Prop} {F F1 F2 : Nat → Prop} {kv kv1 kv2 : Value} {w w1 w2 : World} {pre pre1 pre2 : List Int} {s s1 s2 : σ}
theorem CutAt.start (hI : Inv F s w) (hK : KeyAt w bk X B kv pre) (hA : Apart3 F X kv) : CutAt Inv bk X B F kv w F kv pre s w := ⟨hI, hK, hA, fun _ h => .inl h, fun _ h => .inl h, Frame.refl _ _⟩
theorem CutAt.trans (h : CutAt Inv bk X B F kv w F1 kv1 pre1 s1 w1) (g : CutAt Inv bk X B F1 kv1 w1 F2 kv2 pre2 s2 w2) : CutAt Inv bk X B F kv w F2 kv2 pre2 s2 w2 :=
  ⟨g.inv, g.key, g.apart, fun k hk => (g.growF k hk).elim (fun q => h.growF k q) (fun q => .inr (Nat.le_trans h.frame.size q)), fun k hk => (g.growK k hk).elim (fun q => h.growK k q) (fun q => .inr (Nat.le_trans h.frame.size q)),
    h.frame.trans g.frame (fun i hi hlt => by
      rcases hi with q | q | q
      · rcases h.growF i q with q | q
        · exact .inl q
        · omega
      · exact .inr (.inl q)
      · rcases h.growK i q with q | q
        · exact .inr (.inr q)
        · omega)⟩
theorem CutAt.toEnd {e : Ending} {x : σ × Bool} (he : e = .returned (.bool x.2)) (h : CutAt Inv bk X B F kv w F1 kv1 pre x.1 w1) : CutEnd Inv F bk X B kv pre w x e w1 := ⟨he, F1, kv1, h.inv, h.key, h.apart, h.growF, h.growK, h.frame⟩
theorem CutEnd.at {e : Ending} {x : σ × Bool} (h : CutEnd Inv F bk X B kv pre w x e w1) : e = .returned (.bool x.2) ∧ ∃ F1 kv1, CutAt Inv bk X B F kv w F1 kv1 pre x.1 w1 := by
  obtain ⟨he, F1, kv1, h1, h2, h3, h4, h5, h6⟩ := h
  exact ⟨he, F1, kv1, h1, h2, h3, h4, h5, h6⟩
theorem CutAt.drew {Fv : FuncId} {caps : Array Value} {step : σ → List Int → σ} {more : σ → List Int → Bool} {Ok : List Int → Prop} (V : VisitOk Fv caps Inv step more Ok) (h : CutAt Inv bk X B F kv w F1 kv1 pre s w1) (e : Drew w1 w2) : CutAt Inv bk X B F kv w F1 kv1 pre s w2 := by
  obtain ⟨n, rfl⟩ := e
  exact ⟨V.keep h.inv (fun _ _ => rfl) (Nat.le_refl _), ⟨h.key.cell, h.key.free, h.key.own, h.key.row⟩, h.apart, h.growF, h.growK, h.frame.trans (Frame.of_ext (F := KeyRow F bk kv) (Ext.drewN _ _)) (fun _ q _ => q)⟩
theorem CutAt.boxes {mk : MK} {bm bv bf ba bc : Nat} {fv : Value} (h : CutAt Inv bk X B F kv w F1 kv1 pre1 s1 w1) (hB : Boxes w mk bk bm bv bf ba bc fv) (hA : Apart3 F X kv) (hK : ∀ k, kv.ownBlock = some k → ¬ X k) (hne : ∀ k, k = bm ∨ k = bv ∨ k = bf ∨ k = ba ∨ k = bc → X k ∧ k ≠ bk) (hBw : Room X B w) : Boxes w1 mk bk bm bv bf ba bc fv :=
  hB.of fun k hk => by
    obtain ⟨h1, h3⟩ := hne k hk
    refine h.frame.block k (hBw.x k h1) (fun q => ?_)
    rcases q with q | q | q
    · exact hA.box k q h1
    · exact h3 q
    · exact hK k q h1
theorem CutAt.push {Fv : FuncId} {caps : Array Value} {step : σ → List Int → σ} {more : σ → List Int → Bool} {Ok : List Int → Prop} (V : VisitOk Fv caps Inv step more Ok) (h : CutAt Inv bk X B F kv w F1 kv1 pre s w1) (hbk : X bk) (hBw : Room X B w1) {v8 : Value} (ho : OwnP (Value.int .i64) 2 B w2 v8 pre2) (hg : w1.grownBy w2 kv1.ownBlock) (hv : ∀ k, v8.ownBlock = some k → kv1.ownBlock = some k ∨ w1.heap.size ≤ k) :
    CutAt Inv bk X B F kv w F1 v8 pre2 s (w2.setCell ⟨bk, 0, none⟩ v8) := by
  have hk1 : ∀ k, kv1.ownBlock = some k → B ≤ k ∧ k < w1.heap.size := fun k hk => h.key.own.block k hk
  have hs : (w2.setCell ⟨bk, 0, none⟩ v8).heap.size = w2.heap.size := setCell_size _ _ _
  have hbkn : ¬ some bk = kv1.ownBlock := fun e => h.key.row bk e.symm hbk
  have hb2 : w2.heap[bk]? = w1.heap[bk]? := hg.block bk (hBw.x bk hbk) hbkn
  have hFb : ∀ k, F1 k → k ≠ bk := fun k hk e => h.apart.box k hk (e ▸ hbk)
  have hvr : ∀ k, v8.ownBlock = some k → ¬ X k := fun k hk hx => (hv k hk).elim (fun q => h.key.row k q hx) (fun q => by have := hBw.x k hx; omega)
  have hblk : ∀ k, k < w1.heap.size → k ≠ bk → some k ≠ kv1.ownBlock → (w2.setCell ⟨bk, 0, none⟩ v8).heap[k]? = w1.heap[k]? := fun k h1 h2 h3 => (Below.heap_setCell _ _ _ _ h2).trans (hg.block k h1 h3)
  have hcb : w2.cell? ⟨bk, 0, none⟩ = some kv1 := (World.cell?_of_block (a := ⟨bk, 0, none⟩) hb2).trans h.key.cell
  have hfb : w2.frozen? ⟨bk, 0, none⟩ = false := (World.frozen?_of_block (a := ⟨bk, 0, none⟩) hb2).trans h.key.free
  have hgs := hg.size
  have step1 : CutAt Inv bk X B F1 kv1 w1 F1 v8 pre2 s (w2.setCell ⟨bk, 0, none⟩ v8) := by
    refine ⟨V.keep h.inv (fun k hk => hblk k (V.fresh h.inv k hk) (hFb k hk) (fun e => h.apart.key k hk e.symm)) (by omega), ⟨World.cell?_setCell_same _ _ _ hcb, by rw [World.frozen?_setCell]; exact hfb, ?_, hvr⟩, ⟨h.apart.box, fun k hk e => (hv k e).elim (h.apart.key k hk) (fun q => by have := V.fresh h.inv k hk; omega)⟩, fun k hk => .inl hk, hv, ⟨hg.os, hg.tape, hg.output, by omega, fun k h1 h2 => hblk k h1 (fun e => h2 (.inr (.inl e))) (fun e => h2 (.inr (.inr e.symm)))⟩⟩
    obtain ⟨h1, h2⟩ := ho
    refine ⟨h1, ?_⟩
    rcases h2 with h2 | ⟨g, cap, cur, hv', hbg, hg', r⟩
    · exact .inl h2
    · exact .inr ⟨g, cap, cur, hv', hbg, by rw [Below.heap_setCell _ _ _ _ (show g ≠ bk from fun e => hvr g (by rw [hv']; rfl) (e ▸ hbk))]; exact hg', r⟩
  exact h.trans step1
theorem CutAt.slot {Inv : (Nat → Prop) → σ → World → Prop} (h : CutAt Inv bk X B F kv w F1 kv1 pre s w1) (hbk : X bk) (hBw : Room X B w1) (hg : w1.grownBy w2 kv1.ownBlock) : w2.cell? ⟨bk, 0, none⟩ = some kv1 ∧ w2.frozen? ⟨bk, 0, none⟩ = false := by
  have hb2 : w2.heap[bk]? = w1.heap[bk]? := hg.block bk (hBw.x bk hbk) (fun e => h.key.row bk e.symm hbk)
  exact ⟨(World.cell?_of_block (a := ⟨bk, 0, none⟩) hb2).trans h.key.cell, (World.frozen?_of_block (a := ⟨bk, 0, none⟩) hb2).trans h.key.free⟩
theorem CutAt.shape {Inv : (Nat → Prop) → σ → World → Prop} {x : Int} (h : CutAt Inv bk X B F kv w F1 kv1 (pre ++ [x]) s w1) {m : Nat} (hm : m = pre.length) : ∃ a k, kv1 = .slice a (m + 1) k ∧ m + 1 ≤ k ∧ w1.cell? ⟨bk, 0, none⟩ = some (.slice a (m + 1) k) ∧ w1.frozen? ⟨bk, 0, none⟩ = false := by
  obtain ⟨a, n, k, rfl, hn, -⟩ := OwnP.shape h.key.own
  rw [List.length_append, List.length_singleton, ← hm] at hn
  subst hn
  refine ⟨a, k, rfl, ?_, h.key.cell, h.key.free⟩
  rcases h.key.own.2 with ⟨h2, h0⟩ | ⟨g, c2, cur, hv, hbg, hg, hnc, -⟩
  · rw [List.length_append, List.length_singleton] at h0; omega
  · injection hv with q1 q2 q3; omega
theorem OwnP.trunc {α : Type} {f : α → Value} {e : TypeId} {B : Nat} {w : World} {a : Option Addr} {n cap : Nat} {xs : List α} (h : OwnP f e B w (.slice a n cap) xs) {m : Nat} (hm : m ≤ n) : OwnP f e B w (.slice a m cap) (xs.take m) := by
  have hn := h.len
  obtain ⟨h1, h2⟩ := h
  have hl : (xs.take m).length = m := by rw [List.length_take]; omega
  refine ⟨by rw [hl, List.length_map, hl, Nat.mul_one], ?_⟩
  rcases h2 with ⟨h2, h0⟩ | ⟨g, c2, cur, hv, hbg, hg, hnc, hcm, hcs, htake⟩
  · injection h2 with q1 q2 q3
    exact .inl ⟨by rw [q1, q3, show m = 0 by omega], by rw [hl]; omega⟩
  · injection hv with q1 q2 q3
    refine .inr ⟨g, c2, cur, by rw [q1, q3, hl], hbg, hg, by rw [hl]; omega, hcm, hcs, ?_⟩
    rw [hl, List.map_take, ← htake, List.take_take, Nat.mul_one, Nat.mul_one, Nat.min_eq_left (by omega)]
theorem CutAt.pop {Fv : FuncId} {caps : Array Value} {step : σ → List Int → σ} {more : σ → List Int → Bool} {Ok : List Int → Prop} (V : VisitOk Fv caps Inv step more Ok) {a : Option Addr} {n cap : Nat} {d : Int} (h : CutAt Inv bk X B F kv w F1 (.slice a n cap) (pre ++ [d]) s w1) (hbk : X bk) (hBw : Room X B w1) {m : Nat} (hm : m = pre.length) :
    CutAt Inv bk X B F kv w F1 (.slice a m cap) pre s (w1.setCell ⟨bk, 0, none⟩ (.slice a m cap)) := by
  have hn := h.key.own.len
  rw [List.length_append, List.length_singleton] at hn
  have ho := h.key.own.trunc (m := m) (by omega)
  rw [hm, List.take_left] at ho
  rw [← hm] at ho
  exact CutAt.push V h hbk hBw ho (World.grownBy.refl _ _) (fun k hk => .inl (by cases a <;> exact hk))
end
theorem visits_go {σ : Type} {step : σ → List Int → σ} {more : σ → List Int → Bool} {A B : List (List Int)} {s : σ} (h : (visits step more s A).2 = true) : visits step more s (A ++ B) = visits step more (visits step more s A).1 B := by rw [visits_app, if_pos h]
theorem visits_end {σ : Type} {step : σ → List Int → σ} {more : σ → List Int → Bool} {A B : List (List Int)} {s : σ} (h : (visits step more s A).2 = false) : visits step more s (A ++ B) = visits step more s A := by rw [visits_app, if_neg (by rw [h]; decide)]
theorem keysR_no {mk : MK} {D : Nat} {pre : List Int} (h : begins mk pre = false) : ∀ r, keysR mk D r pre = []
  | 0 => by rw [keysR_zero, h]; rfl
  | r + 1 => by rw [keysR_succ, h]; rfl
theorem begins_far0 {mk : MK} {pre : List Int} {d : Int} (h : farAt mk.s (pre ++ [d]) pre.length = true) : begins mk (pre ++ [d]) = false := by rw [begins_snoc, h]; simp
theorem begins_run0 {mk : MK} {pre : List Int} {d : Int} (h : mk.m < (runAt (pre ++ [d]) pre.length : Int)) : begins mk (pre ++ [d]) = false := by rw [begins_snoc, decide_eq_false (by omega : ¬ (runAt (pre ++ [d]) pre.length : Int) ≤ mk.m)]; simp
theorem begins_yes {mk : MK} {pre : List Int} {d : Int} (h0 : begins mk pre = true) (h1 : farAt mk.s (pre ++ [d]) pre.length = false) (h2 : (runAt (pre ++ [d]) pre.length : Int) ≤ mk.m) : begins mk (pre ++ [d]) = true := by rw [begins_snoc, h0, h1, decide_eq_true h2]; rfl
theorem farAt_snoc {s : Int} {pre : List Int} {d : Int} (h : 0 < pre.length) : farAt s (pre ++ [d]) pre.length = decide (s < ((d - pre.getD (pre.length - 1) 0).natAbs : Int)) := by
  unfold farAt
  have e1 : (pre ++ [d]).getD pre.length 0 = d := by simp
  have e2 : (pre ++ [d]).getD (pre.length - 1) 0 = pre.getD (pre.length - 1) 0 := by
    rw [List.getD_eq_getElem?_getD, List.getElem?_append_left (by omega), ← List.getD_eq_getElem?_getD]
  rw [e1, e2, decide_eq_true h, Bool.true_and]

theorem Small.i64 {l : List Int} (h : Small l) : ∀ x ∈ l, I64 x := fun x hx => by
  obtain ⟨i, hi, rfl⟩ := List.getElem_of_mem hx
  have := h i hi
  have e : l.getD i 0 = l[i] := by simp [hi]
  rw [e] at this
  unfold I64; omega
theorem Tryz.goesEachKey1 : Goes Tryz.prog 159 := goes_of Tryz.func159 (by kernel_rfl) (by kernel_rfl)

/-- nil against nil, of functions -/
theorem neq_nilFunc (w : World) : (binOp .neq 140 .nilFunc .nilFunc).run Tryz.prog w = .ok (.bool false) w := by kernel_rfl

set_option maxRecDepth 20000 in
set_option maxHeartbeats 4000000 in
theorem cut_succ {σ : Type} {Fv : FuncId} {caps : Array Value} {Inv : (Nat → Prop) → σ → World → Prop} {step : σ → List Int → σ} {more : σ → List Int → Bool} {Ok : List Int → Prop} (V : VisitOk Fv caps Inv step more Ok)
    (mk : MK) (ok : MkOk mk) {bk bm bv bf ba bc B : Nat} {X : Nat → Prop} (hbk : X bk) (hne : ∀ k, k = bm ∨ k = bv ∨ k = bf ∨ k = ba ∨ k = bc → X k ∧ k ≠ bk) (r : Nat)
    (IH : ∀ (pre : List Int), pre.length + r = mk.c.toNat → begins mk pre = true → Small pre → (∀ k ∈ keysR mk mk.d.toNat r pre, Ok k) → ∀ (F : Nat → Prop) (s : σ) (w : World) (kv : Value), Inv F s w → Boxes w mk bk bm bv bf ba bc (.func (.func Fv) #[] caps) → KeyAt w bk X B kv pre → Apart3 F X kv → Room X B w →
      Calls Tryz.prog 159 #[.bool false, .pointer (some ⟨bk, 0, none⟩), .pointer (some ⟨bm, 0, none⟩), .pointer (some ⟨bv, 0, none⟩), .pointer (some ⟨bf, 0, none⟩), .pointer (some ⟨ba, 0, none⟩), .pointer (some ⟨bc, 0, none⟩)] w
        (CutEnd Inv F bk X B kv pre w (visits step more s (keysR mk mk.d.toNat r pre))))
    (pre : List Int) (hl : pre.length + (r + 1) = mk.c.toNat) (hb : begins mk pre = true) (hs : Small pre) (hOk : ∀ k ∈ keysR mk mk.d.toNat (r + 1) pre, Ok k)
    (F : Nat → Prop) (s : σ) (w : World) (kv : Value) (hI : Inv F s w) (hB : Boxes w mk bk bm bv bf ba bc (.func (.func Fv) #[] caps)) (hK : KeyAt w bk X B kv pre) (hA : Apart3 F X kv) (hBw : Room X B w) :
    Calls Tryz.prog 159 #[.bool false, .pointer (some ⟨bk, 0, none⟩), .pointer (some ⟨bm, 0, none⟩), .pointer (some ⟨bv, 0, none⟩), .pointer (some ⟨bf, 0, none⟩), .pointer (some ⟨ba, 0, none⟩), .pointer (some ⟨bc, 0, none⟩)] w
      (CutEnd Inv F bk X B kv pre w (visits step more s (keysR mk mk.d.toNat (r + 1) pre))) := by
  have hGo := Tryz.goesEachKey1
  unfold Goes at hGo
  have hnf := neq_nilFunc
  have hc6 := ok.c6
  have hd8 := ok.d8
  have hpl : pre.length ≤ 5 := by omega
  have HPl := Lib.hid hpl
  have HS0 : Hid (visits step more s (keysR mk mk.d.toNat (r + 1) pre) = visits step more s (sweep mk mk.d.toNat r pre 0)) := by show _ = _; rw [keysR_succ, if_pos hb]
  have HStep := Lib.hid (fun (d : Nat) (h : d < mk.d.toNat) => sweep_step mk r pre h)
  have HEnd := Lib.hid (fun (d : Nat) (h : mk.d.toNat ≤ d) => sweep_end mk r pre h)
  have HNo := Lib.hid (fun (d : Nat) (h : begins mk (pre ++ [(d : Int)]) = false) => keysR_no (D := mk.d.toNat) h r)
  have HFar := Lib.hid (fun (d : Nat) => begins_far0 (mk := mk) (pre := pre) (d := (d : Int)))
  have HRun := Lib.hid (fun (d : Nat) => begins_run0 (mk := mk) (pre := pre) (d := (d : Int)))
  have HYes := Lib.hid (fun (d : Nat) => begins_yes (mk := mk) (pre := pre) (d := (d : Int)) hb)
  have HSn := Lib.hid (fun (d : Nat) (h : 0 < pre.length) => farAt_snoc (s := mk.s) (pre := pre) (d := (d : Int)) h)
  have HF0 := Lib.hid (fun (d : Nat) => farAt_zero mk.s (pre ++ [(d : Int)]))
  have HIH := Lib.hid (fun (d : Nat) (h : d < mk.d.toNat) (hb : begins mk (pre ++ [(d : Int)]) = true) => IH (pre ++ [(d : Int)]) (by rw [List.length_append, List.length_singleton]; omega) hb (hs.snoc (by omega)) (fun k hk => hOk k (by
    rw [keysR_succ, if_pos (by assumption)]
    unfold sweep
    rw [List.drop_zero]
    exact List.mem_flatMap.2 ⟨d, List.mem_range.2 h, hk⟩)))
  have HBx := Lib.hid (fun (F1 : Nat → Prop) (kv1 : Value) (pre1 : List Int) (s1 : σ) (w1 : World) (h : CutAt Inv bk X B F kv w F1 kv1 pre1 s1 w1) => h.boxes hB hA hK.row hne hBw)
  have HC0 := Lib.hid (CutAt.start (bk := bk) (X := X) (B := B) hI hK hA)
  have HSm := Lib.hid hs
  have HB0 := Lib.hid hB
  have kc := hK.cell
  obtain ⟨ka, kn, kk, rfl, hkn, -⟩ := OwnP.shape hK.own
  obtain ⟨n, hn⟩ : ∃ n, n = pre.length := ⟨_, rfl⟩
  rw [← hn] at hkn hl hpl HSn HFar HRun HYes
  have hkn' : kn = n := hkn
  subst hkn'
  have Hn := Lib.hid hn
  clear hn hkn hI hK hA hB hOk hs hb IH hne
  have hb9 : ((kn : Int) == mk.c) = false := by rw [beq_eq_false_iff_ne]; omega
  generalize visits step more s (keysR mk mk.d.toNat (r + 1) pre) = res at *
  generalize hsw : sweep mk mk.d.toNat r pre = sw at *
  clear hsw
  generalize hkR : keysR mk mk.d.toNat r = kR at *
  clear hkR
  obtain ⟨⟨m0, m1, m2, m3, m4⟩, b1, b2, b3, b4⟩ := HB0.out
  go_enter Tryz.func159, Tryz.ntmps159
  go_wp2_with fail
  clear m0 m1 m2 m3 m4 b1 b2 b3 b4 kc
  go_loopw [11, 12] (fun s11 _ wr => ∃ d : Nat, d ≤ mk.d.toNat ∧ s11 = .int .i64 d ∧ ∃ (F1 : Nat → Prop) (kv1 : Value) (s1 : σ), CutAt Inv bk X B F (.slice ka kn kk) w F1 kv1 pre s1 wr ∧ res = visits step more s1 (sw d)) (fun s11 _ _ => mk.d.toNat - (intOf s11).toNat)
  case atStart => exact ⟨0, Nat.zero_le _, rfl, F, _, s, HC0.out, HS0.out⟩
  case round =>
    obtain ⟨d, hd, rfl, F1, kv1, s1, hC, hres⟩ := hrel
    have HC := Lib.hid hC
    have Hres := Lib.hid hres
    clear hres
    have hsz := hC.frame.size
    obtain ⟨ka1, kn1, kk1, rfl, hkn1, -⟩ := OwnP.shape hC.key.own
    rw [← Hn.out] at hkn1
    subst hkn1
    have HEl := Lib.hid (fun (k : Nat) (hk : k < kn1) => hC.key.own.elem 0 k hk)
    have kc := hC.key.cell
    obtain ⟨⟨m0, m1, m2, m3, m4⟩, b1, b2, b3, b4⟩ := HBx.out F1 _ pre s1 wr hC
    clear hC
    by_cases hlt : d < mk.d.toNat
    · have HStd := Lib.hid (HStep.out d hlt)
      have hdd : (d : Int) < mk.d := by omega
      cases hq : farAt mk.s (pre ++ [(d : Int)]) kn1 with
      | true =>
        have HR1 : Hid (res = visits step more s1 (sw (d + 1))) := by show _ = _; rw [Hres.out, HStd.out, HNo.out d (HFar.out d hq)]; rfl
        have hp : 0 < kn1 := by
          rcases Nat.eq_zero_or_pos kn1 with h | h
          · rw [h, HF0.out d] at hq; cases hq
          · exact h
        rw [HSn.out d hp] at hq
        obtain ⟨g, rfl, -, -, hcp, -⟩ := HEl.out (kn1 - 1) (by omega)
        have hpv := HSm.out (kn1 - 1) (by have := Hn.out; omega)
        generalize pre.getD (kn1 - 1) 0 = p at *
        have hwn : IntKind.i64.wrap ((kn1 : Int) - 1) = ((kn1 - 1 : Nat) : Int) := by rw [IntWalk.i64_in _ (by omega)]; omega
        have hwd : IntKind.i64.wrap ((d : Int) - p) = (d : Int) - p := IntWalk.i64_in _ (by omega)
        have HAb := Lib.hid (fun (w' : World) => absolute_c w' ((d : Int) - p) (by omega) (by omega))
        have hg0 : decide (0 < kn1) = true := decide_eq_true hp
        have hg1 : decide ((0 : Int) < (kn1 : Int)) = true := decide_eq_true (by omega)
        go_wp2_with fail
        go_quiet ((go_at_call 161; exact RetQ.quiet (HAb.out _)))
        go_wp2_with fail
        go_roundw
        case rel => exact ⟨d + 1, by omega, by go_num, F1, _, s1, HC.out.drew V ⟨_, rfl⟩, HR1.out⟩
        case measure => simp [intOf]; omega
      | false =>
        have HQ := Lib.hid hq
        by_cases hp : 0 < kn1
        focus
          rw [HSn.out d hp] at hq
          obtain ⟨g, rfl, -, -, hcp, -⟩ := HEl.out (kn1 - 1) (by omega)
          have hpv := HSm.out (kn1 - 1) (by have := Hn.out; omega)
          generalize pre.getD (kn1 - 1) 0 = p at *
          have hwn : IntKind.i64.wrap ((kn1 : Int) - 1) = ((kn1 - 1 : Nat) : Int) := by rw [IntWalk.i64_in _ (by omega)]; omega
          have hwd : IntKind.i64.wrap ((d : Int) - p) = (d : Int) - p := IntWalk.i64_in _ (by omega)
          have HAb := Lib.hid (fun (w' : World) => absolute_c w' ((d : Int) - p) (by omega) (by omega))
          have hg0 : decide (0 < kn1) = true := decide_eq_true hp
          have hg1 : decide ((0 : Int) < (kn1 : Int)) = true := decide_eq_true (by omega)
          go_wp2_with fail
          go_quiet ((go_at_call 161; exact RetQ.quiet (HAb.out _)))
          generalize hwq : World.drewN wr _ = wq
          have hC1 := HC.out.drew V (w2 := wq) ⟨_, hwq.symm⟩
          clear hwq kc m0 m1 m2 m3 m4 b1 b2 b3 b4 hwn hwd HAb hg0 hg1 hcp hpv hq hp
        rotate_left
        focus
          have hg0 : decide (0 < kn1) = false := decide_eq_false hp
          have hg1 : decide ((0 : Int) < (kn1 : Int)) = false := decide_eq_false (by omega)
          go_wp2_with fail
          go_quiet (fail)
          generalize hwq : World.drewN wr _ = wq
          have hC1 := HC.out.drew V (w2 := wq) ⟨_, hwq.symm⟩
          clear hwq kc m0 m1 m2 m3 m4 b1 b2 b3 b4 hg0 hg1 hq hp
        all_goals
          obtain ⟨⟨m0, m1, m2, m3, m4⟩, b1, b2, b3, b4⟩ := HBx.out F1 _ pre s1 wq hC1
          have kc := hC1.key.cell
          have hn1 : kn1 + 1 ≤ 1099511627776 := by omega
          have HBq : Hid (Room X B wq) := hBw.mono hC1.frame.size
          have HO := Lib.hid hC1.key.own
          have HC1 := Lib.hid hC1
          have HPn : Hid (pre.length + 1 ≤ 1099511627776) := by show _ ≤ _; rw [← Hn.out]; exact hn1
          clear hC1
          go_wp2_with (at_builtin; (refine wpList_append1X (f := Value.int .i64) (e := 2) (B := B) (xs := pre) rfl _ _ 41 rfl 0 8 Tryz.underlying41 Tryz.infoI64 rfl (fun _ => rfl) rfl HO.out (d : Int) rfl HPn.out (by omega) HBq.out.b ?_); intro v8 w8 hown8 hg8 hb8 hat8; obtain ⟨a8, n8, k8, rfl, hn8, -⟩ := OwnP.shape hown8; rw [List.length_append, List.length_singleton, ← Hn.out] at hn8; subst hn8; have HC2 := Lib.hid (HC1.out.push V hbk HBq.out hown8 hg8 hat8); obtain ⟨kc8, kf8⟩ := HC1.out.slot hbk HBq.out hg8; clear hg8 hb8 hat8 hown8 kc m0 m1 m2 m3 m4 b1 b2 b3 b4)
          generalize hw2 : World.setCell _ _ _ = w2 at *
          clear hw2 kc8 kf8
          have hkn : kn1 + 1 ≤ k8 := by
            obtain ⟨a', k', he, hk, -, -⟩ := HC2.out.shape Hn.out
            injection he with _ _ he; omega
          obtain ⟨⟨m0, m1, m2, m3, m4⟩, b1, b2, b3, b4⟩ := HBx.out F1 _ _ s1 w2 HC2.out
          have kc := HC2.out.key.cell
          have kf := HC2.out.key.free
          have HSR : Hid (∀ w', Drew w2 w' → Calls Tryz.prog 162 #[.slice a8 (kn1 + 1) k8] w' (RetQ w' (.int .i64 (runAt (pre ++ [(d : Int)]) kn1 : Nat)))) := fun w' e => by
            have hm : ∀ x ∈ pre ++ [(d : Int)], I64 x := Small.i64 (HSm.out.snoc (by omega))
            have := sameRun_c w' _ _ _ (stable_ints.ext (OwnP.ints HC2.out.key.own hm (Nat.le_refl _)) (Ext.ofDrew e)) (by rw [List.length_append, List.length_singleton]; omega)
            rw [List.length_append, List.length_singleton, Nat.add_sub_cancel, ← Hn.out] at this
            exact this
          have HRd := Lib.hid (HRun.out d)
          have HYd := Lib.hid (HYes.out d HQ.out)
          have HCel : Hid (∀ w', Drew w2 w' → w'.cell? ⟨bm, 3, none⟩ = some (.int .i64 mk.m) ∧ w'.cell? ⟨bc, 0, none⟩ = some (.func (.func 159) #[] #[.pointer (some ⟨bk, 0, none⟩), .pointer (some ⟨bm, 0, none⟩), .pointer (some ⟨bv, 0, none⟩), .pointer (some ⟨bf, 0, none⟩), .pointer (some ⟨ba, 0, none⟩), .pointer (some ⟨bc, 0, none⟩)])) := fun w' e => ⟨(e.cell _).trans m3, (e.cell _).trans b4⟩
          generalize runAt (pre ++ [(d : Int)]) kn1 = rn at *
          by_cases hrm : mk.m < (rn : Int)
          · have HR1 : Hid (res = visits step more s1 (sw (d + 1))) := by show _ = _; rw [Hres.out, HStd.out, HNo.out d (HRd.out hrm)]; rfl
            have hbq : decide (mk.m < (rn : Int)) = true := decide_eq_true hrm
            clear hrm HRd HYd
            go_wp2_with fail
            go_quiet ((go_at_call 162; exact RetQ.quiet (HSR.out _ ⟨_, rfl⟩)))
            go_wp2_with fail
            go_roundw
            case rel => exact ⟨d + 1, by omega, by go_num, F1, _, s1, (HC2.out.drew V ⟨_, rfl⟩).pop V hbk (hBw.mono HC2.out.frame.size) Hn.out, HR1.out⟩
            case measure => simp [intOf]; omega
          · have hbg := HYd.out (by omega)
            have hbq : decide (mk.m < (rn : Int)) = false := decide_eq_false hrm
            have HApp := Lib.hid (visits_go (step := step) (more := more) (A := kR (pre ++ [(d : Int)])) (B := sw (d + 1)) (s := s1))
            have HAst := Lib.hid (visits_end (step := step) (more := more) (A := kR (pre ++ [(d : Int)])) (B := sw (d + 1)) (s := s1))
            have HIw := Lib.hid (fun (w' : World) (e : Drew w2 w') => HIH.out d hlt hbg F1 s1 w' _ (HC2.out.drew V e).inv (HBx.out F1 _ _ s1 w' (HC2.out.drew V e)) (HC2.out.drew V e).key HC2.out.apart (hBw.mono (by rw [e.size]; exact HC2.out.frame.size)))
            generalize hx : visits step more s1 (kR (pre ++ [(d : Int)])) = x at *
            obtain ⟨s2, q⟩ := x
            have HW : Hid (∀ w', Drew w2 w' → Calls Tryz.prog 159 #[.bool false, .pointer (some ⟨bk, 0, none⟩), .pointer (some ⟨bm, 0, none⟩), .pointer (some ⟨bv, 0, none⟩), .pointer (some ⟨bf, 0, none⟩), .pointer (some ⟨ba, 0, none⟩), .pointer (some ⟨bc, 0, none⟩)] w' (fun e w'' => e = .returned (.bool q) ∧ ∃ F3 a3 k3, Hid (CutAt Inv bk X B F (.slice ka kn1 kk) w F3 (.slice a3 (kn1 + 1) k3) (pre ++ [(d : Int)]) s2 w'') ∧ kn1 + 1 ≤ k3 ∧ w''.cell? ⟨bk, 0, none⟩ = some (.slice a3 (kn1 + 1) k3) ∧ w''.frozen? ⟨bk, 0, none⟩ = false ∧ w''.cell? ⟨bm, 3, none⟩ = some (.int .i64 mk.m) ∧ w''.cell? ⟨bc, 0, none⟩ = some (.func (.func 159) #[] #[.pointer (some ⟨bk, 0, none⟩), .pointer (some ⟨bm, 0, none⟩), .pointer (some ⟨bv, 0, none⟩), .pointer (some ⟨bf, 0, none⟩), .pointer (some ⟨ba, 0, none⟩), .pointer (some ⟨bc, 0, none⟩)]))) := fun w' e => (HIw.out w' e).mono fun e' w'' h => by
              obtain ⟨he, F3, kv3, hC3⟩ := h.at
              obtain ⟨a3, k3, rfl, h1, h2, h3⟩ := hC3.shape Hn.out
              have hb3 := HBx.out _ _ _ _ _ ((HC2.out.drew V e).trans hC3)
              exact ⟨he, F3, a3, k3, (HC2.out.drew V e).trans hC3, h1, h2, h3, hb3.m.2.2.2.1, hb3.c⟩
            have HR1 : Hid (q = true → res = visits step more s2 (sw (d + 1))) := fun h => by rw [Hres.out, HStd.out, HApp.out h]
            have HR2 : Hid (q = false → res = (s2, false)) := fun h => by rw [Hres.out, HStd.out, HAst.out h, h]
            clear hx HApp HAst HIw hbg hrm HRd HYd
            cases q with
            | true =>
              have HR := Lib.hid (HR1.out rfl)
              clear HR1 HR2
              go_wp2_with fail
              refine wp_region_noPanic ?_
              refine wp_region_held_drew (S := (fun w' => w'.cell? ⟨bm, 3, none⟩ = some (.int .i64 mk.m) ∧ w'.cell? ⟨bc, 0, none⟩ = some (.func (.func 159) #[] #[.pointer (some ⟨bk, 0, none⟩), .pointer (some ⟨bm, 0, none⟩), .pointer (some ⟨bv, 0, none⟩), .pointer (some ⟨bf, 0, none⟩), .pointer (some ⟨ba, 0, none⟩), .pointer (some ⟨bc, 0, none⟩)]))) (by kernel_rfl) (HCel.out _ ⟨1, rfl⟩) (fun hHeld => ?_)
              (refine take_at 2 73 (v := ?_) rfl rfl (by kernel_rfl) (by kernel_rfl) (by kernel_rfl) (fun _ _ _ h => h) (by rfl) ?_ (by assumption) ?_; rotate_left; focus (intro w999 hSw; (try dsimp only at hSw); go_simp <;> with_reducible rfl); (try simp only [Act.put, List.setIfInBounds_toArray, List.set_cons_zero, List.set_cons_succ]))
              (refine take_at 3 74 (v := ?_) rfl rfl (by kernel_rfl) (by kernel_rfl) (by kernel_rfl) (fun _ _ _ h => h) (by rfl) ?_ (by assumption) ?_; rotate_left; focus (intro w999 hSw; (try dsimp only at hSw); go_simp <;> with_reducible rfl); (try simp only [Act.put, List.setIfInBounds_toArray, List.set_cons_zero, List.set_cons_succ]))
              (refine wpAnyH_ready (rs := [0]) (by kernel_rfl) (by simp) ?_; refine AllReadyH.cons rfl (fun K hK => ?_) AllReadyH.nil; go_simp)
              (refine hK.out _ _ ?_ (fun hHeld => ?_))
              · exact HCel.out _ ⟨1, rfl⟩
              (clear hK K; try simp only [Act.put, List.setIfInBounds_toArray, List.set_cons_zero, List.set_cons_succ])
              (refine wpAnyH_ready (rs := [1]) (by kernel_rfl) (by simp) ?_; refine AllReadyH.cons rfl (fun K hK => ?_) AllReadyH.nil; go_simp)
              refine (HSR.out _ ⟨1, rfl⟩).mono ?_
              rintro e w6 ⟨rfl, hd6⟩
              have hd66 : Drew w2 w6 := Drew.trans ⟨1, rfl⟩ hd6
              (refine hK.out _ _ ?_ (fun hHeld => ?_))
              · exact HCel.out _ hd66
              (clear hK K; try simp only [Act.put, List.setIfInBounds_toArray, List.set_cons_zero, List.set_cons_succ])
              (refine take_at 4 75 (v := ?_) rfl rfl (by kernel_rfl) (by kernel_rfl) (by kernel_rfl) (fun _ _ _ h => h) (by rfl) ?_ (by assumption) ?_; rotate_left; focus (intro w999 hSw; (try dsimp only at hSw); go_simp <;> with_reducible rfl); (try simp only [Act.put, List.setIfInBounds_toArray, List.set_cons_zero, List.set_cons_succ]))
              (refine take_at 5 76 (v := ?_) rfl rfl (by kernel_rfl) (by kernel_rfl) (by kernel_rfl) (fun _ _ _ h => h) (by rfl) ?_ (by assumption) ?_; rotate_left; focus (intro w999 hSw; (try dsimp only at hSw); go_simp <;> with_reducible rfl); (try simp only [Act.put, List.setIfInBounds_toArray, List.set_cons_zero, List.set_cons_succ]))
              (refine take_at 6 77 (v := ?_) rfl rfl (by kernel_rfl) (by kernel_rfl) (by kernel_rfl) (fun _ _ _ h => h) (by rfl) ?_ (by assumption) ?_; rotate_left; focus (intro w999 hSw; (try dsimp only at hSw); go_simp <;> with_reducible rfl); (try simp only [Act.put, List.setIfInBounds_toArray, List.set_cons_zero, List.set_cons_succ]))
              (refine take_at 7 78 (v := ?_) rfl rfl (by kernel_rfl) (by kernel_rfl) (by kernel_rfl) (fun _ _ _ h => h) (by rfl) ?_ (by assumption) ?_; rotate_left; focus (intro w999 hSw; (try dsimp only at hSw); go_simp <;> with_reducible rfl); (try simp only [Act.put, List.setIfInBounds_toArray, List.set_cons_zero, List.set_cons_succ]))
              (refine take_at 8 79 (v := ?_) rfl rfl (by kernel_rfl) (by kernel_rfl) (by kernel_rfl) (fun _ _ _ h => h) (by rfl) ?_ (by assumption) ?_; rotate_left; focus (intro w999 hSw; (try dsimp only at hSw); go_simp <;> with_reducible rfl); (try simp only [Act.put, List.setIfInBounds_toArray, List.set_cons_zero, List.set_cons_succ]))
              (refine skip_at 9 80 rfl rfl (by kernel_rfl) (by kernel_rfl) (by kernel_rfl) (fun _ _ _ h => h) (by rfl) (by assumption) ?_; (try simp only [Act.put, List.setIfInBounds_toArray, List.set_cons_zero, List.set_cons_succ]))
              (refine skip_at 10 81 rfl rfl (by kernel_rfl) (by kernel_rfl) (by kernel_rfl) (fun _ _ _ h => h) (by rfl) (by assumption) ?_; (try simp only [Act.put, List.setIfInBounds_toArray, List.set_cons_zero, List.set_cons_succ]))
              (refine skip_at 11 82 rfl rfl (by kernel_rfl) (by kernel_rfl) (by kernel_rfl) (fun _ _ _ h => h) (by rfl) (by assumption) ?_; (try simp only [Act.put, List.setIfInBounds_toArray, List.set_cons_zero, List.set_cons_succ]))
              (refine take_at 12 83 (v := ?_) rfl rfl (by kernel_rfl) (by kernel_rfl) (by kernel_rfl) (fun _ _ _ h => h) (by rfl) ?_ (by assumption) ?_; rotate_left; focus (intro w999 hSw; (try dsimp only at hSw); go_simp <;> with_reducible rfl); (try simp only [Act.put, List.setIfInBounds_toArray, List.set_cons_zero, List.set_cons_succ]))
              (refine wpAnyH_ready (rs := [13]) (by kernel_rfl) (by simp) ?_; refine AllReadyH.cons rfl (fun K hK => ?_) AllReadyH.nil; go_simp)
              refine (HW.out _ hd66).mono ?_
              rintro e w7 ⟨rfl, F3, a3, k3, HC3, hk3, y1, y2, y3, y4⟩
              (refine hK.out _ _ ?_ (fun hHeld => ?_))
              · exact ⟨y3, y4⟩
              (clear hK K; try simp only [Act.put, List.setIfInBounds_toArray, List.set_cons_zero, List.set_cons_succ])
              (refine take_at 14 85 (v := ?_) rfl rfl (by kernel_rfl) (by kernel_rfl) (by kernel_rfl) (fun _ _ _ h => h) (by rfl) ?_ (by assumption) ?_; rotate_left; focus (intro w999 hSw; (try dsimp only at hSw); go_simp <;> with_reducible rfl); (try simp only [Act.put, List.setIfInBounds_toArray, List.set_cons_zero, List.set_cons_succ]))
              (refine take_at 15 12 (v := ?_) rfl rfl (by kernel_rfl) (by kernel_rfl) (by kernel_rfl) (fun _ _ _ h => h) (by rfl) ?_ (by assumption) ?_; rotate_left; focus (intro w999 hSw; (try dsimp only at hSw); go_simp <;> with_reducible rfl); (try simp only [Act.put, List.setIfInBounds_toArray, List.set_cons_zero, List.set_cons_succ]))
              refine wpAnyH_done (by kernel_rfl) ?_ _
              refine NoPanic.normal ?_
              clear kc kf m0 m1 m2 m3 m4 b1 b2 b3 b4
              go_wp2_with fail
              go_roundw
              case rel => exact ⟨d + 1, by omega, by go_num, F3, _, s2, HC3.out.pop V hbk (hBw.mono HC3.out.frame.size) Hn.out, HR.out⟩
              case measure => simp [intOf]; omega
            | false =>
              have HR := Lib.hid (HR2.out rfl)
              clear HR1 HR2
              go_wp2_with fail
              refine wp_region_noPanic ?_
              refine wp_region_held_drew (S := (fun w' => w'.cell? ⟨bm, 3, none⟩ = some (.int .i64 mk.m) ∧ w'.cell? ⟨bc, 0, none⟩ = some (.func (.func 159) #[] #[.pointer (some ⟨bk, 0, none⟩), .pointer (some ⟨bm, 0, none⟩), .pointer (some ⟨bv, 0, none⟩), .pointer (some ⟨bf, 0, none⟩), .pointer (some ⟨ba, 0, none⟩), .pointer (some ⟨bc, 0, none⟩)]))) (by kernel_rfl) (HCel.out _ ⟨1, rfl⟩) (fun hHeld => ?_)
              (refine take_at 2 73 (v := ?_) rfl rfl (by kernel_rfl) (by kernel_rfl) (by kernel_rfl) (fun _ _ _ h => h) (by rfl) ?_ (by assumption) ?_; rotate_left; focus (intro w999 hSw; (try dsimp only at hSw); go_simp <;> with_reducible rfl); (try simp only [Act.put, List.setIfInBounds_toArray, List.set_cons_zero, List.set_cons_succ]))
              (refine take_at 3 74 (v := ?_) rfl rfl (by kernel_rfl) (by kernel_rfl) (by kernel_rfl) (fun _ _ _ h => h) (by rfl) ?_ (by assumption) ?_; rotate_left; focus (intro w999 hSw; (try dsimp only at hSw); go_simp <;> with_reducible rfl); (try simp only [Act.put, List.setIfInBounds_toArray, List.set_cons_zero, List.set_cons_succ]))
              (refine wpAnyH_ready (rs := [0]) (by kernel_rfl) (by simp) ?_; refine AllReadyH.cons rfl (fun K hK => ?_) AllReadyH.nil; go_simp)
              (refine hK.out _ _ ?_ (fun hHeld => ?_))
              · exact HCel.out _ ⟨1, rfl⟩
              (clear hK K; try simp only [Act.put, List.setIfInBounds_toArray, List.set_cons_zero, List.set_cons_succ])
              (refine wpAnyH_ready (rs := [1]) (by kernel_rfl) (by simp) ?_; refine AllReadyH.cons rfl (fun K hK => ?_) AllReadyH.nil; go_simp)
              refine (HSR.out _ ⟨1, rfl⟩).mono ?_
              rintro e w6 ⟨rfl, hd6⟩
              have hd66 : Drew w2 w6 := Drew.trans ⟨1, rfl⟩ hd6
              (refine hK.out _ _ ?_ (fun hHeld => ?_))
              · exact HCel.out _ hd66
              (clear hK K; try simp only [Act.put, List.setIfInBounds_toArray, List.set_cons_zero, List.set_cons_succ])
              (refine take_at 4 75 (v := ?_) rfl rfl (by kernel_rfl) (by kernel_rfl) (by kernel_rfl) (fun _ _ _ h => h) (by rfl) ?_ (by assumption) ?_; rotate_left; focus (intro w999 hSw; (try dsimp only at hSw); go_simp <;> with_reducible rfl); (try simp only [Act.put, List.setIfInBounds_toArray, List.set_cons_zero, List.set_cons_succ]))
              (refine take_at 5 76 (v := ?_) rfl rfl (by kernel_rfl) (by kernel_rfl) (by kernel_rfl) (fun _ _ _ h => h) (by rfl) ?_ (by assumption) ?_; rotate_left; focus (intro w999 hSw; (try dsimp only at hSw); go_simp <;> with_reducible rfl); (try simp only [Act.put, List.setIfInBounds_toArray, List.set_cons_zero, List.set_cons_succ]))
              (refine take_at 6 77 (v := ?_) rfl rfl (by kernel_rfl) (by kernel_rfl) (by kernel_rfl) (fun _ _ _ h => h) (by rfl) ?_ (by assumption) ?_; rotate_left; focus (intro w999 hSw; (try dsimp only at hSw); go_simp <;> with_reducible rfl); (try simp only [Act.put, List.setIfInBounds_toArray, List.set_cons_zero, List.set_cons_succ]))
              (refine take_at 7 78 (v := ?_) rfl rfl (by kernel_rfl) (by kernel_rfl) (by kernel_rfl) (fun _ _ _ h => h) (by rfl) ?_ (by assumption) ?_; rotate_left; focus (intro w999 hSw; (try dsimp only at hSw); go_simp <;> with_reducible rfl); (try simp only [Act.put, List.setIfInBounds_toArray, List.set_cons_zero, List.set_cons_succ]))
              (refine take_at 8 79 (v := ?_) rfl rfl (by kernel_rfl) (by kernel_rfl) (by kernel_rfl) (fun _ _ _ h => h) (by rfl) ?_ (by assumption) ?_; rotate_left; focus (intro w999 hSw; (try dsimp only at hSw); go_simp <;> with_reducible rfl); (try simp only [Act.put, List.setIfInBounds_toArray, List.set_cons_zero, List.set_cons_succ]))
              (refine skip_at 9 80 rfl rfl (by kernel_rfl) (by kernel_rfl) (by kernel_rfl) (fun _ _ _ h => h) (by rfl) (by assumption) ?_; (try simp only [Act.put, List.setIfInBounds_toArray, List.set_cons_zero, List.set_cons_succ]))
              (refine skip_at 10 81 rfl rfl (by kernel_rfl) (by kernel_rfl) (by kernel_rfl) (fun _ _ _ h => h) (by rfl) (by assumption) ?_; (try simp only [Act.put, List.setIfInBounds_toArray, List.set_cons_zero, List.set_cons_succ]))
              (refine skip_at 11 82 rfl rfl (by kernel_rfl) (by kernel_rfl) (by kernel_rfl) (fun _ _ _ h => h) (by rfl) (by assumption) ?_; (try simp only [Act.put, List.setIfInBounds_toArray, List.set_cons_zero, List.set_cons_succ]))
              (refine take_at 12 83 (v := ?_) rfl rfl (by kernel_rfl) (by kernel_rfl) (by kernel_rfl) (fun _ _ _ h => h) (by rfl) ?_ (by assumption) ?_; rotate_left; focus (intro w999 hSw; (try dsimp only at hSw); go_simp <;> with_reducible rfl); (try simp only [Act.put, List.setIfInBounds_toArray, List.set_cons_zero, List.set_cons_succ]))
              (refine wpAnyH_ready (rs := [13]) (by kernel_rfl) (by simp) ?_; refine AllReadyH.cons rfl (fun K hK => ?_) AllReadyH.nil; go_simp)
              refine (HW.out _ hd66).mono ?_
              rintro e w7 ⟨rfl, F3, a3, k3, HC3, hk3, y1, y2, y3, y4⟩
              (refine hK.out _ _ ?_ (fun hHeld => ?_))
              · exact ⟨y3, y4⟩
              (clear hK K; try simp only [Act.put, List.setIfInBounds_toArray, List.set_cons_zero, List.set_cons_succ])
              (refine take_at 14 85 (v := ?_) rfl rfl (by kernel_rfl) (by kernel_rfl) (by kernel_rfl) (fun _ _ _ h => h) (by rfl) ?_ (by assumption) ?_; rotate_left; focus (intro w999 hSw; (try dsimp only at hSw); go_simp <;> with_reducible rfl); (try simp only [Act.put, List.setIfInBounds_toArray, List.set_cons_zero, List.set_cons_succ]))
              (refine take_at 15 12 (v := ?_) rfl rfl (by kernel_rfl) (by kernel_rfl) (by kernel_rfl) (fun _ _ _ h => h) (by rfl) ?_ (by assumption) ?_; rotate_left; focus (intro w999 hSw; (try dsimp only at hSw); go_simp <;> with_reducible rfl); (try simp only [Act.put, List.setIfInBounds_toArray, List.set_cons_zero, List.set_cons_succ]))
              refine wpAnyH_done (by kernel_rfl) ?_ _
              refine NoPanic.normal ?_
              clear kc kf m0 m1 m2 m3 m4 b1 b2 b3 b4
              go_wp2_with fail
              go_ret
              have e := HR.out
              subst e
              exact CutAt.toEnd rfl (HC3.out.pop V hbk (hBw.mono HC3.out.frame.size) Hn.out)
    · have HR1 : Hid (res = (s1, true)) := by show _ = _; rw [Hres.out, HEnd.out d (by omega)]; rfl
      have hdd : ¬ (d : Int) < mk.d := by omega
      go_wp2_with fail
      go_ret
      have e := HR1.out
      subst e
      exact CutAt.toEnd rfl HC.out
end Go.Proofs.YthgmojggpjnckaaGreat
