/- Proved: the draw of a building: spec.l09Valid. -/
import Derived.Test.YtegmognpofcfiaaGreatChecked
import Derived.Deep.RegionHeld3
import Derived.Deep.Cut
import Derived.Test.YtegmognpofcfiaaGreatUDrawKit
import Derived.Test.YtegmognpofcfiaaGreatUDrawRows
import Derived.Test.YtegmognpofcfiaaGreatUPkA
namespace Go.Proofs.YtegmognpofcfiaaGreat
open Go.ChangeShapes Go.WideShapes Go.ChangeAt Go.RowKit
set_option linter.unusedVariables false

theorem Tryz.infoBool : (Tryz.prog.info? 4).map (fun i => (i.zero, i.size, i.bytes)) = some (some (.bool false), 1, 1) := by kernel_rfl

/-- three rows of the call's own, in blocks of their own -/
structure Tri (B : Nat) (w : World) (v4 v5 v6 : Value) (ps : List Int) (ds : List Bool) (gs : List Int) : Prop where
  o4 : OwnP (Value.int .i64) 2 B w v4 ps
  o5 : OwnP Value.bool 4 B w v5 ds
  o6 : OwnP (Value.int .i64) 2 B w v6 gs
  a45 : ∀ k, v4.ownBlock = some k → v5.ownBlock ≠ some k
  a46 : ∀ k, v4.ownBlock = some k → v6.ownBlock ≠ some k
  a56 : ∀ k, v5.ownBlock = some k → v6.ownBlock ≠ some k
section
variable {B : Nat} {w w' : World} {v4 v5 v6 v' : Value} {ps : List Int} {ds : List Bool} {gs : List Int}
theorem noneOr {v : Value} {row : Option Nat} (h : ∀ k, v.ownBlock = some k → row ≠ some k) : v.ownBlock = none ∨ v.ownBlock ≠ row := by
  cases e : v.ownBlock with
  | none => exact .inl rfl
  | some k => exact .inr (fun q => h k e q.symm)
theorem Tri.dr {g : Nat} (h : Tri B w v4 v5 v6 ps ds gs) (hd : Dr g w w') (hg : g < B) : Tri B w' v4 v5 v6 ps ds gs := ⟨h.o4.dr hd hg, h.o5.dr hd hg, h.o6.dr hd hg, h.a45, h.a46, h.a56⟩
theorem Tri.push4 (h : Tri B w v4 v5 v6 ps ds gs) {y : Int} (ho : OwnP (Value.int .i64) 2 B w' v' (ps ++ [y])) (hg : w.grownBy w' v4.ownBlock) (hv : ∀ k, v'.ownBlock = some k → v4.ownBlock = some k ∨ w.heap.size ≤ k) : Tri B w' v' v5 v6 (ps ++ [y]) ds gs :=
  ⟨ho, h.o5.kept hg (noneOr (fun k hk e => h.a45 k e hk)), h.o6.kept hg (noneOr (fun k hk e => h.a46 k e hk)), fun k hk e => (hv k hk).elim (fun q => h.a45 k q e) (fun q => by have := (h.o5.block k e).2; omega), fun k hk e => (hv k hk).elim (fun q => h.a46 k q e) (fun q => by have := (h.o6.block k e).2; omega), h.a56⟩
theorem Tri.push5 (h : Tri B w v4 v5 v6 ps ds gs) {y : Bool} (ho : OwnP Value.bool 4 B w' v' (ds ++ [y])) (hg : w.grownBy w' v5.ownBlock) (hv : ∀ k, v'.ownBlock = some k → v5.ownBlock = some k ∨ w.heap.size ≤ k) : Tri B w' v4 v' v6 ps (ds ++ [y]) gs :=
  ⟨h.o4.kept hg (noneOr (fun k hk e => h.a45 k hk e)), ho, h.o6.kept hg (noneOr (fun k hk e => h.a56 k e hk)), fun k hk e => (hv k e).elim (fun q => h.a45 k hk q) (fun q => by have := (h.o4.block k hk).2; omega), h.a46, fun k hk e => (hv k hk).elim (fun q => h.a56 k q e) (fun q => by have := (h.o6.block k e).2; omega)⟩
theorem Tri.push6 (h : Tri B w v4 v5 v6 ps ds gs) {y : Int} (ho : OwnP (Value.int .i64) 2 B w' v' (gs ++ [y])) (hg : w.grownBy w' v6.ownBlock) (hv : ∀ k, v'.ownBlock = some k → v6.ownBlock = some k ∨ w.heap.size ≤ k) : Tri B w' v4 v5 v' ps ds (gs ++ [y]) :=
  ⟨h.o4.kept hg (noneOr (fun k hk e => h.a46 k hk e)), h.o5.kept hg (noneOr (fun k hk e => h.a56 k hk e)), ho, h.a45, fun k hk e => (hv k e).elim (fun q => h.a46 k hk q) (fun q => by have := (h.o4.block k hk).2; omega), fun k hk e => (hv k e).elim (fun q => h.a56 k hk q) (fun q => by have := (h.o5.block k hk).2; omega)⟩
end
/-- the first so many nodes of a building -/
structure BldTo (ps : List Int) (ds : List Bool) : Prop where
  len : ds.length = ps.length
  root : ps.getD 0 0 = -1
  par : ∀ i, 1 ≤ i → i < ps.length → 0 ≤ ps.getD i 0 ∧ ps.getD i 0 < i
theorem getD_app {α : Type} {l : List α} {x d : α} {i : Nat} : (l ++ [x]).getD i d = if i < l.length then l.getD i d else if i = l.length then x else d := by
  rw [List.getD_eq_getElem?_getD, List.getD_eq_getElem?_getD]
  by_cases h : i < l.length
  · rw [if_pos h, List.getElem?_append_left h]
  · rw [if_neg h, List.getElem?_append_right (by omega)]
    by_cases e : i = l.length
    · rw [if_pos e, e]; simp
    · rw [if_neg e, List.getElem?_eq_none (by simp; omega)]; rfl
theorem BldTo.snoc {ps : List Int} {ds : List Bool} (h : BldTo ps ds) (h1 : 1 ≤ ps.length) {p : Int} {d : Bool} (hp : 0 ≤ p ∧ p < ps.length) : BldTo (ps ++ [p]) (ds ++ [d]) := by
  refine ⟨by simp [h.len], by rw [getD_app, if_pos (by omega)]; exact h.root, fun i hi hl => ?_⟩
  rw [getD_app]
  by_cases e : i < ps.length
  · rw [if_pos e]; exact h.par i hi e
  · rw [List.length_append, List.length_singleton] at hl
    rw [if_neg e, if_pos (by omega)]; omega
structure BldOk (ps : List Int) (ds : List Bool) : Prop extends BldTo ps ds where
  lo : 2 ≤ ps.length
  hi : ps.length ≤ 10
  last : ds.getD (ps.length - 1) false = true
def Valid09 (w : World) (r : Value) (w' : World) : Prop := ∃ (up ud : Value) (ps : List Int) (ds : List Bool), r = .agg #[up, ud] ∧ BldOk ps ds ∧ IntsR ⟨w.heap.size, w'.heap.size, false⟩ w' up ps ∧ BoolsR ⟨w.heap.size, w'.heap.size, false⟩ w' ud ds
theorem BldOk.i64 {ps : List Int} {ds : List Bool} (h : BldOk ps ds) : ∀ x ∈ ps, I64 x := fun x hx => by
  obtain ⟨i, hi, rfl⟩ := List.getElem_of_mem hx
  have e : ps.getD i 0 = ps[i] := by simp [hi]
  have := h.hi
  rcases Nat.eq_zero_or_pos i with q | q
  · subst q; rw [← e, h.root]; unfold I64; omega
  · have := h.par i q hi; rw [← e]; unfold I64; omega

set_option maxRecDepth 20000 in
set_option maxHeartbeats 4000000 in
theorem l09Valid_c (w : World) (g : Nat) (h : Src g w) : Calls Tryz.prog 276 #[.pointer (some ⟨g, 0, none⟩)] w (DrawR g w (Valid09 w)) := by
  have hlt := h.lt
  have hd0 := (Dr.refl h).alloc (.cells #[.slice none 0 0, .slice none 0 0] 201)
  have hbx := Box2.new w (.slice none 0 0) (.slice none 0 0) 201
  have hcall := l01Next_c _ g hd0.src 9 (by unfold I64; omega)
  have hsz0 : (w.alloc (.cells #[.slice none 0 0, .slice none 0 0] 201)).heap.size = w.heap.size + 1 := by simp
  clear h
  go_enter Tryz.func276, Tryz.ntmps276
  go_wp2_with fail
  generalize w.alloc (.cells #[.slice none 0 0, .slice none 0 0] 201) = w0 at *
  refine Calls.mono hcall ?_
  rintro e w1 ⟨_, rfl, ⟨x, rfl, hx0, hx1⟩, hd1⟩
  clear hcall
  have hbx1 := hbx.dr hd1 (by omega)
  have hd2 := hd0.trans hd1
  have hs1 : w.heap.size + 1 ≤ w1.heap.size := by have := hd1.size; omega
  have HB : Hid (∀ w', Dr g w1 w' → Box2 w.heap.size (.slice none 0 0) (.slice none 0 0) w') := fun w' hd => hbx1.dr hd (by omega)
  clear hbx hbx1 hd1 hd0 hsz0
  go_wp2_with fail
  obtain ⟨n, hn⟩ : ∃ n : Nat, 2 + x = n := ⟨(2 + x).toNat, by omega⟩
  have hn7 : 2 ≤ n ∧ n ≤ 10 := by omega
  rw [hn]
  have hlt1 : g < w1.heap.size := by omega
  have d1 : Dr g w1 (((w1.alloc (.cells #[.int .i64 (-1)] 2)).alloc (.cells #[.bool false] 4)).alloc (.cells #[.int .i64 0] 2)) := (((Dr.refl hd2.src).alloc _).alloc _).alloc _
  have t1 : Tri w1.heap.size (((w1.alloc (.cells #[.int .i64 (-1)] 2)).alloc (.cells #[.bool false] 4)).alloc (.cells #[.int .i64 0] 2)) (.slice (some ⟨w1.heap.size, 0, none⟩) 1 1) (.slice (some ⟨w1.heap.size + 1, 0, none⟩) 1 1) (.slice (some ⟨w1.heap.size + 1 + 1, 0, none⟩) 1 1) [-1] [false] [0] := by
    refine ⟨((OwnP.one (Nat.le_refl _) _).alloc _).alloc _, ?_, ?_, fun k hk e => ?_, fun k hk e => ?_, fun k hk e => ?_⟩
    · have := (OwnP.one (f := Value.bool) (e := 4) (B := w1.heap.size) (w := w1.alloc (.cells #[.int .i64 (-1)] 2)) (by simp) false).alloc (.cells #[.int .i64 0] 2)
      rw [World.size_alloc] at this
      exact this
    · have := OwnP.one (f := Value.int .i64) (e := 2) (B := w1.heap.size) (w := (w1.alloc (.cells #[.int .i64 (-1)] 2)).alloc (.cells #[.bool false] 4)) (by simp; omega) 0
      rw [World.size_alloc, World.size_alloc] at this
      exact this
    · injection hk with hk; injection e with e; simp only at hk e; omega
    · injection hk with hk; injection e with e; simp only at hk e; omega
    · injection hk with hk; injection e with e; simp only at hk e; omega
  generalize ((w1.alloc (.cells #[.int .i64 (-1)] 2)).alloc (.cells #[.bool false] 4)).alloc (.cells #[.int .i64 0] 2) = w4 at *
  have HD2 := Lib.hid hd2
  clear hn hx0 hx1 hd2
  go_loopw [4, 5, 6, 7, 8] (fun s4 s5 s6 s7 _ wr => ∃ (i : Nat) (ps : List Int) (ds : List Bool) (gs : List Int), s7 = .int .i64 i ∧ 1 ≤ i ∧ i ≤ n ∧ ps.length = i ∧ Tri w1.heap.size wr s4 s5 s6 ps ds gs ∧ BldTo ps ds ∧ (∀ y ∈ gs, 0 ≤ y ∧ y < i) ∧ 1 ≤ gs.length ∧ gs.length ≤ i ∧ (i = n → ds.getD (i - 1) false = true) ∧ Dr g w1 wr) (fun _ _ _ s7 _ _ => n - (intOf s7).toNat)
  case atStart => exact ⟨1, [-1], [false], [0], rfl, Nat.le_refl _, by omega, rfl, t1, ⟨rfl, rfl, fun i h1 h2 => by simp at h2; omega⟩, by simp, by simp, by simp, fun h => by omega, d1⟩
  case round =>
    obtain ⟨i, ps, ds, gs, rfl, hi1, hin, hpl, ht, hb, hgs, hg1, hg2, hla, hd⟩ := hrel
    clear t1 d1
    by_cases hlti : i < n
    · obtain ⟨a6, n6, c6, rfl, hn6, -⟩ := OwnP.shape ht.o6
      have hn61 : 1 ≤ n6 := by omega
      have hn62 : n6 ≤ i := by omega
      have Hn6 := Lib.hid hn6
      have HT := Lib.hid ht
      have HBl := Lib.hid hb
      have HGs := Lib.hid hgs
      have Hpl := Lib.hid hpl
      have hcall := l01Next_c _ g hd.src n6 (by unfold I64; omega)
      have HDr := Lib.hid hd
      clear ht hb hgs hpl hn6 hla hd hg1 hg2
      go_wp2_with fail
      refine Calls.mono hcall ?_
      rintro e w5 ⟨_, rfl, ⟨x5, rfl, hx50, hx51⟩, hd5⟩
      clear hcall
      obtain ⟨k, rfl⟩ : ∃ k : Nat, x5 = k := ⟨x5.toNat, by omega⟩
      have hkn : k < n6 := by omega
      have HT5 := Lib.hid (HT.out.dr hd5 hlt1)
      have HD5 := Lib.hid (HDr.out.trans hd5)
      obtain ⟨gq, rfl, hgq1, hgq2, hcq, -⟩ := OwnP.elem HT5.out.o6 0 k hkn
      have hpk := HGs.out (gs.getD k 0) (by
        have hk' : k < gs.length := by rw [← Hn6.out]; exact hkn
        have e : gs.getD k 0 = gs[k] := by simp [hk']
        rw [e]; exact List.getElem_mem hk')
      generalize gs.getD k 0 = p at *
      have hs5 : w1.heap.size ≤ w5.heap.size := HD5.out.size
      have HL4 : Hid (ps.length + 1 ≤ 1099511627776) := by show _ ≤ _; rw [Hpl.out]; omega
      clear hd5 hx50 hx51
      go_upto_region 8 with (at_builtin; (refine wpList_append1X (f := Value.int .i64) (e := 2) (B := w1.heap.size) (xs := ps) rfl _ _ 29 rfl 0 8 Tryz.underlying29 Tryz.infoI64 rfl (fun _ => rfl) rfl HT5.out.o4 p rfl HL4.out (by omega) hs5 ?_); intro v8 w8 hown8 hg8 hb8 hat8; have HT8 := Lib.hid (HT5.out.push4 hown8 hg8 hat8); have HD8 := Lib.hid (HD5.out.own hg8 (fun j hj => (HT5.out.o4.block j hj).1)); clear hown8 hg8 hb8 hat8)
      have hs8 : w1.heap.size ≤ w8.heap.size := HD8.out.size
      have HL5 : Hid (ds.length + 1 ≤ 1099511627776) := by show _ ≤ _; rw [HBl.out.len, Hpl.out]; omega
      have HB8 := Lib.hid (fun (d : Bool) => HBl.out.snoc (d := d) (by rw [Hpl.out]; exact hi1) (p := p) (by rw [Hpl.out]; exact hpk))
      have HG8 : Hid (∀ y ∈ gs, 0 ≤ y ∧ y < ((i + 1 : Nat) : Int)) := fun y hy => by have := HGs.out y hy; omega
      by_cases hl : i = n - 1
      · have hbi : ((i : Int) == (n : Int) - 1) = true := by rw [beq_iff_eq]; omega
        have HLa : Hid ((ds ++ [true]).getD i false = true) := by show _ = _; rw [getD_app, if_neg (by rw [HBl.out.len, Hpl.out]; omega), if_pos (by rw [HBl.out.len, Hpl.out])]
        clear hl
        go_wp2_with (at_builtin; (refine wpList_append1X (f := Value.bool) (e := 4) (B := w1.heap.size) (xs := ds) rfl _ _ 199 rfl false 1 Tryz.underlying199 Tryz.infoBool rfl (fun _ => rfl) rfl HT8.out.o5 true rfl HL5.out (by omega) hs8 ?_); intro v9 w9 hown9 hg9 hb9 hat9; have HT9 := Lib.hid (HT8.out.push5 hown9 hg9 hat9); have HD9 := Lib.hid (HD8.out.own hg9 (fun j hj => (HT8.out.o5.block j hj).1)); clear hown9 hg9 hb9 hat9)
        exact ⟨⟨i + 1, ps ++ [p], ds ++ [true], gs, by go_num, by omega, by omega, by rw [List.length_append, List.length_singleton, Hpl.out], HT9.out, HB8.out true, HG8.out, by rw [← Hn6.out]; exact hn61, by rw [← Hn6.out]; omega, fun _ => HLa.out, HD9.out⟩, by simp [intOf]; omega⟩
      · have hbi : ((i : Int) == (n : Int) - 1) = false := by rw [beq_eq_false_iff_ne]; omega
        have hcall := l01Next_c _ g HD8.out.src 3 (by unfold I64; omega)
        go_wp2_with fail
        refine Calls.mono hcall ?_
        rintro e w10 ⟨_, rfl, ⟨y, rfl, hy0, hy1⟩, hd10⟩
        clear hcall
        replace HT8 := Lib.hid (HT8.out.dr hd10 hlt1)
        replace HD8 := Lib.hid (HD8.out.trans hd10)
        replace hs8 : w1.heap.size ≤ w10.heap.size := HD8.out.size
        clear hd10
        by_cases hy : 0 < y
        · go_wp2_with (at_builtin; (refine wpList_append1X (f := Value.bool) (e := 4) (B := w1.heap.size) (xs := ds) rfl _ _ 199 rfl false 1 Tryz.underlying199 Tryz.infoBool rfl (fun _ => rfl) rfl HT8.out.o5 true rfl HL5.out (by omega) hs8 ?_); intro v9 w9 hown9 hg9 hb9 hat9; have HT9 := Lib.hid (HT8.out.push5 hown9 hg9 hat9); have HD9 := Lib.hid (HD8.out.own hg9 (fun j hj => (HT8.out.o5.block j hj).1)); clear hown9 hg9 hb9 hat9)
          exact ⟨⟨i + 1, ps ++ [p], ds ++ [true], gs, by go_num, by omega, by omega, by rw [List.length_append, List.length_singleton, Hpl.out], HT9.out, HB8.out true, HG8.out, by rw [← Hn6.out]; exact hn61, by rw [← Hn6.out]; omega, fun h => by omega, HD9.out⟩, by simp [intOf]; omega⟩
        · have hyd : decide (0 < y) = false := decide_eq_false hy
          have hyn : ¬ 0 < y := hy
          have HL6 : Hid (gs.length + 1 ≤ 1099511627776) := by show _ ≤ _; rw [← Hn6.out]; omega
          go_wp2_with (first | (at_builtin; (refine wpList_append1X (f := Value.bool) (e := 4) (B := w1.heap.size) (xs := ds) rfl _ _ 199 rfl false 1 Tryz.underlying199 Tryz.infoBool rfl (fun _ => rfl) rfl HT8.out.o5 false rfl HL5.out (by omega) hs8 ?_); intro v9 w9 hown9 hg9 hb9 hat9; have HT9 := Lib.hid (HT8.out.push5 hown9 hg9 hat9); have HD9 := Lib.hid (HD8.out.own hg9 (fun j hj => (HT8.out.o5.block j hj).1)); clear hown9 hg9 hb9 hat9) | (at_builtin; (refine wpList_append1X (f := Value.int .i64) (e := 2) (B := w1.heap.size) (xs := gs) rfl _ _ 29 rfl 0 8 Tryz.underlying29 Tryz.infoI64 rfl (fun _ => rfl) rfl HT9.out.o6 (i : Int) rfl HL6.out (by omega) HD9.out.size ?_); intro v11 w11 hown9 hg9 hb9 hat9; have HT11 := Lib.hid (HT9.out.push6 hown9 hg9 hat9); have HD11 := Lib.hid (HD9.out.own hg9 (fun j hj => (HT9.out.o6.block j hj).1)); clear hown9 hg9 hb9 hat9))
          refine ⟨⟨i + 1, ps ++ [p], ds ++ [false], gs ++ [(i : Int)], by go_num, by omega, by omega, by rw [List.length_append, List.length_singleton, Hpl.out], HT11.out, HB8.out false, fun z hz => ?_, by simp, by rw [List.length_append, List.length_singleton, ← Hn6.out]; omega, fun h => by omega, HD11.out⟩, by simp [intOf]; omega⟩
          rcases List.mem_append.1 hz with hz | hz
          · exact HG8.out z hz
          · rw [List.mem_singleton.1 hz]; omega
    · have hie : i = n := by omega
      obtain ⟨q1, q2, q3, q4⟩ := HB.out wr hd
      obtain ⟨a4, n4, c4, rfl, -⟩ := OwnP.shape ht.o4
      obtain ⟨a5, n5, c5, rfl, -⟩ := OwnP.shape ht.o5
      have HOk : Hid (BldOk ps ds) := ⟨hb, by omega, by omega, by rw [hpl]; exact hla hie⟩
      have HT := Lib.hid ht
      have hd' := HD2.out.trans hd
      have HF : Hid (Dr g w ((wr.setCell ⟨w.heap.size, 0, none⟩ (.slice a4 n4 c4)).setCell ⟨w.heap.size, 1, none⟩ (.slice a5 n5 c5))) := (hd'.put (p := ⟨w.heap.size, 0, none⟩) (Nat.le_refl _) _).put (p := ⟨w.heap.size, 1, none⟩) (Nat.le_refl _) _
      have hsz := hd'.size
      have HR : Hid (IntsR ⟨w.heap.size, ((wr.setCell ⟨w.heap.size, 0, none⟩ (.slice a4 n4 c4)).setCell ⟨w.heap.size, 1, none⟩ (.slice a5 n5 c5)).heap.size, false⟩ ((wr.setCell ⟨w.heap.size, 0, none⟩ (.slice a4 n4 c4)).setCell ⟨w.heap.size, 1, none⟩ (.slice a5 n5 c5)) (.slice a4 n4 c4) ps ∧ BoolsR ⟨w.heap.size, ((wr.setCell ⟨w.heap.size, 0, none⟩ (.slice a4 n4 c4)).setCell ⟨w.heap.size, 1, none⟩ (.slice a5 n5 c5)).heap.size, false⟩ ((wr.setCell ⟨w.heap.size, 0, none⟩ (.slice a4 n4 c4)).setCell ⟨w.heap.size, 1, none⟩ (.slice a5 n5 c5)) (.slice a5 n5 c5) ds) := by
        have hset : ∀ k, k ≠ w.heap.size → ((wr.setCell ⟨w.heap.size, 0, none⟩ (.slice a4 n4 c4)).setCell ⟨w.heap.size, 1, none⟩ (.slice a5 n5 c5)).heap[k]? = wr.heap[k]? := fun k hk => (Below.heap_setCell _ _ _ _ hk).trans (Below.heap_setCell _ _ _ _ hk)
        have hz : ((wr.setCell ⟨w.heap.size, 0, none⟩ (.slice a4 n4 c4)).setCell ⟨w.heap.size, 1, none⟩ (.slice a5 n5 c5)).heap.size = wr.heap.size := by simp [World.setCell]
        have r1 : IntsR ⟨w1.heap.size, wr.heap.size, true⟩ wr (.slice a4 n4 c4) ps := OwnP.ints HT.out.o4 HOk.out.i64 (Nat.le_refl _)
        have r2 : BoolsR ⟨w1.heap.size, wr.heap.size, true⟩ wr (.slice a5 n5 c5) ds := OwnP.reads HT.out.o5 (fun _ _ _ => rfl) (Nat.le_refl _) (Nat.le_refl _)
        rw [hz]
        exact ⟨stable_ints.sub (stable_ints.keep r1 (fun k hk _ => hset k (by have := hk.1; simp only at this; omega))) ⟨fun k hk => ⟨by have := hk.1; simp only at this; show w.heap.size ≤ k; omega, hk.2⟩, fun h => by cases h⟩, stable_bools.sub (stable_bools.keep r2 (fun k hk _ => hset k (by have := hk.1; simp only at this; omega))) ⟨fun k hk => ⟨by have := hk.1; simp only at this; show w.heap.size ≤ k; omega, hk.2⟩, fun h => by cases h⟩⟩
      clear ht hb hgs hla hd hd' hsz
      go_wp2_with fail
      exact bodyPost_ret (v := .agg #[.slice a4 n4 c4, .slice a5 n5 c5]) (by simp [results, Tryz.results276, go_sem, q1, q2]) rfl ⟨_, rfl, ⟨_, _, ps, ds, rfl, HOk.out, HR.out.1, HR.out.2⟩, HF.out⟩
end Go.Proofs.YtegmognpofcfiaaGreat
