/- Proved: an argument that can be read as data is a system; an argument that can be read as data is a maker; the laws' own helpers for a list of integers (size, copy, equality, mark, held) do what their names say; the laws' own helpers for a list of lists of integers (size, copy, equality, mark, held) do what their names say; the laws' own helpers that mark a list of integers and look whether it is marked; the laws' own helpers that mark a list of lists of integers and look whether it is marked; the laws' own helpers for a system (size, copy, equality, marks) do what their names say; the number of the keys that begin with some cuts, the reference; the program's visit of all keys in order; the program's visit of all keys in order, by a visit that reads what was there; the number of keys, the program; the text of a number, both sides; strconv.FormatInt, laid; the text of a number, both sides; how long a stamp is, both sides. -/
import Derived.Test.YtnndaboaeijbkaaDoorChecked
import Derived.Deep.RegionHeld3
import Derived.Laws.EntriesVeiled
import Derived.Lib.ItoaNum
import Derived.Sort.Grow
import Derived.Shelf.Strconv.Itoa4
import Derived.Shelf.LaysM
import Derived.Ground.NamesProg
import Derived.Deep.RegionLaw
import Derived.Laws.IdiomStrings
import Derived.Test.YtnndaboaeijbkaaDoorUOpen
import Derived.Test.YtnndaboaeijbkaaDoorUSys
import Derived.Test.YtnndaboaeijbkaaDoorUInfo
import Derived.Test.YtnndaboaeijbkaaDoorUKeyFirst
import Derived.Test.YtnndaboaeijbkaaDoorUSysRes
import Derived.Test.YtnndaboaeijbkaaDoorUEachCut
import Derived.Test.YtnndaboaeijbkaaDoorUMaker
import Derived.Test.YtnndaboaeijbkaaDoorUBase
import Derived.Test.YtnndaboaeijbkaaDoorUExt
namespace Go.Proofs.YtnndaboaeijbkaaDoor
open Go.ChangeShapes Go.WideShapes Go.ChangeAt Go.RowKit
set_option linter.unusedVariables false
open Go.Deep

section
variable {H : Type} {enc : TypeId × Value → H} {P : Program} {w : World} {held : Bool}
theorem array6 {α : Type} {cs : Array α} (h : cs.size = 6) : ∃ c0 c1 c2 c3 c4 c5, cs = #[c0, c1, c2, c3, c4, c5] := by
  obtain ⟨l⟩ := cs
  match l, h with
  | [c0, c1, c2, c3, c4, c5], _ => exact ⟨c0, c1, c2, c3, c4, c5, rfl⟩
/-- a field of one cell that holds an integer -/
def IntField (P : Program) (g : Field) (i : Nat) : Prop := g.offset = i ∧ P.cellsOf g.type = 1 ∧ P.underlying g.type = some (.int .i64)
theorem open_sys {r : Reach} {b0 : Nat} {t : TypeId} {f0 f1 g0 g1 g2 g3 g4 : Field} {v : Value} {d : DataW H} {p : List MemPlace} (hs : P.underlying t = some (.struct #[f0, f1])) (hg : P.underlying f0.type = some (.struct #[g0, g1, g2, g3, g4]))
    (hC : P.cellsOf t = 6) (hC0 : P.cellsOf f0.type = 5) (hC1 : P.cellsOf f1.type = 1) (ho0 : f0.offset = 0) (ho1 : f1.offset = 5)
    (i0 : IntField P g0 0) (i1 : IntField P g1 1) (i2 : IntField P g2 2) (i3 : IntField P g3 3) (i4 : IntField P g4 4)
    (hv : Value.okWide P w r b0 t v) (h : DataW.Trod enc P w 0 (fun _ => true) held t v d p) :
    ∃ (mk : MK) (u : Value) (y : DataW H × List MemPlace) (n : Nat), v = sysV mk u ∧ mk.wide ∧ DataW.trod enc P w 0 (fun _ => true) held n f1.type [u] = some y := by
  obtain ⟨cs, rfl, hsz⟩ := okWide_struct hs hv
  obtain ⟨c0, c1, c2, c3, c4, c5, rfl⟩ := array6 (hsz.trans hC)
  obtain ⟨fuel, hf⟩ := h
  obtain ⟨xs, n, -, -, -, hxl, hx⟩ := DataW.trod_struct hs hf
  have h0 := hx 0 f0 rfl
  have h1 := hx 1 f1 rfl
  rw [ho0, hC0] at h0
  rw [ho1, hC1] at h1
  match xs, hxl with
  | [y0, y1], _ =>
    simp only [Value.cells, List.getElem?_cons_zero, List.getElem?_cons_succ, List.drop_zero, List.take_succ_cons, List.take_zero, List.drop_succ_cons] at h0 h1
    obtain ⟨zs, m, -, -, -, hzl, hz⟩ := DataW.trod_struct hg h0
    have q0 := hz 0 g0 rfl
    have q1 := hz 1 g1 rfl
    have q2 := hz 2 g2 rfl
    have q3 := hz 3 g3 rfl
    have q4 := hz 4 g4 rfl
    rw [i0.1, i0.2.1] at q0
    rw [i1.1, i1.2.1] at q1
    rw [i2.1, i2.2.1] at q2
    rw [i3.1, i3.2.1] at q3
    rw [i4.1, i4.2.1] at q4
    match zs, hzl with
    | [z0, z1, z2, z3, z4], _ =>
      simp only [List.getElem?_cons_zero, List.getElem?_cons_succ, List.drop_zero, List.take_succ_cons, List.take_zero, List.drop_succ_cons] at q0 q1 q2 q3 q4
      obtain ⟨a0, rfl, w0⟩ := open_I64 i0.2.2 q0
      obtain ⟨a1, rfl, w1⟩ := open_I64 i1.2.2 q1
      obtain ⟨a2, rfl, w2⟩ := open_I64 i2.2.2 q2
      obtain ⟨a3, rfl, w3⟩ := open_I64 i3.2.2 q3
      obtain ⟨a4, rfl, w4⟩ := open_I64 i4.2.2 q4
      exact ⟨⟨a0, a1, a2, a3, a4⟩, c5, y1, n, rfl, ⟨w0, w1, w2, w3, w4⟩, by simpa using h1⟩
end

open Go.ChangeShapes Go.WideShapes Go.ChangeAt Go.RowKit
set_option linter.unusedVariables false
open Go.Deep

section
variable {H : Type} {enc : TypeId × Value → H} {P : Program} {w : World} {held : Bool}
theorem array5 {α : Type} {cs : Array α} (h : cs.size = 5) : ∃ c0 c1 c2 c3 c4, cs = #[c0, c1, c2, c3, c4] := by
  obtain ⟨l⟩ := cs
  match l, h with
  | [c0, c1, c2, c3, c4], _ => exact ⟨c0, c1, c2, c3, c4, rfl⟩
theorem open_mk {r : Reach} {b0 : Nat} {t : TypeId} {g0 g1 g2 g3 g4 : Field} {v : Value} {d : DataW H} {p : List MemPlace} (hg : P.underlying t = some (.struct #[g0, g1, g2, g3, g4]))
    (hC : P.cellsOf t = 5) (i0 : IntField P g0 0) (i1 : IntField P g1 1) (i2 : IntField P g2 2) (i3 : IntField P g3 3) (i4 : IntField P g4 4)
    (hv : Value.okWide P w r b0 t v) (h : DataW.Trod enc P w 0 (fun _ => true) held t v d p) : ∃ mk : MK, v = mk.v ∧ mk.wide := by
  obtain ⟨cs, rfl, hsz⟩ := okWide_struct hg hv
  obtain ⟨c0, c1, c2, c3, c4, rfl⟩ := array5 (hsz.trans hC)
  obtain ⟨fuel, hf⟩ := h
  obtain ⟨zs, m, -, -, -, hzl, hz⟩ := DataW.trod_struct hg hf
  have q0 := hz 0 g0 rfl
  have q1 := hz 1 g1 rfl
  have q2 := hz 2 g2 rfl
  have q3 := hz 3 g3 rfl
  have q4 := hz 4 g4 rfl
  rw [i0.1, i0.2.1] at q0
  rw [i1.1, i1.2.1] at q1
  rw [i2.1, i2.2.1] at q2
  rw [i3.1, i3.2.1] at q3
  rw [i4.1, i4.2.1] at q4
  match zs, hzl with
  | [z0, z1, z2, z3, z4], _ =>
    simp only [Value.cells, List.getElem?_cons_zero, List.getElem?_cons_succ, List.drop_zero, List.take_succ_cons, List.take_zero, List.drop_succ_cons] at q0 q1 q2 q3 q4
    obtain ⟨a0, rfl, w0⟩ := open_I64 i0.2.2 q0
    obtain ⟨a1, rfl, w1⟩ := open_I64 i1.2.2 q1
    obtain ⟨a2, rfl, w2⟩ := open_I64 i2.2.2 q2
    obtain ⟨a3, rfl, w3⟩ := open_I64 i3.2.2 q3
    obtain ⟨a4, rfl, w4⟩ := open_I64 i4.2.2 q4
    exact ⟨⟨a0, a1, a2, a3, a4⟩, rfl, ⟨w0, w1, w2, w3, w4⟩⟩
end

open Go.ChangeShapes Go.WideShapes Go.ChangeAt Go.RowKit
set_option linter.unusedVariables false


theorem take_set {α : Type} (xs : List α) (d : α) (k len : Nat) (hk : k < len) (hl : len = xs.length) (x : α) (hx : xs[k]? = some x) :
    (xs.take k ++ List.replicate (len - k) d).set k x = xs.take (k+1) ++ List.replicate (len - (k+1)) d := by
  rw [List.take_add_one, hx]
  obtain ⟨m, hm⟩ : ∃ m, len - k = m + 1 := ⟨len - k - 1, by omega⟩
  rw [hm, show len - (k+1) = m by omega, List.set_append_right _ _ (by simp; omega)]
  simp [show min k xs.length = k by omega, List.replicate_succ]

theorem getElem?_of_getD {xs : List Int} {k : Nat} (h : k < xs.length) {x : Int} (hx : xs.getD k 0 = x) : xs[k]? = some x := by
  subst hx; simp [h]

set_option maxHeartbeats 400000 in
theorem toInt64S_c (w : World) (v : Value) (z : Zone) (xs : List Int) (h : IntsR z w v xs) (hs : xs.length ≤ 1048576) :
    Calls Tryd.prog 18 #[v] w (Ret w fun r w' => IntsR (.new w w') w' r xs) := by
  obtain ⟨a, len, cap, rfl, hlen, hmax, -, -, -, hel⟩ := IntsR.shape h
  have hmem := IntsR.mem h
  have hs' : len ≤ 1048576 := by omega
  have Hlen := Lib.hid hlen; clear hlen hs h
  have Hel := Lib.hid hel; clear hel
  have Hmem := Lib.hid hmem; clear hmem
  go_enter Tryd.func18, Tryd.ntmps18
  go_wp2_with (at_make; refine wpList_makeP rfl _ _ 28 rfl 2 w.heap.size (Value.int .i64) 0 8 Tryd.underlying28 Tryd.infoI64 rfl len rfl rfl (by omega) (by omega) (Nat.le_refl _) ?_)
  intro w1 hown hb1 _
  go_wp2
  go_loopw [4] (fun t wr => ∃ k : Nat, k ≤ len ∧ t = .int .i64 k ∧ OwnP (Value.int .i64) 2 w.heap.size wr (.slice (some ⟨w.heap.size, 0, none⟩) len len) (xs.take k ++ List.replicate (len - k) 0) ∧ Below w.heap.size w wr) (fun t _ => len - (intOf t).toNat)
  case atStart => exact ⟨0, Nat.zero_le _, rfl, hown, hb1⟩
  case round =>
    obtain ⟨k, hk, rfl, hownk, hbk⟩ := hrel
    clear hown hb1
    by_cases hlt : k < len
    · obtain ⟨b, off, rfl, hc, ⟨hx1, hx2⟩, -⟩ := Hel.out k hlt
      have hc' : wr.cell? ⟨b, off + k, none⟩ = some (.int .i64 (xs.getD k 0)) := by rw [hbk.cell (World.block_lt_of_cell? _ _ hc)]; exact hc
      obtain ⟨_, hd, hf⟩ := hownk.at hlt
      have Hst := Lib.hid (OwnP.store hownk k (xs.getD k 0))
      have hbk' : Below w.heap.size w (wr.setCell ⟨w.heap.size, k, none⟩ (.int .i64 (xs.getD k 0))) := hbk.setCell (Nat.le_refl _) _
      generalize hx : xs.getD k 0 = x at *
      have Hx := Lib.hid hx; clear hx hc hownk
      go_wp2
      go_roundw
      case rel =>
        refine ⟨k + 1, by omega, by go_num, ?_, hbk'⟩
        have hl := Hlen.out
        have e := take_set xs 0 k len hlt hl x (getElem?_of_getD (by omega) Hx.out)
        rw [← e]; exact Hst.out
      case measure => simp [intOf]; omega
    · have hke : k = len := by omega
      go_wp2
      go_ret
      have hl := Hlen.out
      refine ⟨_, rfl, ?_, hbk⟩
      rw [hke, Nat.sub_self, List.replicate_zero, List.append_nil, List.take_of_length_le (by omega)] at hownk
      exact OwnP.ints hownk Hmem.out (Nat.le_refl _)

/-- lists are equal, told element by element -/
theorem ints_ne {xs ys : List Int} (k : Nat) (h1 : k < xs.length) (h2 : k < ys.length) (h : xs.getD k 0 ≠ ys.getD k 0) : decide (xs = ys) = false := by
  rw [decide_eq_false_iff_not]; rintro rfl; exact h rfl
theorem ints_eq {xs ys : List Int} (hl : xs.length = ys.length) (h : ∀ k, k < xs.length → xs.getD k 0 = ys.getD k 0) : decide (xs = ys) = true := by
  rw [decide_eq_true_iff]
  apply List.ext_getElem hl
  intro i h1 h2
  have := h i h1
  simpa [h1, h2] using this

set_option maxHeartbeats 400000 in
theorem eqInt64S_c (w : World) (u v : Value) (y z : Zone) (xs ys : List Int) (hx : IntsR y w u xs) (hy : IntsR z w v ys) :
    Calls Tryd.prog 12 #[u, v] w (RetQ w (.bool (decide (xs = ys)))) := by
  obtain ⟨a, n, cap, rfl, hn, hmax, -, -, -, hel⟩ := IntsR.shape hx
  obtain ⟨b, m, cap', rfl, hm, hmax', -, -, -, hel'⟩ := IntsR.shape hy
  clear hx hy
  have Hn := Lib.hid hn; clear hn
  have Hm := Lib.hid hm; clear hm
  have Hel := Lib.hid hel; clear hel
  have Hel' := Lib.hid hel'; clear hel'
  by_cases hnm : n = m
  · subst hnm
    have Hend : Hid ((∀ k, k < n → xs.getD k 0 = ys.getD k 0) → decide (xs = ys) = true) := fun h => ints_eq (by rw [← Hn.out, ← Hm.out]) (fun k hk => h k (by rw [Hn.out]; exact hk))
    have Hbad : Hid (∀ k, k < n → xs.getD k 0 ≠ ys.getD k 0 → decide (xs = ys) = false) := fun k hk h => ints_ne k (by rw [← Hn.out]; exact hk) (by rw [← Hm.out]; exact hk) h
    clear Hn Hm
    go_enter Tryd.func12, Tryd.ntmps12
    go_wp2
    go_loopw [5] (fun t wr => ∃ k : Nat, k ≤ n ∧ t = .int .i64 k ∧ (∀ j, j < k → xs.getD j 0 = ys.getD j 0) ∧ Drew w wr) (fun t _ => n - (intOf t).toNat)
    case atStart => exact ⟨0, Nat.zero_le _, rfl, by simp, Drew.refl _⟩
    case round =>
      obtain ⟨k, hk, rfl, hall, hd⟩ := hrel
      have Hall := Lib.hid hall; clear hall
      by_cases hlt : k < n
      · obtain ⟨b1, o1, rfl, hc1, ⟨hx1, hx2⟩, -⟩ := Hel.out k hlt
        obtain ⟨b2, o2, rfl, hc2, ⟨hy1, hy2⟩, -⟩ := Hel'.out k hlt
        replace hc1 := (hd.cell _).trans hc1
        replace hc2 := (hd.cell _).trans hc2
        have Hgo : Hid (xs.getD k 0 = ys.getD k 0 → ∀ j, j < k + 1 → xs.getD j 0 = ys.getD j 0) := fun h j hj => by
          by_cases e : j = k
          · rw [e]; exact h
          · exact Hall.out j (by omega)
        have Hno := Lib.hid (Hbad.out k hlt)
        clear Hall Hbad Hend Hel Hel'
        generalize xs.getD k 0 = x at *
        generalize ys.getD k 0 = y at *
        by_cases hxy : x = y
        · subst hxy
          go_wp2
          go_quiet (fail)
          go_wp2
          go_roundw
          case rel => exact ⟨k + 1, by omega, by go_num, Hgo.out (by simp), hd.drewN _⟩
          case measure => simp [intOf]; omega
        · have hne : (x == y) = false := by simpa using hxy
          go_wp2
          go_quiet (fail)
          go_wp2
          go_ret
          exact ⟨ret_bool' (Hno.out hxy), hd.drewN _⟩
      · have hkn : k = n := by omega
        go_wp2
        go_ret
        exact ⟨ret_bool' (Hend.out (fun j hj => Hall.out j (by omega))), hd⟩
  · have hd : ((n : Int) == (m : Int)) = false := by rw [beq_eq_false_iff_ne]; omega
    have Hne : Hid (decide (xs = ys) = false) := by
      show decide (xs = ys) = false
      rw [decide_eq_false_iff_not]; rintro rfl; exact hnm (Hn.out.trans Hm.out.symm)
    clear hnm
    go_enter Tryd.func12, Tryd.ntmps12
    go_wp2
    go_ret
    exact ⟨ret_bool' Hne.out, Drew.refl _⟩

/-! ### sizes -/
def szLeft (l : Int) (b : Nat) : Int := if l < b then -1 else l - b
theorem szLeft_neg {l : Int} {b : Nat} (h : l < b) : szLeft l b = -1 := by unfold szLeft; rw [if_pos h]
theorem szLeft_pos {l : Int} {b : Nat} (h : ¬ l < b) : szLeft l b = l - b := by unfold szLeft; rw [if_neg h]

open Go.ChangeShapes Go.WideShapes Go.ChangeAt Go.RowKit
set_option linter.unusedVariables false


/-- how many values: one for each row, one for each element -/
def bulk (xss : List (List Int)) : Nat := xss.length + (xss.map List.length).sum
theorem bulk_mem {xss : List (List Int)} {xs : List Int} (h : xs ∈ xss) : xs.length ≤ bulk xss := by
  unfold bulk
  have : xs.length ≤ (xss.map List.length).sum := by
    induction xss with
    | nil => cases h
    | cons a l ih =>
      simp only [List.map_cons, List.sum_cons]
      rcases List.mem_cons.1 h with rfl | h
      · omega
      · have := ih h; omega
  omega
def offs (xss : List (List Int)) (k : Nat) : Nat := ((xss.take k).map List.length).sum
theorem offs_succ {xss : List (List Int)} {k : Nat} (h : k < xss.length) : offs xss (k+1) = offs xss k + (xss[k]).length := by
  unfold offs
  rw [List.take_add_one, List.getElem?_eq_getElem h, List.map_append, List.sum_append]
  simp
theorem offs_le (xss : List (List Int)) : ∀ k, offs xss k ≤ offs xss xss.length := by
  intro k
  unfold offs
  rw [List.take_length]
  induction xss generalizing k with
  | nil => simp
  | cons a l ih => cases k with
    | zero => simp
    | succ k => have := ih k; simp only [List.take_succ_cons, List.map_cons, List.sum_cons]; omega
theorem offs_all (xss : List (List Int)) : xss.length + offs xss xss.length = bulk xss := by unfold offs bulk; rw [List.take_length]

open Go.ChangeShapes Go.WideShapes Go.ChangeAt Go.RowKit
set_option linter.unusedVariables false

/-! ### marks -/
def marks (k : Int) (n : Nat) : List Int := (List.range n).map fun (i : Nat) => k + (i : Int)
theorem marks_length (k : Int) (n : Nat) : (marks k n).length = n := by simp [marks]
theorem marks_get (k : Int) (n i : Nat) (h : i < n) : (marks k n)[i]? = some (k + i) := by simp [marks, h]
theorem marks_set (k : Int) (xs : List Int) (i : Nat) (h : i < xs.length) : (marks k i ++ xs.drop i).set i (k + i) = marks k (i+1) ++ xs.drop (i+1) := by
  rw [List.set_append_right _ _ (by simp [marks]), marks_length, Nat.sub_self]
  rw [List.drop_eq_getElem_cons h, List.set_cons_zero]
  simp [marks, List.range_succ]
/-- what markInt64S leaves -/
def MarkPost (w : World) (z : Zone) (v : Value) (k : Int) (n : Nat) (e : Ending) (w' : World) : Prop := e = .returned (.int .i64 (k + n)) ∧ IntsR z w' v (marks k n) ∧ Within z w w'

set_option maxHeartbeats 400000 in
theorem markInt64S_c (w : World) (v : Value) (z : Zone) (xs : List Int) (k0 : Int) (h : IntsR z w v xs) (ho : z.own = true) (h0 : 0 ≤ k0) (h1 : k0 + xs.length ≤ 4611686018427387904) :
    Calls Tryd.prog 13 #[v, .int .i64 k0] w (MarkPost w z v k0 xs.length) := by
  obtain ⟨a, n, cap, rfl, hn, hmax, -, -, -, -⟩ := IntsR.shape h
  have Hn := Lib.hid hn
  rw [← hn] at h1
  rw [← hn]
  clear hn
  have H := Lib.hid h; clear h
  have Ho := Lib.hid ho; clear ho
  go_enter Tryd.func13, Tryd.ntmps13
  go_wp2
  go_loopw [1, 5] (fun s t wr => ∃ i : Nat, i ≤ n ∧ t = .int .i64 i ∧ s = .int .i64 (k0 + i) ∧ IntsR z wr (.slice a n cap) (marks k0 i ++ xs.drop i) ∧ Within z w wr) (fun _ t _ => n - (intOf t).toNat)
  case atStart => exact ⟨0, Nat.zero_le _, rfl, by simp, by simpa [marks] using H.out, Within.refl _ _⟩
  case round =>
    obtain ⟨i, hi, rfl, rfl, hr, hw⟩ := hrel
    by_cases hlt : i < n
    · have hn := Hn.out
      have hsh := SliceR.shape hr
      obtain ⟨a', n', cap', he, hn', -, -, -, -, hel⟩ := hsh
      injection he with e1 e2 e3
      subst e1; subst e3
      obtain ⟨b, off, rfl, hb1, hb2, hfz, u, y, hc, -, -, -⟩ := hel i (by rw [← hn', ← e2]; exact hlt)
      have hf := hfz Ho.out
      have Hst := Lib.hid (SliceR.store stable_int hr Ho.out i hlt (.int .i64 (k0 + i)) (k0 + i) (fun _ _ => ⟨rfl, by unfold I64; omega⟩))
      have hw' : Within z w (wr.setCell ⟨b, off + i, none⟩ (.int .i64 (k0 + i))) := hw.setCell hb1 _
      have He : Hid ((marks k0 i ++ xs.drop i).set i (k0 + i) = marks k0 (i+1) ++ xs.drop (i+1)) := marks_set k0 xs i (by omega)
      clear hel hfz hn hn' e2 hr hb1 hb2
      go_wp2
      go_roundw
      case rel => exact ⟨i + 1, by omega, by go_num, by go_num, by rw [← He.out]; exact Hst.out, hw'⟩
      case measure => simp [intOf]; omega
    · have hin : i = n := by omega
      go_wp2
      go_ret
      subst hin
      refine ⟨rfl, ?_, hw⟩
      have := Hn.out
      rw [List.drop_of_length_le (by omega), List.append_nil] at hr
      exact hr

set_option maxHeartbeats 400000 in
theorem heldInt64S_c (w : World) (v : Value) (z : Zone) (n : Nat) (k0 : Int) (h : IntsR z w v (marks k0 n)) (h0 : 0 ≤ k0) (h1 : k0 + n ≤ 4611686018427387904) :
    Calls Tryd.prog 14 #[v, .int .i64 k0] w (RetQ w (.int .i64 (k0 + n))) := by
  obtain ⟨a, n', cap, rfl, hn, hmax, -, -, -, hel⟩ := IntsR.shape h
  rw [marks_length] at hn
  subst hn
  clear h
  have Hel := Lib.hid hel; clear hel
  go_enter Tryd.func14, Tryd.ntmps14
  go_wp2
  go_loopw [1, 5] (fun s t wr => ∃ i : Nat, i ≤ n' ∧ t = .int .i64 i ∧ s = .int .i64 (k0 + i) ∧ Drew w wr) (fun _ t _ => n' - (intOf t).toNat)
  case atStart => exact ⟨0, Nat.zero_le _, rfl, by simp, Drew.refl _⟩
  case round =>
    obtain ⟨i, hi, rfl, rfl, hd⟩ := hrel
    by_cases hlt : i < n'
    · obtain ⟨b, off, rfl, hc, -, -⟩ := Hel.out i hlt
      have hx : (marks k0 n').getD i 0 = k0 + i := by simp [marks, hlt]
      rw [hx] at hc
      clear hx
      replace hc := (hd.cell _).trans hc
      go_wp2
      all_goals
        go_roundw
        case rel => exact ⟨i + 1, by omega, by go_num, by go_num, hd⟩
        case measure => simp [intOf]; omega
    · have hin : i = n' := by omega
      go_wp2
      go_ret
      subst hin
      exact ⟨rfl, hd⟩

open Go.ChangeShapes Go.WideShapes Go.ChangeAt Go.RowKit
set_option linter.unusedVariables false

/-! ### marks -/
/-- each row marked in turn -/
def markRows (k : Int) (xss : List (List Int)) : List (List Int) := (List.range xss.length).map fun i => marks (k + (offs xss i : Int)) (xss.getD i []).length
theorem markRows_length (k : Int) (xss : List (List Int)) : (markRows k xss).length = xss.length := by simp [markRows]
theorem markRows_get (k : Int) (xss : List (List Int)) (i : Nat) (h : i < xss.length) (h' : i < (markRows k xss).length) : (markRows k xss)[i] = marks (k + (offs xss i : Int)) (xss[i]).length := by simp [markRows, h]
theorem markRows_set (k : Int) (xss : List (List Int)) (i : Nat) (h : i < xss.length) :
    ((markRows k xss).take i ++ xss.drop i).set i (marks (k + (offs xss i : Int)) (xss[i]).length) = (markRows k xss).take (i+1) ++ xss.drop (i+1) := by
  have hl := markRows_length k xss
  rw [List.set_append_right _ _ (by simp; omega), show i - ((markRows k xss).take i).length = 0 by simp; omega, List.drop_eq_getElem_cons h, List.set_cons_zero, List.take_add_one, List.getElem?_eq_getElem (by omega), markRows_get k xss i h]
  simp
/-- what markInt64SS leaves -/
def MarksPost (w : World) (z : Zone) (v : Value) (k : Int) (xss : List (List Int)) (e : Ending) (w' : World) : Prop := e = .returned (.int .i64 (k + (offs xss xss.length : Int))) ∧ RowsR z w' v (markRows k xss) ∧ Within z w w'

open Go.ChangeShapes Go.WideShapes Go.ChangeAt Go.RowKit
set_option linter.unusedVariables false

set_option maxRecDepth 40000 in
set_option maxHeartbeats 2000000 in
theorem toMaker_c (w : World) (mk : MK) : Calls Tryd.prog 8 #[mk.v] w (Ret w fun r _ => r = mk.v) := by
  obtain ⟨c, d, s, m, l⟩ := mk
  unfold MK.v
  simp only
  go_enter Tryd.func8, Tryd.ntmps8
  go_wp2_with fail
  refine bodyPost_ret (v := .agg #[.int .i64 c, .int .i64 d, .int .i64 s, .int .i64 m, .int .i64 l]) (by simp [results, Tryd.results8, go_sem]) rfl ⟨_, rfl, rfl, ?_⟩
  exact ((Ext.alloc _ _).trans (Ext.alloc _ _)).trans (Ext.alloc _ _)

/-- what markSystem leaves: a box more, and the table's numbers marked -/
def MarkSysPost (w : World) (z : Zone) (v : Value) (k : Int) (xss : List (List Int)) (e : Ending) (w' : World) : Prop :=
  e = .returned (.int .i64 (k + (offs xss xss.length : Int))) ∧ RowsR z w' v (markRows k xss) ∧ ∃ w1, Below w.heap.size w w1 ∧ Within z w1 w'
/-! ### the helpers, the values written out -/
theorem Within.cell {z : Zone} {w w' : World} (h : Within z w w') {p : Addr} (hp : ¬ z.Has p.block) : w'.cell? p = w.cell? p := World.cell?_of_block (h.block _ hp)

open Go.ChangeShapes Go.WideShapes Go.ChangeAt Go.RowKit
set_option linter.unusedVariables false

theorem kinds_le6 {l : List Int} : kinds l ≤ l.length := kindsTo_le l l.length
theorem sweep_len (mk : MK) {D : Nat} (r : Nat) (pre : List Int) {d : Nat} (h : d < D) : (sweep mk D r pre d).length = (keysR mk D r (pre ++ [(d : Int)])).length + (sweep mk D r pre (d + 1)).length := by
  rw [sweep_step mk r pre h, List.length_append]
/-- at most 8 to the r keys -/
theorem keysR_len (mk : MK) (D : Nat) (hD : D ≤ 8) : ∀ (r : Nat) (pre : List Int), (keysR mk D r pre).length ≤ 8 ^ r
  | 0, pre => by
    rw [keysR_zero]
    split
    · split <;> simp
    · simp
  | r + 1, pre => by
    rw [keysR_succ]
    split
    · have hs : ∀ n d, d + n = D → (sweep mk D r pre d).length ≤ n * 8 ^ r := by
        intro n
        induction n with
        | zero => intro d hd; rw [sweep_end mk r pre (by omega)]; simp
        | succ n ih =>
          intro d hd
          rw [sweep_len mk r pre (by omega)]
          have h1 := keysR_len mk D hD r (pre ++ [(d : Int)])
          have h2 := ih (d + 1) (by omega)
          rw [Nat.succ_mul]
          omega
      have := hs D 0 (by omega)
      have h3 : D * 8 ^ r ≤ 8 * 8 ^ r := Nat.mul_le_mul_right _ hD
      rw [Nat.pow_succ, Nat.mul_comm (8 ^ r) 8]
      omega
    · simp
theorem pow8_le {r : Nat} (h : r ≤ 6) : 8 ^ r ≤ 262144 := by
  have := Nat.pow_le_pow_right (show 0 < 8 by decide) h
  have e : 8 ^ 6 = 262144 := by decide
  omega

set_option maxRecDepth 20000 in
set_option maxHeartbeats 2000000 in
theorem l02Count_c (mk : MK) (ok : MkOk mk) : ∀ (r : Nat) (pre : List Int), pre.length + r = mk.c.toNat → ∀ (w : World) (v : Value) (z : Zone), IntsR z w v pre → Small pre →
    Calls Tryd.prog 25 #[mk.v, v] w (Ret w fun r' _ => r' = .int .i64 ((keysR mk mk.d.toNat r pre).length : Nat)) := by
  intro r
  induction r with
  | zero =>
    intro pre hl w v z h hs
    have HB := Lib.hid (fun (w' : World) (e : Ext w w') => l02Begins_c w' mk ok.m1 ok.s1 v z pre (stable_ints.ext h e) hs)
    have HK := Lib.hid (fun (w' : World) (e : Ext w w') => l02Kinds_c w' v z pre (stable_ints.ext h e))
    have HKR := Lib.hid (keysR_zero mk mk.d.toNat pre)
    have hc6 := ok.c6
    have hkl := @kinds_le6 pre
    generalize keysR mk mk.d.toNat 0 pre = res at *
    generalize begins mk pre = q at *
    generalize kinds pre = kk at *
    obtain ⟨c, d, s, m, l⟩ := mk
    unfold MK.v at *
    simp only at hl HKR hc6 HB ⊢
    obtain ⟨a, n, cap, rfl, hn, hmax, -⟩ := SliceR.shape h
    have hnc : (n : Int) = c := by omega
    have hb : ((n : Int) == c) = true := by rw [hnc]; simp
    clear h hs hn hl ok hnc
    go_enter Tryd.func25, Tryd.ntmps25
    go_wp2_with fail
    generalize hw0 : World.alloc _ _ = w0
    obtain ⟨e0, S0⟩ := mk_box (mk := ⟨c, d, s, m, l⟩) hw0
    clear hw0
    have HS := Lib.hid S0
    obtain ⟨c0, c1, c2, c3, c4⟩ := S0
    go_wp2_with fail
    refine Calls.mono (HB.out w0 e0) ?_
    rintro e w1 hr
    obtain ⟨r, rfl, rfl, e1⟩ := ret_ext hr
    clear hr c0 c1 c2 c3 c4
    obtain ⟨c0, c1, c2, c3, c4⟩ := HS.out.ext e1
    have et := e0.trans e1
    cases q with
    | false =>
      have HH : Hid (res = []) := by show _ = _; rw [HKR.out, if_neg (by decide)]
      clear HKR
      go_wp2_with fail
      go_ret
      exact ⟨_, rfl, by rw [HH.out]; rfl, et⟩
    | true =>
      have HKQ := Lib.hid (fun (w' : World) (e : Ext w1 w') => HK.out w' (et.trans e))
      by_cases hlk : l ≤ (kk : Int)
      · have HH : Hid (res = [pre]) := by show _ = _; rw [HKR.out, if_pos rfl, if_pos hlk]
        have hlt : ¬ ((kk : Int) < l) := by omega
        clear HKR HK HB
        go_wp2_with fail
        go_quiet ((go_at_call 40; exact RetQ.quiet (HKQ.out _ (Ext.drewN _ _))))
        go_wp2_with fail
        go_ret
        exact ⟨_, rfl, by rw [HH.out]; rfl, et.trans (Ext.drewN _ _)⟩
      · have HH : Hid (res = []) := by show _ = _; rw [HKR.out, if_pos rfl, if_neg hlk]
        have hlt : (kk : Int) < l := by omega
        clear HKR HK HB
        go_wp2_with fail
        go_quiet ((go_at_call 40; exact RetQ.quiet (HKQ.out _ (Ext.drewN _ _))))
        go_wp2_with fail
        go_ret
        exact ⟨_, rfl, by rw [HH.out]; rfl, et.trans (Ext.drewN _ _)⟩
  | succ r ih =>
    intro pre hl w v z h hs
    have HB := Lib.hid (fun (w' : World) (e : Ext w w') => l02Begins_c w' mk ok.m1 ok.s1 v z pre (stable_ints.ext h e) hs)
    have HOw := Lib.hid (fun (w' : World) (e : Ext w w') => l01Own_c w' v z pre (stable_ints.ext h e) (by have := ok.c6; omega))
    have HKR := Lib.hid (keysR_succ mk mk.d.toNat r pre)
    have HSt := Lib.hid (fun (d : Nat) (h : d < mk.d.toNat) => sweep_len mk r pre h)
    have HSe := Lib.hid (fun (d : Nat) (h : mk.d.toNat ≤ d) => sweep_end mk r pre h)
    have HIH := Lib.hid (fun (d : Nat) (h : d < mk.d.toNat) (w' : World) (u : Value) (y : Zone) (g : IntsR y w' u (pre ++ [(d : Int)])) => ih (pre ++ [(d : Int)]) (by rw [List.length_append, List.length_singleton]; omega) w' u y g (hs.snoc (by have := ok.d8; omega)))
    have HMp := Lib.hid (IntsR.mem h)
    have hc6 := ok.c6
    have hd8 := ok.d8
    have Hrl : Hid (pre.length ≤ 6) := by show _ ≤ _; omega
    have hres : (keysR mk mk.d.toNat (r + 1) pre).length ≤ 262144 := Nat.le_trans (keysR_len mk _ (by omega) (r + 1) pre) (pow8_le (by omega))
    generalize keysR mk mk.d.toNat (r + 1) pre = res at *
    generalize begins mk pre = q at *
    generalize sweep mk mk.d.toNat r pre = sw at *
    generalize keysR mk mk.d.toNat r = kR at *
    obtain ⟨c, dd, s, m, l⟩ := mk
    unfold MK.v at *
    simp only at hl HKR hc6 hd8 HB HSt HSe HIH ⊢
    obtain ⟨D, rfl⟩ := Int.eq_ofNat_of_zero_le (by omega : 0 ≤ dd)
    simp only [Int.toNat_natCast] at HSt HSe HIH
    obtain ⟨a, n, cap, rfl, hn, hmax, -⟩ := SliceR.shape h
    have hb : ((n : Int) == c) = false := by rw [beq_eq_false_iff_ne]; omega
    clear h hs hn hl ok ih
    go_enter Tryd.func25, Tryd.ntmps25
    go_wp2_with fail
    generalize hw0 : World.alloc _ _ = w0
    obtain ⟨e0, S0⟩ := mk_box (mk := ⟨c, D, s, m, l⟩) hw0
    clear hw0
    have HS := Lib.hid S0
    obtain ⟨c0, c1, c2, c3, c4⟩ := S0
    go_wp2_with fail
    refine Calls.mono (HB.out w0 e0) ?_
    rintro e w1 hr
    obtain ⟨r, rfl, rfl, e1⟩ := ret_ext hr
    clear hr c0 c1 c2 c3 c4
    replace HS := Lib.hid (HS.out.ext e1)
    obtain ⟨c0, c1, c2, c3, c4⟩ := HS.out
    have et := e0.trans e1
    cases q with
    | false =>
      have HH : Hid (res = []) := by show _ = _; rw [HKR.out, if_neg (by decide)]
      clear HKR
      go_wp2_with fail
      go_ret
      exact ⟨_, rfl, by rw [HH.out]; rfl, et⟩
    | true =>
      have HR0 : Hid (res = sw 0) := by show _ = _; rw [HKR.out, if_pos rfl]
      clear HKR HB
      go_wp2_with fail
      clear c0 c1 c2 c3 c4
      go_loopw [5, 6] (fun s5 s6 wr => ∃ d m : Nat, d ≤ D ∧ s6 = .int .i64 d ∧ s5 = .int .i64 (m : Nat) ∧ res.length = m + (sw d).length ∧ Ext w1 wr) (fun _ s6 _ => D - (intOf s6).toNat)
      case atStart => exact ⟨0, 0, Nat.zero_le _, rfl, rfl, by rw [HR0.out]; omega, Ext.refl _⟩
      case round =>
        obtain ⟨d, m0, hd, rfl, rfl, hres2, ew⟩ := hrel
        have Hres := Lib.hid hres2
        have etw := et.trans ew
        have HCel : Hid (∀ w', Ext wr w' → w'.cell? ⟨w.heap.size, 0, none⟩ = some (.int .i64 c) ∧ w'.cell? ⟨w.heap.size, 1, none⟩ = some (.int .i64 D) ∧ w'.cell? ⟨w.heap.size, 2, none⟩ = some (.int .i64 s) ∧ w'.cell? ⟨w.heap.size, 3, none⟩ = some (.int .i64 m) ∧ w'.cell? ⟨w.heap.size, 4, none⟩ = some (.int .i64 l)) := fun w' e => HS.out.ext (ew.trans e)
        obtain ⟨c0, c1, c2, c3, c4⟩ := HS.out.ext ew
        by_cases hlt : d < D
        · have HO := Lib.hid (fun (w' : World) (e : Ext wr w') => HOw.out w' (etw.trans e))
          have hstd := HSt.out d hlt
          have HId := Lib.hid (HIH.out d hlt)
          have hdI : I64 (d : Int) := by unfold I64; omega
          have HM : Hid (∀ x ∈ pre ++ [(d : Int)], I64 x) := fun x hx => by
            rcases List.mem_append.1 hx with h | h
            · exact HMp.out x h
            · rw [List.mem_singleton.1 h]; exact hdI
          generalize (kR (pre ++ [(d : Int)])).length = g at *
          have hR1 : res.length = (m0 + g) + (sw (d + 1)).length := by omega
          have hmg : m0 + g ≤ 262144 := by omega
          have HR1 := Lib.hid hR1
          have Hwr : Hid (IntKind.i64.wrap ((m0 : Int) + (g : Int)) = ((m0 + g : Nat) : Int)) := by show _ = _; rw [IntWalk.i64_in _ (by omega)]; omega
          clear HIH HSt hres2 hstd hR1
          go_wp2_with fail
          go_region_held3 (fun w' => w'.cell? ⟨w.heap.size, 0, none⟩ = some (.int .i64 c) ∧ w'.cell? ⟨w.heap.size, 1, none⟩ = some (.int .i64 D) ∧ w'.cell? ⟨w.heap.size, 2, none⟩ = some (.int .i64 s) ∧ w'.cell? ⟨w.heap.size, 3, none⟩ = some (.int .i64 m) ∧ w'.cell? ⟨w.heap.size, 4, none⟩ = some (.int .i64 l)) (exact HCel.out _ (by repeat (first | exact Ext.refl _ | assumption | (refine Ext.trans ?_ (Ext.alloc _ _)) | (refine Ext.trans ?_ (Ext.drew _)) | (refine Ext.trans ?_ (by assumption))))) (first | (go_at_call 41; (with_reducible refine (HO.out _ (by repeat (first | exact Ext.refl _ | assumption | (refine Ext.trans ?_ (Ext.alloc _ _)) | (refine Ext.trans ?_ (Ext.drew _)) | (refine Ext.trans ?_ (by assumption))))).mono ?_); rintro e w7 hr7; obtain ⟨r7, rfl, o7, e7⟩ := ret_ext hr7; clear hr7; have o7' := OwnP.lower (B' := wr.heap.size) o7 (Ext.size (by repeat (first | exact Ext.refl _ | assumption | (refine Ext.trans ?_ (Ext.alloc _ _)) | (refine Ext.trans ?_ (Ext.drew _)) | (refine Ext.trans ?_ (by assumption))))); obtain ⟨a7, n7, k7, rfl, -⟩ := OwnP.shape o7') | (refine step_append_of (by rfl) _ _ 28 (by rfl) (by rfl) (by rfl) (fun ty => run_appendR (f := Value.int .i64) (B := wr.heap.size) 28 ty 0 8 Tryd.underlying28 Tryd.infoI64 rfl (fun _ => rfl) (OwnP.ext o7' (by repeat (first | exact Ext.refl _ | assumption | (refine Ext.trans ?_ (Ext.alloc _ _)) | (refine Ext.trans ?_ (Ext.drew _)) | (refine Ext.trans ?_ (by assumption))))) (E := IntR) (fun h => h.1) (ys := [(d : Int)]) (by first | exact ints_one _ (d : Int) _ hdI | exact stable_ints.ext (ints_one _ (d : Int) _ hdI) (by repeat (first | exact Ext.refl _ | assumption | (refine Ext.trans ?_ (Ext.alloc _ _)) | (refine Ext.trans ?_ (Ext.drew _)) | (refine Ext.trans ?_ (by assumption))))) (by have := Hrl.out; rw [List.length_singleton]; omega) (by decide) (Ext.size (by repeat (first | exact Ext.refl _ | assumption | (refine Ext.trans ?_ (Ext.alloc _ _)) | (refine Ext.trans ?_ (Ext.drew _)) | (refine Ext.trans ?_ (by assumption)))))) ?_; intro v8 w8 h8; obtain ⟨o8, -, b8, -⟩ := h8; have e8 : Ext wr w8 := Ext.to' (a := wr) (by repeat (first | exact Ext.refl _ | assumption | (refine Ext.trans ?_ (Ext.alloc _ _)) | (refine Ext.trans ?_ (Ext.drew _)) | (refine Ext.trans ?_ (by assumption)))) b8; clear b8; have i8 := OwnP.ints o8 HM.out (Nat.le_refl _); obtain ⟨a8, n8, k8, rfl, -⟩ := OwnP.shape o8) | (go_at_call 25; refine (HId.out _ _ _ (stable_ints.ext i8 (by repeat (first | exact Ext.refl _ | assumption | (refine Ext.trans ?_ (Ext.alloc _ _)) | (refine Ext.trans ?_ (Ext.drew _)) | (refine Ext.trans ?_ (by assumption)))))).mono ?_; rintro e w9 hr9; obtain ⟨r9, rfl, rfl, e9⟩ := ret_ext hr9; clear hr9; have e99 : Ext wr w9 := (by repeat (first | exact Ext.refl _ | assumption | (refine Ext.trans ?_ (Ext.alloc _ _)) | (refine Ext.trans ?_ (Ext.drew _)) | (refine Ext.trans ?_ (by assumption))))) | fail)
          all_goals (go_wp2_with fail; go_roundw)
          any_goals (simp [intOf]; omega)
          all_goals exact ⟨d + 1, m0 + g, by omega, by go_num, by first | exact congrArg (Value.int .i64) Hwr.out | go_num, HR1.out, ew.trans e99⟩
        · have hR1 : res.length = m0 := by rw [HSe.out d (by omega)] at hres2; simpa using hres2
          have HR1 := Lib.hid hR1
          clear hres2 hR1
          go_wp2_with fail
          go_ret
          exact ⟨_, rfl, by rw [HR1.out]; rfl, etw⟩

open Go.ChangeShapes Go.WideShapes Go.ChangeAt Go.RowKit
set_option linter.unusedVariables false

theorem cut_all {σ : Type} {Fv : FuncId} {caps : Array Value} {Inv : (Nat → Prop) → σ → World → Prop} {step : σ → List Int → σ} {more : σ → List Int → Bool} {Ok : List Int → Prop} (V : VisitOk Fv caps Inv step more Ok)
    (mk : MK) (ok : MkOk mk) {bk bm bv bf ba bc B : Nat} {X : Nat → Prop} (hbk : X bk) (hne : ∀ k, k = bm ∨ k = bv ∨ k = bf ∨ k = ba ∨ k = bc → X k ∧ k ≠ bk) : ∀ (r : Nat)
    (pre : List Int), pre.length + r = mk.c.toNat → begins mk pre = true → Small pre → (∀ k ∈ keysR mk mk.d.toNat r pre, Ok k) → ∀ (F : Nat → Prop) (s : σ) (w : World) (kv : Value), Inv F s w → Boxes w mk bk bm bv bf ba bc (.func (.func Fv) #[] caps) → KeyAt w bk X B kv pre → Apart3 F X kv → Room X B w →
      Calls Tryd.prog 61 #[.bool false, .pointer (some ⟨bk, 0, none⟩), .pointer (some ⟨bm, 0, none⟩), .pointer (some ⟨bv, 0, none⟩), .pointer (some ⟨bf, 0, none⟩), .pointer (some ⟨ba, 0, none⟩), .pointer (some ⟨bc, 0, none⟩)] w
        (CutEnd Inv F bk X B kv pre w (visits step more s (keysR mk mk.d.toNat r pre)))
  | 0, pre, hl, hb, hs, hOk, F, s, w, kv, hI, hB, hK, hA, hBw => cut_zero V mk ok hbk pre hl hb hOk F s w kv hI hB hK (Small.i64 hs) hA hBw
  | r + 1, pre, hl, hb, hs, hOk, F, s, w, kv, hI, hB, hK, hA, hBw => cut_succ V mk ok hbk hne r (cut_all V mk ok hbk hne r) pre hl hb hs hOk F s w kv hI hB hK hA hBw

/-- what a visit of all keys leaves -/
def EachEnd {σ : Type} (Inv : (Nat → Prop) → σ → World → Prop) (F : Nat → Prop) (w : World) (x : σ) (e : Ending) (w' : World) : Prop := e = .returned (.tuple #[]) ∧ ∃ F', Inv F' x w' ∧ (∀ k, F' k → F k ∨ w.heap.size ≤ k) ∧ Frame F w w'

set_option maxRecDepth 20000 in
set_option maxHeartbeats 2000000 in
theorem eachKey_c {σ : Type} {Fv : FuncId} {caps : Array Value} {Inv : (Nat → Prop) → σ → World → Prop} {step : σ → List Int → σ} {more : σ → List Int → Bool} {Ok : List Int → Prop} (V : VisitOk Fv caps Inv step more Ok)
    (mk : MK) (ok : MkOk mk) (hOk : ∀ k ∈ allK mk, Ok k) (F : Nat → Prop) (s : σ) (w : World) (hI : Inv F s w) :
    Calls Tryd.prog 50 #[mk.v, .slice none 0 0, .nilFunc, .func (.func Fv) #[] caps] w (EachEnd Inv F w (visits step more s (allK mk)).1) := by
  have hGo := Tryd.goesEachKey1
  unfold Goes at hGo
  have hnn := fun (w' : World) => run_neq_slice_nil_any (P := Tryd.prog) w' 28 2 none 0 0 0 0 Tryd.underlying28
  have hfr : ∀ k, F k → k < w.heap.size := V.fresh hI
  have HC := Lib.hid (fun (w' : World) (e : Ext w w') (sz : w'.heap.size = w.heap.size + 7) (hB : Boxes w' mk (w.heap.size + 5) w.heap.size (w.heap.size + 3) (w.heap.size + 1) (w.heap.size + 2) (w.heap.size + 6) (.func (.func Fv) #[] caps)) (hK : KeyAt w' (w.heap.size + 5) (fun k => w.heap.size ≤ k ∧ k < w.heap.size + 7 ∧ k ≠ w.heap.size + 4) w.heap.size (.slice (some ⟨w.heap.size + 4, 0, none⟩) 0 0) []) =>
    cut_all V mk ok (bk := w.heap.size + 5) (bm := w.heap.size) (bv := w.heap.size + 3) (bf := w.heap.size + 1) (ba := w.heap.size + 2) (bc := w.heap.size + 6) (B := w.heap.size) (X := fun k => w.heap.size ≤ k ∧ k < w.heap.size + 7 ∧ k ≠ w.heap.size + 4)
      (by show _ ∧ _; omega) (fun k hk => by show (_ ∧ _) ∧ _; omega) mk.c.toNat [] (by simp) (begins_nil (by have := ok.m1; omega)) (fun i hi => by simp at hi) hOk F s w' _ (V.keep hI (fun k hk => Below.block e k (hfr k hk)) e.size) hB hK ⟨fun k hk hx => by have := hfr k hk; omega, fun k hk he => by have := hfr k hk; injection he with he; simp only at he; omega⟩ ⟨by omega, fun k hk => by omega⟩)
  have HF := Lib.hid hfr
  clear hI hOk hfr
  unfold MK.v
  go_enter Tryd.func50, Tryd.ntmps50
  go_wp2_with fail
  generalize hw7 : World.alloc _ _ = w7
  have e7 : Ext w w7 := by rw [← hw7]; exact (((((((Ext.alloc _ _).trans (Ext.alloc _ _)).trans (Ext.alloc _ _)).trans (Ext.alloc _ _)).trans (Ext.alloc _ _)).trans (Ext.alloc _ _)).trans (Ext.alloc _ _))
  have s7 : w7.heap.size = w.heap.size + 7 := by rw [← hw7]; simp
  have hB7 : Boxes w7 mk (w.heap.size + 5) w.heap.size (w.heap.size + 3) (w.heap.size + 1) (w.heap.size + 2) (w.heap.size + 6) (.func (.func Fv) #[] caps) := by
    rw [← hw7]; clear hw7 e7 s7 HC
    refine ⟨⟨?_, ?_, ?_, ?_, ?_⟩, ?_, ?_, ?_, ?_⟩ <;> go_simp
  have hK7 : KeyAt w7 (w.heap.size + 5) (fun k => w.heap.size ≤ k ∧ k < w.heap.size + 7 ∧ k ≠ w.heap.size + 4) w.heap.size (.slice (some ⟨w.heap.size + 4, 0, none⟩) 0 0) [] := by
    rw [← hw7]; clear hw7 e7 s7 hB7 HC
    refine ⟨by go_simp, by go_simp, ?_, fun k hk hx => by injection hk with hk; simp only at hk; omega⟩
    refine OwnP.alloc (OwnP.alloc ?_ _) _
    have := OwnP.empty (f := Value.int .i64) (e := 2) (B := w.heap.size) (w := (((w.alloc (.cells #[.int .i64 mk.c, .int .i64 mk.d, .int .i64 mk.s, .int .i64 mk.m, .int .i64 mk.l] 25)).alloc (.cells #[.slice none 0 0] 28)).alloc (.cells #[.nilFunc] 67)).alloc (.cells #[.func (.func Fv) #[] caps] 66)) (by simp; omega)
    simp only [World.size_alloc] at this
    exact this
  clear hw7
  refine Calls.mono (HC.out w7 e7 s7 hB7 hK7) ?_
  intro e w8 h8
  obtain ⟨rfl, F8, kv8, hI8, -, -, hg8, -, hf8⟩ := h8
  have HR : Hid (EachEnd Inv F w (visits step more s (allK mk)).1 (.returned (.tuple #[])) w8) := by
    refine ⟨rfl, F8, hI8, fun k hk => (hg8 k hk).elim .inl (fun q => .inr (by omega)), ?_⟩
    exact Frame.trans (Frame.of_ext (F := F) e7) hf8 (fun i hi hlt => by
      rcases hi with q | q | q
      · exact q
      · omega
      · injection q with q; simp only at q; omega)
  go_wp2_with fail
  go_end0
  exact HR.out

open Go.ChangeShapes Go.WideShapes Go.ChangeAt Go.RowKit
set_option linter.unusedVariables false

/-- what was there at w0, but for the blocks of F0, is there as it was -/
structure Kept (F0 : Nat → Prop) (w0 w : World) : Prop where
  size : w0.heap.size ≤ w.heap.size
  block : ∀ k, k < w0.heap.size → ¬ F0 k → w.heap[k]? = w0.heap[k]?
theorem Kept.refl (F0 : Nat → Prop) (w : World) : Kept F0 w w := ⟨Nat.le_refl _, fun _ _ _ => rfl⟩
theorem Kept.read {α : Type} {E : Repr α} (hE : Stable E) {F0 : Nat → Prop} {w0 w : World} {z : Zone} {v : Value} {x : α} (h : Kept F0 w0 w) (r : E z w0 v x) (hz : ∀ k, z.Has k → ¬ F0 k) : E z w v x := hE.keep r (fun k hk hl => h.block k hl (hz k hk))
theorem Kept.cell {F0 : Nat → Prop} {w0 w : World} (h : Kept F0 w0 w) {p : Addr} {u : Value} (hp : ¬ F0 p.block) (hc : w0.cell? p = some u) : w.cell? p = some u := (World.cell?_of_block (h.block p.block (World.block_lt_of_cell? _ _ hc) hp)).trans hc
theorem Kept.ext {F0 : Nat → Prop} {w0 w w' : World} (h : Kept F0 w0 w) (e : Ext w w') : Kept F0 w0 w' := ⟨Nat.le_trans h.size e.size, fun k hk hn => (Below.block e k (Nat.lt_of_lt_of_le hk h.size)).trans (h.block k hk hn)⟩
theorem Kept.back {F0 : Nat → Prop} {w0 w1 w : World} (h : Kept F0 w1 w) (e : Ext w0 w1) : Kept F0 w0 w := ⟨Nat.le_trans e.size h.size, fun k hk hn => (h.block k (Nat.lt_of_lt_of_le hk e.size) hn).trans (Below.block e k hk)⟩
/-- what a visit does that may read what was there -/
structure VisitK {σ : Type} (Fv : FuncId) (caps : Array Value) (w0 : World) (F0 : Nat → Prop) (Inv : (Nat → Prop) → σ → World → Prop) (step : σ → List Int → σ) (more : σ → List Int → Bool) (Ok : List Int → Prop) : Prop where
  goes : Goes Tryd.prog Fv
  keep : ∀ {F s w w'}, Inv F s w → (∀ k, F k → w'.heap[k]? = w.heap[k]?) → w.heap.size ≤ w'.heap.size → Inv F s w'
  fresh : ∀ {F s w}, Inv F s w → ∀ k, F k → k < w.heap.size
  call : ∀ {F s} (w : World) (v : Value) (z : Zone) (key : List Int), Inv F s w → (∀ k, F k → F0 k ∨ w0.heap.size ≤ k) → Kept F0 w0 w → IntsR z w v key → (∀ k, z.Has k → ¬ F k) → Ok key → Calls Tryd.prog Fv (#[v] ++ caps) w (fun e w' => e = .returned (.bool (more s key)) ∧ ∃ F', Inv F' (step s key) w' ∧ (∀ k, F' k → F k ∨ w.heap.size ≤ k) ∧ Frame F w w')
/-- .. its state with all that was there -/
def InvK {σ : Type} (Inv : (Nat → Prop) → σ → World → Prop) (w0 : World) (F0 : Nat → Prop) (G : Nat → Prop) (s : σ) (w : World) : Prop :=
  (∀ k, G k → k < w.heap.size) ∧ (∀ k, k < w0.heap.size → G k) ∧ Kept F0 w0 w ∧ ∃ F, Inv F s w ∧ (∀ k, F k → G k) ∧ ∀ k, F k → F0 k ∨ w0.heap.size ≤ k
theorem VisitK.ok {σ : Type} {Fv : FuncId} {caps : Array Value} {w0 : World} {F0 : Nat → Prop} {Inv : (Nat → Prop) → σ → World → Prop} {step : σ → List Int → σ} {more : σ → List Int → Bool} {Ok : List Int → Prop} (V : VisitK Fv caps w0 F0 Inv step more Ok) : VisitOk Fv caps (InvK Inv w0 F0) step more Ok where
  goes := V.goes
  keep := by
    rintro G s w w' ⟨h1, h2, h3, F, h4, h5, h6⟩ hb hs
    exact ⟨fun k hk => Nat.lt_of_lt_of_le (h1 k hk) hs, h2, ⟨Nat.le_trans h3.size hs, fun k hk hn => (hb k (h2 k hk)).trans (h3.block k hk hn)⟩, F, V.keep h4 (fun k hk => hb k (h5 k hk)) hs, h5, h6⟩
  fresh := fun h => h.1
  call := by
    rintro G s w v z key ⟨h1, h2, h3, F, h4, h5, h6⟩ hr hz hok
    refine (V.call w v z key h4 h6 h3 hr (fun k hk q => hz k hk (h5 k q)) hok).mono ?_
    rintro e w' ⟨rfl, F', i', g', f'⟩
    refine ⟨rfl, fun k => G k ∨ F' k, ⟨fun k hk => ?_, fun k hk => .inl (h2 k hk), ⟨Nat.le_trans h3.size f'.size, fun k hk hn => ?_⟩, F', i', fun k hk => .inr hk, fun k hk => ?_⟩, fun k hk => ?_, f'.mono (fun i hi _ => h5 i hi)⟩
    · rcases hk with hk | hk
      · exact Nat.lt_of_lt_of_le (h1 k hk) f'.size
      · exact V.fresh i' k hk
    · rw [f'.block k (Nat.lt_of_lt_of_le hk h3.size) (fun q => ?_)]
      · exact h3.block k hk hn
      · rcases h6 k q with q | q
        · exact hn q
        · omega
    · rcases g' k hk with q | q
      · exact h6 k q
      · exact .inr (Nat.le_trans h3.size q)
    · rcases hk with hk | hk
      · exact .inl hk
      · rcases g' k hk with q | q
        · exact .inl (h5 k q)
        · exact .inr q

theorem eachKeyK_c {σ : Type} {Fv : FuncId} {caps : Array Value} {Inv : (Nat → Prop) → σ → World → Prop} {step : σ → List Int → σ} {more : σ → List Int → Bool} {Ok : List Int → Prop} {w : World} {F0 : Nat → Prop} (V : VisitK Fv caps w F0 Inv step more Ok)
    (mk : MK) (ok : MkOk mk) (hOk : ∀ k ∈ allK mk, Ok k) (s : σ) (hI : Inv F0 s w) :
    Calls Tryd.prog 50 #[mk.v, .slice none 0 0, .nilFunc, .func (.func Fv) #[] caps] w (EachEnd Inv F0 w (visits step more s (allK mk)).1) := by
  refine (eachKey_c V.ok mk ok hOk (fun k => k < w.heap.size) s w ⟨fun k hk => hk, fun k hk => hk, Kept.refl _ _, F0, hI, V.fresh hI, fun k hk => .inl hk⟩).mono ?_
  rintro e w' ⟨rfl, G, ⟨g1, g2, g3, F', i', g4, g5⟩, g6, g7⟩
  exact ⟨rfl, F', i', g5, ⟨g7.os, g7.tape, g7.output, g7.size, fun k hk hn => g3.block k hk hn⟩⟩
theorem visits_filter {σ : Type} {step : σ → List Int → σ} {more : σ → List Int → Bool} {p : List Int → Bool} : ∀ (L : List (List Int)) (s : σ), visits (fun s k => if p k = true then step s k else s) (fun s k => !p k || more s k) s L = visits step more s (L.filter p)
  | [], s => rfl
  | k :: L, s => by
    have e1 : visits (fun s k => if p k = true then step s k else s) (fun s k => !p k || more s k) s (k :: L) = if (!p k || more s k) = true then visits (fun s k => if p k = true then step s k else s) (fun s k => !p k || more s k) (if p k = true then step s k else s) L else ((if p k = true then step s k else s), false) := rfl
    rw [e1]
    cases h : p k with
    | false =>
      rw [List.filter_cons_of_neg (by rw [h]; decide)]
      simp only [Bool.not_false, Bool.true_or, if_true, Bool.false_eq_true, if_false]
      exact visits_filter L s
    | true =>
      rw [List.filter_cons_of_pos h]
      have e2 : visits step more s (k :: L.filter p) = if more s k = true then visits step more (step s k) (L.filter p) else (step s k, false) := rfl
      rw [e2]
      simp only [Bool.not_true, Bool.false_or, if_true]
      cases hm : more s k with
      | true => simp only [if_true]; exact visits_filter L (step s k)
      | false => simp

open Go.ChangeShapes Go.WideShapes Go.ChangeAt Go.RowKit
set_option linter.unusedVariables false

theorem Tryd.goesCountKeys1 : Goes Tryd.prog 53 := goes_of Tryd.func53 (by kernel_rfl) (by kernel_rfl)
/-- a counter in a block of its own -/
structure CntInv (b : Nat) (F : Nat → Prop) (s : Int) (w : World) : Prop where
  cell : w.cell? ⟨b, 0, none⟩ = some (.int .i64 s)
  free : w.frozen? ⟨b, 0, none⟩ = false
  box : F b
  lt : ∀ k, F k → k < w.heap.size
theorem CntInv.keep {b : Nat} {F : Nat → Prop} {s : Int} {w w' : World} (h : CntInv b F s w) (hb : ∀ k, F k → w'.heap[k]? = w.heap[k]?) (hs : w.heap.size ≤ w'.heap.size) : CntInv b F s w' :=
  ⟨(World.cell?_of_block (a := ⟨b, 0, none⟩) (hb b h.box)).trans h.cell, (World.frozen?_of_block (a := ⟨b, 0, none⟩) (hb b h.box)).trans h.free, h.box, fun k hk => Nat.lt_of_lt_of_le (h.lt k hk) hs⟩
theorem CntInv.set {b : Nat} {F : Nat → Prop} {s : Int} {w : World} (h : CntInv b F s w) (x : Int) : CntInv b F x (w.setCell ⟨b, 0, none⟩ (.int .i64 x)) ∧ Frame F w (w.setCell ⟨b, 0, none⟩ (.int .i64 x)) := by
  have hsz : (w.setCell ⟨b, 0, none⟩ (.int .i64 x)).heap.size = w.heap.size := setCell_size _ _ _
  refine ⟨⟨World.cell?_setCell_same _ _ _ h.cell, by rw [World.frozen?_setCell]; exact h.free, h.box, fun k hk => by rw [hsz]; exact h.lt k hk⟩, rfl, rfl, rfl, by omega, fun k hk hn => ?_⟩
  exact Below.heap_setCell _ _ _ _ (fun e => hn (e ▸ h.box))
def cntStep (s : Int) (_ : List Int) : Int := wrap64 (s + 1)
def cntMore (_ : Int) (_ : List Int) : Bool := true
theorem visits_cnt : ∀ (L : List (List Int)) (s : Nat), s + L.length ≤ 1000000 → (visits cntStep cntMore (s : Int) L).1 = ((s + L.length : Nat) : Int)
  | [], s, _ => rfl
  | k :: L, s, h => by
    rw [List.length_cons] at h
    have e : visits cntStep cntMore (s : Int) (k :: L) = visits cntStep cntMore (cntStep s k) L := rfl
    have e2 : cntStep (s : Int) k = ((s + 1 : Nat) : Int) := by unfold cntStep; unfold wrap64; omega
    rw [e, e2, visits_cnt L (s + 1) (by omega), List.length_cons]
    congr 1; omega

set_option maxRecDepth 20000 in
set_option maxHeartbeats 2000000 in
theorem countKeys1_c {b : Nat} {F : Nat → Prop} {s : Int} (w : World) (v : Value) (z : Zone) (key : List Int) (hI : CntInv b F s w) (hk : IntsR z w v key) :
    Calls Tryd.prog 53 #[v, .pointer (some ⟨b, 0, none⟩)] w (fun e w' => e = .returned (.bool true) ∧ ∃ F', CntInv b F' (cntStep s key) w' ∧ (∀ k, F' k → F k ∨ w.heap.size ≤ k) ∧ Frame F w w') := by
  have HS := Lib.hid (hI.set (wrap64 (s + 1)))
  have hc := hI.cell
  have hf := hI.free
  obtain ⟨a, n, c, rfl, -⟩ := SliceR.shape hk
  clear hI hk
  go_enter Tryd.func53, Tryd.ntmps53
  go_wp2_with fail
  go_ret
  exact ⟨rfl, F, HS.out.1, fun k hk => .inl hk, HS.out.2⟩

theorem visitCnt {b : Nat} {w0 : World} {F0 : Nat → Prop} :
    VisitK 53 #[.pointer (some ⟨b, 0, none⟩)] w0 F0 (CntInv b) cntStep cntMore (fun _ => True) where
  goes := Tryd.goesCountKeys1
  keep := fun h hk hs => h.keep hk hs
  fresh := fun h => h.lt
  call := by
    rintro F s w v z key hI hF hK hr _ _
    exact countKeys1_c w v z key hI hr
theorem cnt_new {w2 : World} : CntInv w2.heap.size (fun k => k = w2.heap.size) 0 (w2.alloc (.cells #[.int .i64 0] 2)) :=
  ⟨by simp, by simp, rfl, fun k hk => by rw [hk]; simp⟩

set_option maxRecDepth 20000 in
set_option maxHeartbeats 2000000 in
theorem countKeys_c (w : World) (mk : MK) (ok : MkOk mk) :
    Calls Tryd.prog 34 #[mk.v, .nilFunc] w (Ret w fun r _ => r = .int .i64 ((allK mk).length : Nat)) := by
  have hlen : (allK mk).length ≤ 262144 := by
    have h1 := keysR_len mk mk.d.toNat (by have := ok.d8; omega) mk.c.toNat []
    have h2 := pow8_le (r := mk.c.toNat) (by have := ok.c6; omega)
    exact Nat.le_trans h1 h2
  have HE := Lib.hid (fun (w' : World) (b : Nat) (F0 : Nat → Prop) (hI : CntInv b F0 0 w') => eachKeyK_c (visitCnt (b := b) (w0 := w') (F0 := F0)) mk ok (fun _ _ => trivial) 0 hI)
  have HV2 : Hid ((visits cntStep cntMore 0 (allK mk)).1 = ((allK mk).length : Int)) := by
    have h3 := visits_cnt (allK mk) 0 (by omega)
    rw [Nat.zero_add] at h3
    exact h3
  generalize (visits cntStep cntMore 0 (allK mk)).1 = cl at *
  generalize hA : allK mk = AK at *
  generalize AK.length = N at *
  clear hlen ok hA
  have hGo := Tryd.goesCountKeys1
  unfold Goes at hGo
  obtain ⟨c, d, s, m, l⟩ := mk
  unfold MK.v at *
  simp only at HE ⊢
  go_enter Tryd.func34, Tryd.ntmps34
  go_wp2_with fail
  generalize hw2 : World.alloc w _ = w1
  obtain ⟨e1, S1⟩ := mk_box (mk := ⟨c, d, s, m, l⟩) hw2
  have hz : w1.heap.size = w.heap.size + 1 := by subst hw2; simp
  clear hw2 S1
  have HC := cnt_new (w2 := w1)
  rw [hz] at HC
  have e3 : Ext w1 (w1.alloc (.cells #[.int .i64 0] 2)) := Ext.alloc _ _
  generalize hw3 : World.alloc w1 _ = w3 at HC e3 ⊢
  clear hw3
  refine Calls.mono (HE.out w3 (w.heap.size + 1) _ HC) ?_
  rintro e w4 ⟨rfl, F', i4, g4, f4⟩
  have hc4 := i4.cell
  have HX : Hid (Ext w w4) := (Frame.trans (Frame.of_ext (F := fun k => k = w.heap.size + 1) (e1.trans e3)) f4 (fun i hi _ => hi)).below (B := w.heap.size) (fun k hk => by rw [hk]; omega) (Nat.le_refl _)
  clear i4 g4 f4 HC HE
  go_wp2_with fail
  go_ret
  exact ⟨_, rfl, by rw [HV2.out]; rfl, HX.out⟩

set_option maxRecDepth 20000 in
set_option maxHeartbeats 2000000 in
theorem CountKeys_c (w : World) (mk : MK) :
    Calls Tryd.prog 22 #[mk.v] w (Ret w fun r _ => r = if isMaker mk = true then .tuple #[.int .i64 ((allK mk).length : Nat), .int .i64 0] else .tuple #[.int .i64 0, .int .i64 1]) := by
  have HM := Lib.hid (fun (w' : World) => IsMaker_c w' mk)
  have HK := Lib.hid (fun (w' : World) (h : isMaker mk = true) => countKeys_c w' mk (mkOk h))
  generalize isMaker mk = q at *
  generalize (allK mk).length = N at *
  obtain ⟨c, d, s, m, l⟩ := mk
  unfold MK.v at *
  go_enter Tryd.func22, Tryd.ntmps22
  go_wp2_with fail
  generalize hw2 : World.alloc w _ = w1
  obtain ⟨e1, S1⟩ := mk_box (mk := ⟨c, d, s, m, l⟩) hw2
  clear hw2
  have HS := Lib.hid S1
  obtain ⟨c0, c1, c2, c3, c4⟩ := S1
  go_wp2_with fail
  refine Calls.mono (HM.out w1) ?_
  rintro e w2 hr
  obtain ⟨r, rfl, rfl, e2⟩ := ret_ext hr
  clear hr c0 c1 c2 c3 c4
  obtain ⟨c0, c1, c2, c3, c4⟩ := HS.out.ext e2
  cases q with
  | false =>
    go_wp2_with fail
    go_ret2
    exact ⟨_, rfl, rfl, e1.trans e2⟩
  | true =>
    have HK2 := Lib.hid (HK.out w2 rfl)
    clear HK
    go_wp2_with fail
    refine Calls.mono HK2.out ?_
    rintro e w3 hr
    obtain ⟨r, rfl, rfl, e3⟩ := ret_ext hr
    go_wp2_with fail
    go_ret2
    exact ⟨_, rfl, rfl, (e1.trans e2).trans e3⟩

open Go.ChangeShapes Go.WideShapes Go.ChangeAt Go.RowKit
set_option linter.unusedVariables false
open Go.Shelf

def Tryd.fmtInt_ren : Go.Shelf.Ren := ⟨fun | 173 => 55 | 246 => 65 | 283 => 74 | 284 => 75 | 285 => 76 | 286 => 77 | 129 => 86 | 317 => 85 | 318 => 87 | 319 => 88 | 320 => 89 | 337 => 93 | 338 => 94 | n => n, fun | 2 => 2 | 3 => 3 | 9 => 9 | 4 => 4 | 171 => 87 | 0 => 0 | 53 => 88 | 37 => 63 | 5 => 5 | 173 => 91 | 212 => 102 | 51 => 93 | 20 => 20 | 213 => 103 | 46 => 72 | 232 => 111 | 233 => 112 | n => n, fun | 17 => 0 | 18 => 2 | 19 => 3 | n => n⟩
theorem Tryd.fmtInt : Go.Proofs.LaysM.n173 Tryd.prog Tryd.fmtInt_ren := {
  mixed := by kernel_rfl
  f129 := Tryd.func86.trans (congrArg some (by kernel_rfl))
  f173 := Tryd.func55.trans (congrArg some (by kernel_rfl))
  f246 := Tryd.func65.trans (congrArg some (by kernel_rfl))
  f283 := Tryd.func74.trans (congrArg some (by kernel_rfl))
  f284 := Tryd.func75.trans (congrArg some (by kernel_rfl))
  f285 := Tryd.func76.trans (congrArg some (by kernel_rfl))
  f286 := Tryd.func77.trans (congrArg some (by kernel_rfl))
  f317 := Tryd.func85.trans (congrArg some (by kernel_rfl))
  f318 := Tryd.func87.trans (congrArg some (by kernel_rfl))
  f319 := Tryd.func88.trans (congrArg some (by kernel_rfl))
  f320 := Tryd.func89.trans (congrArg some (by kernel_rfl))
  f337 := Tryd.func93.trans (congrArg some (by kernel_rfl))
  f338 := Tryd.func94.trans (congrArg some (by kernel_rfl))
  t0 := Tryd.underlying0
  a0 := Tryd.isAgg0
  z0 := Tryd.sizeOf0
  v0 := Tryd.zeroValue0
  t2 := Tryd.underlying2
  a2 := Tryd.isAgg2
  z2 := Tryd.sizeOf2
  v2 := Tryd.zeroValue2
  t3 := Tryd.underlying3
  a3 := Tryd.isAgg3
  z3 := Tryd.sizeOf3
  v3 := Tryd.zeroValue3
  t4 := Tryd.underlying4
  a4 := Tryd.isAgg4
  z4 := Tryd.sizeOf4
  v4 := Tryd.zeroValue4
  t5 := Tryd.underlying5
  a5 := Tryd.isAgg5
  z5 := Tryd.sizeOf5
  v5 := Tryd.zeroValue5
  t9 := Tryd.underlying9
  a9 := Tryd.isAgg9
  z9 := Tryd.sizeOf9
  v9 := Tryd.zeroValue9
  t20 := Tryd.underlying20
  a20 := Tryd.isAgg20
  z20 := Tryd.sizeOf20
  v20 := Tryd.zeroValue20
  t37 := Tryd.underlying63
  a37 := Tryd.isAgg63
  z37 := Tryd.sizeOf63
  v37 := Tryd.zeroValue63
  t46 := Tryd.underlying72
  a46 := Tryd.isAgg72
  z46 := Tryd.sizeOf72
  v46 := Tryd.zeroValue72
  t51 := Tryd.underlying93
  a51 := Tryd.isAgg93
  z51 := Tryd.sizeOf93
  v51 := Tryd.zeroValue93
  t53 := Tryd.underlying88
  a53 := Tryd.isAgg88
  z53 := Tryd.sizeOf88
  v53 := Tryd.zeroValue88
  t171 := Tryd.underlying87
  a171 := Tryd.isAgg87
  z171 := Tryd.sizeOf87
  v171 := Tryd.zeroValue87
  t173 := Tryd.underlying91
  a173 := Tryd.isAgg91
  z173 := Tryd.sizeOf91
  v173 := Tryd.zeroValue91
  t212 := Tryd.underlying102
  a212 := Tryd.isAgg102
  z212 := Tryd.sizeOf102
  v212 := Tryd.zeroValue102
  t213 := Tryd.underlying103
  a213 := Tryd.isAgg103
  z213 := Tryd.sizeOf103
  t232 := Tryd.underlying111
  a232 := Tryd.isAgg111
  z232 := Tryd.sizeOf111
  v232 := Tryd.zeroValue111
  t233 := Tryd.underlying112
  a233 := Tryd.isAgg112
  z233 := Tryd.sizeOf112
  v233 := Tryd.zeroValue112
  g17 := by kernel_rfl
  g18 := by kernel_rfl
  g19 := by kernel_rfl
  i0 := by kernel_rfl
  i2 := by kernel_rfl
  i3 := by kernel_rfl
  i4 := by kernel_rfl
  i5 := by kernel_rfl
  i9 := by kernel_rfl
  i20 := by kernel_rfl
  i37 := by kernel_rfl
  i46 := by kernel_rfl
  i51 := by kernel_rfl
  i53 := by kernel_rfl
  i171 := by kernel_rfl
  i173 := by kernel_rfl
  i212 := by kernel_rfl
  i232 := by kernel_rfl
  i233 := by kernel_rfl
  m17 := by kernel_rfl
  m18 := by kernel_rfl
  m19 := by kernel_rfl }

open Go.ChangeShapes Go.WideShapes Go.ChangeAt Go.RowKit
set_option linter.unusedVariables false

/-- the library's table of powers of ten -/
def Pow10 (w : World) : Prop := Lib.TabIs Tryd.prog w "internal/strconv.uint64pow10" .u64 Lib.pow10Tab
theorem Pow10.ext {w w' : World} (h : Pow10 w) (e : Ext w w') : Pow10 w' := by
  unfold Pow10 Lib.TabIs World.var? at *
  cases hg : Tryd.prog.globalNamed "internal/strconv.uint64pow10" with
  | none => simp [hg] at h
  | some g =>
    simp only [hg, Option.bind_some] at h ⊢
    have hlt : g < w.heap.size := by
      rcases Nat.lt_or_ge g w.heap.size with h' | h'
      · exact h'
      · rw [Array.getElem?_eq_none h'] at h; simp at h
    rw [Below.block e g hlt]
    exact h
theorem grow_ext {w w1 : World} (e : Ext w w1) (os : Array Obj) : Ext w (Sort.grow w1 os) := by
  have hs := e.size
  refine ⟨e.os, e.tape, e.output, ?_, fun k hk => ?_⟩
  · show w.heap.size ≤ (w1.heap ++ os).size; rw [Array.size_append]; omega
  · show (w1.heap ++ os)[k]? = _
    rw [Array.getElem?_append_left (by omega)]
    exact Below.block e k hk
def numText (n : Nat) : Value := .string ⟨(Lib.decDigits n).toArray⟩
theorem fmt_c (w : World) (hT : Pow10 w) (n : Nat) (h : n ≤ 1000000000) : Calls Tryd.prog 55 #[.int .i64 (n : Nat), .int .i64 10] w (Ret w fun r _ => r = numText n) := by
  refine (Go.Proofs.Any.strconv_FormatInt_10 Tryd.fmtInt n (by omega) (by omega) w hT).mono ?_
  rintro e w' ⟨rfl, k, os, rfl⟩
  refine ⟨_, rfl, ?_, grow_ext (Ext.drewN _ _) os⟩
  unfold numText Lib.itoa
  rw [if_neg (by omega), Int.toNat_natCast]

set_option maxRecDepth 20000 in
theorem text_c (w : World) (hT : Pow10 w) (n : Nat) (h : n ≤ 1000000000) : Calls Tryd.prog 38 #[.int .i64 (n : Nat)] w (Ret w fun r _ => r = numText n) := by
  have HF := Lib.hid (fmt_c w hT n h)
  generalize numText n = r at *
  clear hT
  go_enter Tryd.func38, Tryd.ntmps38
  go_wp2_with fail
  refine Calls.mono HF.out ?_
  rintro e w1 hr
  obtain ⟨r, rfl, rfl, e1⟩ := ret_ext hr
  clear hr
  go_wp2_with fail
  go_ret
  exact ⟨_, rfl, rfl, e1⟩

theorem dec_one {n : Nat} (h : n < 10) : Lib.decDigits n = [UInt8.ofNat (48 + n)] := Lib.decDigits_one h
theorem dec_more {n : Nat} (h : ¬ n < 10) : Lib.decDigits n = Lib.decDigits (n / 10) ++ [UInt8.ofNat (48 + n % 10)] := by rw [Lib.decDigits, dif_neg h]
theorem dec_len (n : Nat) : (Lib.decDigits n).length ≤ n + 1 := by
  induction n using Nat.strongRecOn with
  | _ n ih =>
    by_cases h : n < 10
    · rw [dec_one h]; simp
    · rw [dec_more h, List.length_append, List.length_singleton]
      have := ih (n / 10) (by omega)
      omega
/-- one byte as a text -/
def oneByte (m : Nat) : Value := .string ⟨#[UInt8.ofNat m]⟩
theorem conv_at (w : World) (g : Nat) (x : Int) (m : Nat) (hm : m < 256) (hx : x = m) (hc : w.cell? ⟨g, 0, none⟩ = some (.int .u8 x)) :
    (convert 63 9 (.slice (some ⟨g, 0, none⟩) 1 1)).run Tryd.prog w = .ok (oneByte m) w := by
  subst hx
  exact run_convert_bytes_back w _ _ _ ⟨g, 0, none⟩ 1 [UInt8.ofNat m] Tryd.underlying63 Tryd.underlying5 Tryd.underlying9 (fun j hj => by
    have hj0 : j = 0 := by simpa using hj
    subst hj0
    refine hc.trans ?_
    show _ = some (Value.int .u8 ((UInt8.ofNat m).toNat : Int))
    rw [UInt8.toNat_ofNat', Nat.mod_eq_of_lt (by omega)])
theorem conv_new (w : World) (x : Int) (m : Nat) (hm : m < 256) (hx : x = m) :
    (convert 63 9 (.slice (some ⟨w.heap.size, 0, none⟩) 1 1)).run Tryd.prog (w.alloc (.cells #[.int .u8 x] 5)) = .ok (oneByte m) (w.alloc (.cells #[.int .u8 x] 5)) :=
  conv_at _ _ x m hm hx (by simp)
theorem num_one {n : Nat} (h : n < 10) : numText n = oneByte (48 + n) := by unfold numText oneByte; rw [dec_one h]
def textOf : Value → ByteArray
  | .string s => s
  | _ => ⟨#[]⟩
theorem num_more {n : Nat} (h : ¬ n < 10) : numText n = .string (⟨(Lib.decDigits (n / 10)).toArray⟩ ++ ⟨#[UInt8.ofNat (48 + n % 10)]⟩) := by
  unfold numText
  congr 1
  apply ByteArray.ext
  rw [ByteArray.data_append, dec_more h]
  simp

set_option maxRecDepth 20000 in
set_option maxHeartbeats 2000000 in
theorem l01Dec_c (n : Nat) : ∀ (w : World) (h : n ≤ 1000000000), Calls Tryd.prog 54 #[.int .i64 (n : Nat)] w (Ret w fun r _ => r = numText n) := by
  induction n using Nat.strongRecOn with
  | _ n ih =>
    intro w h
    by_cases h10 : n < 10
    · have h1 := Lib.hid (num_one h10)
      have kc := conv_new w (48 + (n : Int)) (48 + n) (by omega) (by omega)
      unfold oneByte at kc h1
      clear ih
      generalize numText n = res at *
      generalize UInt8.ofNat (48 + n) = yb at *
      go_enter Tryd.func54, Tryd.ntmps54
      go_wp2_with fail
      go_ret
      exact ⟨_, rfl, by rw [h1.out]; rfl, Ext.alloc _ _⟩
    · have h1 := Lib.hid (num_more h10)
      have HI := Lib.hid (fun (w' : World) => ih (n / 10) (by omega) w' (by omega))
      have kc := fun (w' : World) => conv_new w' (48 + ((n % 10 : Nat) : Int)) (48 + n % 10) (by omega) (by omega)
      have kc2 := fun (w' : World) (g : Nat) (hc : w'.cell? ⟨g, 0, none⟩ = some (.int .u8 (48 + ((n % 10 : Nat) : Int)))) => conv_at w' g (48 + ((n % 10 : Nat) : Int)) (48 + n % 10) (by omega) (by omega) hc
      have hq : ((n : Int)).tdiv 10 = ((n / 10 : Nat) : Int) := by rw [Int.tdiv_eq_ediv_of_nonneg (by omega)]; omega
      have hm : ((n : Int)).tmod 10 = ((n % 10 : Nat) : Int) := by rw [Int.tmod_eq_emod_of_nonneg (by omega)]; omega
      have hn : ¬ ((n : Int) < 10) := by omega
      have hq' : ((n : Int)) / 10 = ((n / 10 : Nat) : Int) := by omega
      have hm' : ((n : Int)) % 10 = ((n % 10 : Nat) : Int) := by omega
      have hwq : IntKind.i64.wrap ((n / 10 : Nat) : Int) = ((n / 10 : Nat) : Int) := IntWalk.i64_in _ (by omega)
      have hwr : IntKind.i64.wrap (48 + ((n % 10 : Nat) : Int)) = 48 + ((n % 10 : Nat) : Int) := IntWalk.i64_in _ (by omega)
      have hwu : IntKind.u8.wrap (48 + ((n % 10 : Nat) : Int)) = 48 + ((n % 10 : Nat) : Int) := IntWalk.u8_in _ (by omega)
      have hr : n % 10 < 10 := Nat.mod_lt _ (by decide)
      have hq2 : n / 10 ≤ 1000000000 := by omega
      have hdl : ¬ (9223372036854775807 < (Lib.decDigits (n / 10)).toArray.size + 1) := by
        have := dec_len (n / 10)
        rw [List.size_toArray]; omega
      unfold oneByte at kc kc2
      unfold numText at HI
      clear ih
      generalize numText n = res at *
      generalize UInt8.ofNat (48 + n % 10) = yb at *
      generalize n % 10 = rm at *
      generalize n / 10 = qn at *
      generalize (Lib.decDigits qn).toArray = dq at *
      go_enter Tryd.func54, Tryd.ntmps54
      go_wp2_with fail
      go_region_law (first | (go_simp; go_at_call 54; refine (HI.out _).mono ?_; rintro e w9 hr9; obtain ⟨r9, rfl, rfl, e9⟩ := ret_ext hr9; clear hr9; (try ((have hcc : w9.cell? ⟨w.heap.size, 0, none⟩ = some (.int .u8 (48 + (rm : Int))) := ?_; have kc3 := kc2 w9 w.heap.size hcc; rotate_left; focus (refine e9.cell ?_; simp; done)))); have e99 : Ext w w9 := (by repeat (first | exact Ext.refl _ | assumption | (refine Ext.trans ?_ (Ext.alloc _ _)) | (refine Ext.trans ?_ (Ext.drew _)) | (refine Ext.trans ?_ (by assumption))))) | fail)
      all_goals go_wp2_with fail
      all_goals go_ret
      all_goals exact ⟨_, rfl, by rw [h1.out]; rfl, by repeat (first | assumption | exact Ext.refl _ | (refine Ext.trans ?_ (Ext.alloc _ _)))⟩

open Go.ChangeShapes Go.WideShapes Go.ChangeAt Go.RowKit
set_option linter.unusedVariables false

/-- how many keys there are -/
def countM (mk : MK) : Nat := (allK mk).length
theorem countM_le {mk : MK} (ok : MkOk mk) : countM mk ≤ 262144 := by
  have h1 := keysR_len mk mk.d.toNat (by have := ok.d8; omega) mk.c.toNat []
  have h2 := pow8_le (r := mk.c.toNat) (by have := ok.c6; omega)
  exact Nat.le_trans h1 h2
/-- how long the text of their number is -/
def lenM (mk : MK) : Nat := (Lib.decDigits (countM mk)).length
theorem lenM_le {mk : MK} (ok : MkOk mk) : lenM mk ≤ 262145 := by
  have h1 := dec_len (countM mk)
  have h2 := countM_le ok
  unfold lenM; omega
theorem num_len (n : Nat) : ∃ s : ByteArray, numText n = .string s ∧ s.size = (Lib.decDigits n).length := ⟨⟨(Lib.decDigits n).toArray⟩, rfl, by show (Lib.decDigits n).toArray.size = _; simp⟩
def widthM (mk : MK) : Value := if isMaker mk = true then .tuple #[.int .i64 ((lenM mk : Int) + 4), .int .i64 0] else .tuple #[.int .i64 0, .int .i64 1]

set_option maxRecDepth 20000 in
set_option maxHeartbeats 2000000 in
theorem l28Digits_c (w : World) (mk : MK) (ok : MkOk mk) : Calls Tryd.prog 36 #[mk.v] w (Ret w fun r _ => r = .int .i64 (lenM mk : Nat)) := by
  have HC := Lib.hid (fun (w' : World) => l02Count_c mk ok mk.c.toNat [] (by simp) w' (.slice none 0 0) (.old w') (SliceR.nil _ _ _) (fun i hi => by simp at hi))
  have HD := Lib.hid (fun (w' : World) => l01Dec_c (countM mk) w' (by have := countM_le ok; omega))
  have hL := lenM_le ok
  obtain ⟨tx, htx, hsz⟩ := num_len (countM mk)
  rw [htx] at HD
  have Hsz : Hid (tx.size = lenM mk) := hsz
  have hcn : (keysR mk mk.d.toNat mk.c.toNat []).length = countM mk := rfl
  rw [hcn] at HC
  clear hcn htx hsz ok
  generalize countM mk = N at *
  generalize lenM mk = L at *
  obtain ⟨c, d, s, m, l⟩ := mk
  unfold MK.v at *
  go_enter Tryd.func36, Tryd.ntmps36
  go_wp2_with fail
  generalize hw2 : World.alloc w _ = w1
  obtain ⟨e1, S1⟩ := mk_box (mk := ⟨c, d, s, m, l⟩) hw2
  clear hw2
  obtain ⟨c0, c1, c2, c3, c4⟩ := S1
  go_wp2_with fail
  refine Calls.mono (HC.out w1) ?_
  rintro e w2 hr
  obtain ⟨r, rfl, rfl, e2⟩ := ret_ext hr
  clear hr c0 c1 c2 c3 c4
  go_wp2_with fail
  refine Calls.mono (HD.out w2) ?_
  rintro e w3 hr
  obtain ⟨r, rfl, rfl, e3⟩ := ret_ext hr
  clear hr
  have hs := Hsz.out
  go_wp2_with fail
  go_ret
  exact ⟨_, rfl, rfl, (e1.trans e2).trans e3⟩
end Go.Proofs.YtnndaboaeijbkaaDoor
