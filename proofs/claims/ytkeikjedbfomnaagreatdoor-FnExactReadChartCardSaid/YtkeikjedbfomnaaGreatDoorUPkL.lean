/- Proved: an argument that can be read as data is a list, a list of lists, a struct of these; an argument that can be read as data is a system; the laws' own helpers for a list of integers (size, copy, equality, mark, held) do what their names say; the laws' own helpers for a list of lists of integers (size, copy, equality, mark, held) do what their names say; how many places a list of short lists has; the laws' own helpers that mark a list of integers and look whether it is marked; the laws' own helpers that mark a list of lists of integers and look whether it is marked; the laws' own helpers for a system (size, copy, equality, marks) do what their names say. -/
import Derived.Test.YtkeikjedbfomnaaGreatDoorChecked
import Derived.Deep.Matrix
import Derived.Lib.SmallJoins
import Derived.ShutString
import Derived.ChangeOld
import Derived.Below
import Derived.Test.YtkeikjedbfomnaaGreatDoorUPkA
import Derived.Test.YtkeikjedbfomnaaGreatDoorUPkB
namespace Go.Proofs.YtkeikjedbfomnaaGreatDoor
open Go.ChangeShapes Go.WideShapes Go.ChangeAt Go.RowKit
set_option linter.unusedVariables false
open Go.Deep

section
variable {H : Type} {enc : TypeId × Value → H} {P : Program} {w : World} {held : Bool}

theorem wf_i64 {x : Int} (h : (Lit.int .i64 x).wf = true) : I64 x := bounds_i64 h

theorem spot_of_cell {w : World} {a : Addr} {u : Value} (h : w.cell? a = some u) : a.spot = none := by
  unfold World.cell? at h
  split at h
  · cases hs : a.spot with
    | none => rfl
    | some _ => simp [hs] at h
  · simp at h

theorem blk {w : World} {b o : Nat} {u : Value} (h : w.cell? ⟨b, o, none⟩ = some u) : b < w.heap.size := World.block_lt_of_cell? w _ h

/-- cells that hold integers: a list -/
theorem ints_of_cells {z : Zone} {w : World} {A : Option Addr} {L C : Nat} {Z : List Int} (hlo : z.lo = 0) (hhi : z.hi = w.heap.size) (ho : z.own = false) (h1 : L ≤ C) (h2 : C ≤ maxLen) (h3 : Z.length = C) (hw : ∀ n ∈ Z, (Lit.int .i64 n).wf = true) (hn : A = none → C = 0)
    (hc : ∀ a', A = some a' → ∀ c, c < C → w.cell? (a'.add c) = some (.int .i64 (Z.getD c 0))) : IntsR z w (.slice A L C) (Z.take L) := by
  have hl : (Z.take L).length = L := by simp; omega
  refine ⟨A, C, by rw [hl], by omega, h2, fun h => ⟨by have := hn h; simp; right; exact List.eq_nil_of_length_eq_zero (by omega), hn h⟩, fun ad had hpos => ?_⟩
  rw [hl] at hpos
  have hcell : ∀ i, i < L → w.cell? ⟨ad.block, ad.off + i, none⟩ = some (.int .i64 (Z.getD i 0)) ∧ ad.spot = none := fun i hi => by
    have hx := hc ad had i (by omega)
    have hs := spot_of_cell (hc ad had 0 (by omega))
    rw [Addr.add_zero'] at hs
    obtain ⟨b, o, s⟩ := ad
    simp only at hs
    subst hs
    rw [Addr.add_lit] at hx
    exact ⟨hx, rfl⟩
  refine ⟨(hcell 0 hpos).2, ⟨by omega, ?_⟩, blk (hcell 0 hpos).1, (fun h => by rw [ho] at h; cases h), fun _ => z, fun _ _ => Zone.Sub.refl z, (fun h => by rw [ho] at h; cases h), fun i hi => ?_⟩
  · rw [hhi]; exact blk (hcell 0 hpos).1
  · rw [hl] at hi
    have hiz : i < Z.length := by omega
    refine ⟨_, (hcell i hi).1, ?_, ?_⟩
    · simp [hiz]
    · rw [List.getElem_take]; exact wf_i64 (hw _ (List.getElem_mem hiz))

theorem open_IntsR {t e : TypeId} {fuel : Nat} {v : Value} {x : DataW H × List MemPlace} (ht : P.underlying t = some (.slice e)) (he : P.underlying e = some (.int .i64)) (ce : P.cellsOf e = 1)
    (h : DataW.trod enc P w 0 (fun _ => true) held fuel t [v] = some x) : ∃ xs, IntsR (.old w) w v xs := by
  rcases open_ints ht he ce h with ⟨hcs, -⟩ | ⟨a, len, cap, zs, hcs, -, hl, hm, hz, -, hcell, hwf⟩
  · simp at hcs; subst hcs
    exact ⟨[], SliceR.nil _ _ _⟩
  · simp at hcs; subst hcs
    simp only [if_true] at hz
    exact ⟨zs.take len, ints_of_cells rfl rfl rfl hl hm hz hwf (fun h => by cases h) (fun a' ha c hc => by cases ha; exact hcell c (by omega))⟩

theorem open_RowsR {t e q : TypeId} {fuel : Nat} {v : Value} {x : DataW H × List MemPlace} (ht : P.underlying t = some (.slice e)) (he : P.underlying e = some (.slice q)) (hq : P.underlying q = some (.int .i64)) (ce : P.cellsOf e = 1) (cq : P.cellsOf q = 1)
    (h : DataW.trod enc P w 0 (fun _ => true) held fuel t [v] = some x) : ∃ xs, RowsR (.old w) w v xs := by
  rcases open_int_rows ht he hq ce cq h with ⟨hcs, -⟩ | ⟨a, len, cap, A, L, C, Z, hcs, -, hl, hm, -, hx⟩
  · simp at hcs; subst hcs
    exact ⟨[], SliceR.nil _ _ _⟩
  · simp at hcs; subst hcs
    refine ⟨(List.range len).map fun r => (Z r).take (L r), some a, cap, by simp, by simpa using hl, hm, (fun h => by cases h), fun ad had hpos => ?_⟩
    cases had
    simp only [List.length_map, List.length_range] at hpos ⊢
    have hcell : ∀ i, i < len → w.cell? ⟨a.block, a.off + i, none⟩ = some (.slice (A i) (L i) (C i)) ∧ a.spot = none := fun i hi => by
      have hs := spot_of_cell (hx 0 (by omega)).1
      have hx := (hx i (by omega)).1
      rw [Addr.add_zero'] at hs
      obtain ⟨b, o, s⟩ := a
      simp only at hs
      subst hs
      rw [Addr.add_lit] at hx
      exact ⟨hx, rfl⟩
    refine ⟨(hcell 0 hpos).2, ⟨Nat.zero_le _, blk (hcell 0 hpos).1⟩, blk (hcell 0 hpos).1, (fun h => by cases h), fun _ => .old w, fun _ _ => Zone.Sub.refl _, (fun h => by cases h), fun i hi => ?_⟩
    obtain ⟨h1, h2, h3, h4, h5, h6, h7⟩ := hx i (by omega)
    refine ⟨_, (hcell i hi).1, ?_⟩
    rw [List.getElem_map, List.getElem_range]
    exact ints_of_cells rfl rfl rfl h2 h3 h4 h5 h6 (fun a' ha c hc => (h7 a' ha).2 c hc)

theorem open_I64 {t : TypeId} {fuel : Nat} {v : Value} {x : DataW H × List MemPlace} (ht : P.underlying t = some (.int .i64))
    (h : DataW.trod enc P w 0 (fun _ => true) held fuel t [v] = some x) : ∃ n, v = .int .i64 n ∧ I64 n := by
  obtain ⟨n, h1, -, h3⟩ := DataW.trod_int ht h
  simp at h1
  exact ⟨n, h1, wf_i64 h3⟩

end

open Go.ChangeShapes Go.WideShapes Go.ChangeAt Go.RowKit
set_option linter.unusedVariables false
open Go.Deep

section
variable {H : Type} {enc : TypeId × Value → H} {P : Program} {w : World} {held : Bool}
theorem array6 {α : Type} {cs : Array α} (h : cs.size = 6) : ∃ c0 c1 c2 c3 c4 c5, cs = #[c0, c1, c2, c3, c4, c5] := by
  obtain ⟨l⟩ := cs
  match l, h with
  | [c0, c1, c2, c3, c4, c5], _ => exact ⟨c0, c1, c2, c3, c4, c5, rfl⟩
/-- a field of one cell that holds an integer -/
def IntField (P : Program) (g : Field) (i : Nat) : Prop := g.offset = i ∧ P.cellsOf g.type = 1 ∧ P.underlying g.type = some (.int .i64)
theorem open_sys {r : Reach} {b0 : Nat} {t : TypeId} {f0 f1 g0 g1 g2 g3 g4 : Field} {v : Value} {d : DataW H} {p : List MemPlace} (hs : P.underlying t = some (.struct #[f0, f1])) (hg : P.underlying f0.type = some (.struct #[g0, g1, g2, g3, g4]))
    (hC : P.cellsOf t = 6) (hC0 : P.cellsOf f0.type = 5) (hC1 : P.cellsOf f1.type = 1) (ho0 : f0.offset = 0) (ho1 : f1.offset = 5)
    (i0 : IntField P g0 0) (i1 : IntField P g1 1) (i2 : IntField P g2 2) (i3 : IntField P g3 3) (i4 : IntField P g4 4)
    (hv : Value.okWide P w r b0 t v) (h : DataW.Trod enc P w 0 (fun _ => true) held t v d p) :
    ∃ (mk : MK) (u : Value) (y : DataW H × List MemPlace) (n : Nat), v = sysV mk u ∧ mk.wide ∧ DataW.trod enc P w 0 (fun _ => true) held n f1.type [u] = some y := by
  obtain ⟨cs, rfl, hsz⟩ := okWide_struct hs hv
  obtain ⟨c0, c1, c2, c3, c4, c5, rfl⟩ := array6 (hsz.trans hC)
  obtain ⟨fuel, hf⟩ := h
  obtain ⟨xs, n, -, -, -, hxl, hx⟩ := DataW.trod_struct hs hf
  have h0 := hx 0 f0 rfl
  have h1 := hx 1 f1 rfl
  rw [ho0, hC0] at h0
  rw [ho1, hC1] at h1
  match xs, hxl with
  | [y0, y1], _ =>
    simp only [Value.cells, List.getElem?_cons_zero, List.getElem?_cons_succ, List.drop_zero, List.take_succ_cons, List.take_zero, List.drop_succ_cons] at h0 h1
    obtain ⟨zs, m, -, -, -, hzl, hz⟩ := DataW.trod_struct hg h0
    have q0 := hz 0 g0 rfl
    have q1 := hz 1 g1 rfl
    have q2 := hz 2 g2 rfl
    have q3 := hz 3 g3 rfl
    have q4 := hz 4 g4 rfl
    rw [i0.1, i0.2.1] at q0
    rw [i1.1, i1.2.1] at q1
    rw [i2.1, i2.2.1] at q2
    rw [i3.1, i3.2.1] at q3
    rw [i4.1, i4.2.1] at q4
    match zs, hzl with
    | [z0, z1, z2, z3, z4], _ =>
      simp only [List.getElem?_cons_zero, List.getElem?_cons_succ, List.drop_zero, List.take_succ_cons, List.take_zero, List.drop_succ_cons] at q0 q1 q2 q3 q4
      obtain ⟨a0, rfl, w0⟩ := open_I64 i0.2.2 q0
      obtain ⟨a1, rfl, w1⟩ := open_I64 i1.2.2 q1
      obtain ⟨a2, rfl, w2⟩ := open_I64 i2.2.2 q2
      obtain ⟨a3, rfl, w3⟩ := open_I64 i3.2.2 q3
      obtain ⟨a4, rfl, w4⟩ := open_I64 i4.2.2 q4
      exact ⟨⟨a0, a1, a2, a3, a4⟩, c5, y1, n, rfl, ⟨w0, w1, w2, w3, w4⟩, by simpa using h1⟩
end

open Go.ChangeShapes Go.WideShapes Go.ChangeAt Go.RowKit
set_option linter.unusedVariables false


theorem take_set {α : Type} (xs : List α) (d : α) (k len : Nat) (hk : k < len) (hl : len = xs.length) (x : α) (hx : xs[k]? = some x) :
    (xs.take k ++ List.replicate (len - k) d).set k x = xs.take (k+1) ++ List.replicate (len - (k+1)) d := by
  rw [List.take_add_one, hx]
  obtain ⟨m, hm⟩ : ∃ m, len - k = m + 1 := ⟨len - k - 1, by omega⟩
  rw [hm, show len - (k+1) = m by omega, List.set_append_right _ _ (by simp; omega)]
  simp [show min k xs.length = k by omega, List.replicate_succ]

theorem getElem?_of_getD {xs : List Int} {k : Nat} (h : k < xs.length) {x : Int} (hx : xs.getD k 0 = x) : xs[k]? = some x := by
  subst hx; simp [h]

/-- lists are equal, told element by element -/
theorem ints_ne {xs ys : List Int} (k : Nat) (h1 : k < xs.length) (h2 : k < ys.length) (h : xs.getD k 0 ≠ ys.getD k 0) : decide (xs = ys) = false := by
  rw [decide_eq_false_iff_not]; rintro rfl; exact h rfl
theorem ints_eq {xs ys : List Int} (hl : xs.length = ys.length) (h : ∀ k, k < xs.length → xs.getD k 0 = ys.getD k 0) : decide (xs = ys) = true := by
  rw [decide_eq_true_iff]
  apply List.ext_getElem hl
  intro i h1 h2
  have := h i h1
  simpa [h1, h2] using this

set_option maxHeartbeats 400000 in
theorem eqInt64S_c (w : World) (u v : Value) (y z : Zone) (xs ys : List Int) (hx : IntsR y w u xs) (hy : IntsR z w v ys) :
    Calls Tryz.prog 31 #[u, v] w (RetQ w (.bool (decide (xs = ys)))) := by
  obtain ⟨a, n, cap, rfl, hn, hmax, -, -, -, hel⟩ := IntsR.shape hx
  obtain ⟨b, m, cap', rfl, hm, hmax', -, -, -, hel'⟩ := IntsR.shape hy
  clear hx hy
  have Hn := Lib.hid hn; clear hn
  have Hm := Lib.hid hm; clear hm
  have Hel := Lib.hid hel; clear hel
  have Hel' := Lib.hid hel'; clear hel'
  by_cases hnm : n = m
  · subst hnm
    have Hend : Hid ((∀ k, k < n → xs.getD k 0 = ys.getD k 0) → decide (xs = ys) = true) := fun h => ints_eq (by rw [← Hn.out, ← Hm.out]) (fun k hk => h k (by rw [Hn.out]; exact hk))
    have Hbad : Hid (∀ k, k < n → xs.getD k 0 ≠ ys.getD k 0 → decide (xs = ys) = false) := fun k hk h => ints_ne k (by rw [← Hn.out]; exact hk) (by rw [← Hm.out]; exact hk) h
    clear Hn Hm
    go_enter Tryz.func31, Tryz.ntmps31
    go_wp2
    go_loopw [5] (fun t wr => ∃ k : Nat, k ≤ n ∧ t = .int .i64 k ∧ (∀ j, j < k → xs.getD j 0 = ys.getD j 0) ∧ Drew w wr) (fun t _ => n - (intOf t).toNat)
    case atStart => exact ⟨0, Nat.zero_le _, rfl, by simp, Drew.refl _⟩
    case round =>
      obtain ⟨k, hk, rfl, hall, hd⟩ := hrel
      have Hall := Lib.hid hall; clear hall
      by_cases hlt : k < n
      · obtain ⟨b1, o1, rfl, hc1, ⟨hx1, hx2⟩, -⟩ := Hel.out k hlt
        obtain ⟨b2, o2, rfl, hc2, ⟨hy1, hy2⟩, -⟩ := Hel'.out k hlt
        replace hc1 := (hd.cell _).trans hc1
        replace hc2 := (hd.cell _).trans hc2
        have Hgo : Hid (xs.getD k 0 = ys.getD k 0 → ∀ j, j < k + 1 → xs.getD j 0 = ys.getD j 0) := fun h j hj => by
          by_cases e : j = k
          · rw [e]; exact h
          · exact Hall.out j (by omega)
        have Hno := Lib.hid (Hbad.out k hlt)
        clear Hall Hbad Hend Hel Hel'
        generalize xs.getD k 0 = x at *
        generalize ys.getD k 0 = y at *
        by_cases hxy : x = y
        · subst hxy
          go_wp2
          go_quiet (fail)
          go_wp2
          go_roundw
          case rel => exact ⟨k + 1, by omega, by go_num, Hgo.out (by simp), hd.drewN _⟩
          case measure => simp [intOf]; omega
        · have hne : (x == y) = false := by simpa using hxy
          go_wp2
          go_quiet (fail)
          go_wp2
          go_ret
          exact ⟨ret_bool' (Hno.out hxy), hd.drewN _⟩
      · have hkn : k = n := by omega
        go_wp2
        go_ret
        exact ⟨ret_bool' (Hend.out (fun j hj => Hall.out j (by omega))), hd⟩
  · have hd : ((n : Int) == (m : Int)) = false := by rw [beq_eq_false_iff_ne]; omega
    have Hne : Hid (decide (xs = ys) = false) := by
      show decide (xs = ys) = false
      rw [decide_eq_false_iff_not]; rintro rfl; exact hnm (Hn.out.trans Hm.out.symm)
    clear hnm
    go_enter Tryz.func31, Tryz.ntmps31
    go_wp2
    go_ret
    exact ⟨ret_bool' Hne.out, Drew.refl _⟩

/-! ### sizes -/
def szLeft (l : Int) (b : Nat) : Int := if l < b then -1 else l - b
theorem szLeft_neg {l : Int} {b : Nat} (h : l < b) : szLeft l b = -1 := by unfold szLeft; rw [if_pos h]
theorem szLeft_pos {l : Int} {b : Nat} (h : ¬ l < b) : szLeft l b = l - b := by unfold szLeft; rw [if_neg h]

open Go.ChangeShapes Go.WideShapes Go.ChangeAt Go.RowKit
set_option linter.unusedVariables false


/-- how many values: one for each row, one for each element -/
def bulk (xss : List (List Int)) : Nat := xss.length + (xss.map List.length).sum
theorem bulk_mem {xss : List (List Int)} {xs : List Int} (h : xs ∈ xss) : xs.length ≤ bulk xss := by
  unfold bulk
  have : xs.length ≤ (xss.map List.length).sum := by
    induction xss with
    | nil => cases h
    | cons a l ih =>
      simp only [List.map_cons, List.sum_cons]
      rcases List.mem_cons.1 h with rfl | h
      · omega
      · have := ih h; omega
  omega
def offs (xss : List (List Int)) (k : Nat) : Nat := ((xss.take k).map List.length).sum
theorem offs_succ {xss : List (List Int)} {k : Nat} (h : k < xss.length) : offs xss (k+1) = offs xss k + (xss[k]).length := by
  unfold offs
  rw [List.take_add_one, List.getElem?_eq_getElem h, List.map_append, List.sum_append]
  simp
theorem offs_le (xss : List (List Int)) : ∀ k, offs xss k ≤ offs xss xss.length := by
  intro k
  unfold offs
  rw [List.take_length]
  induction xss generalizing k with
  | nil => simp
  | cons a l ih => cases k with
    | zero => simp
    | succ k => have := ih k; simp only [List.take_succ_cons, List.map_cons, List.sum_cons]; omega
theorem offs_all (xss : List (List Int)) : xss.length + offs xss xss.length = bulk xss := by unfold offs bulk; rw [List.take_length]

set_option maxHeartbeats 400000 in
theorem eqInt64SS_c (w : World) (u v : Value) (y z : Zone) (xs ys : List (List Int)) (hx : RowsR y w u xs) (hy : RowsR z w v ys) :
    Calls Tryz.prog 8 #[u, v] w (RetQ w (.bool (decide (xs = ys)))) := by
  obtain ⟨a, n, cap, rfl, hn, hmax, hel⟩ := SliceR.elem stable_ints hx
  obtain ⟨b, m, cap', rfl, hm, hmax', hel'⟩ := SliceR.elem stable_ints hy
  clear hx hy
  have Hn := Lib.hid hn; clear hn
  have Hm := Lib.hid hm; clear hm
  have Hel := Lib.hid hel; clear hel
  have Hel' := Lib.hid hel'; clear hel'
  by_cases hnm : n = m
  · subst hnm
    have Hend : Hid ((∀ k (h1 : k < xs.length) (h2 : k < ys.length), k < n → xs[k] = ys[k]) → decide (xs = ys) = true) := fun h => by
      have h1 := Hn.out; have h2 := Hm.out
      rw [decide_eq_true_iff]
      exact List.ext_getElem (by omega) (fun i g1 g2 => h i g1 g2 (by omega))
    have Hbad : Hid (∀ k (h1 : k < xs.length) (h2 : k < ys.length), xs[k] ≠ ys[k] → decide (xs = ys) = false) := fun k h1 h2 h => by
      rw [decide_eq_false_iff_not]; rintro rfl; exact h rfl
    go_enter Tryz.func8, Tryz.ntmps8
    go_wp2
    go_loopw [5] (fun t wr => ∃ k : Nat, k ≤ n ∧ t = .int .i64 k ∧ (∀ j (h1 : j < xs.length) (h2 : j < ys.length), j < k → xs[j] = ys[j]) ∧ Drew w wr) (fun t _ => n - (intOf t).toNat)
    case atStart => exact ⟨0, Nat.zero_le _, rfl, by simp, Drew.refl _⟩
    case round =>
      obtain ⟨k, hk, rfl, hall, hd⟩ := hrel
      have Hall := Lib.hid hall; clear hall
      by_cases hlt : k < n
      · have l1 : k < xs.length := by rw [← Hn.out]; exact hlt
        have l2 : k < ys.length := by rw [← Hm.out]; exact hlt
        obtain ⟨b1, o1, rfl, -, u1, hc1, hu1⟩ := Hel.out k l1
        obtain ⟨b2, o2, rfl, -, u2, hc2, hu2⟩ := Hel'.out k l2
        replace hc1 := (hd.cell _).trans hc1
        replace hc2 := (hd.cell _).trans hc2
        have Hgo : Hid (xs[k] = ys[k] → ∀ j (h1 : j < xs.length) (h2 : j < ys.length), j < k + 1 → xs[j] = ys[j]) := fun h j h1 h2 hj => by
          by_cases e : j = k
          · subst e; exact h
          · exact Hall.out j h1 h2 (by omega)
        have Hno := Lib.hid (Hbad.out k l1 l2)
        clear Hall Hbad Hend Hel Hel'
        generalize xs[k] = x at *
        generalize ys[k] = y at *
        by_cases hxy : x = y
        · have Hd : Hid (decide (x = y) = true) := by show _ = _; simpa using hxy
          have Hxy := Lib.hid hxy; clear hxy
          go_wp2
          go_quiet ((go_at_call 31; exact RetQ.quiet (Calls.vq (eqInt64S_c _ _ _ _ _ x y (stable_ints.drewN (stable_ints.drew hu1 hd) _) (stable_ints.drewN (stable_ints.drew hu2 hd) _)) (congrArg Value.bool Hd.out))))
          go_wp2
          go_roundw
          case rel => exact ⟨k + 1, by omega, by go_num, Hgo.out Hxy.out, hd.drewN _⟩
          case measure => simp [intOf]; omega
        · have Hd : Hid (decide (x = y) = false) := by show _ = _; simpa using hxy
          have Hxy := Lib.hid hxy; clear hxy
          go_wp2
          go_quiet ((go_at_call 31; exact RetQ.quiet (Calls.vq (eqInt64S_c _ _ _ _ _ x y (stable_ints.drewN (stable_ints.drew hu1 hd) _) (stable_ints.drewN (stable_ints.drew hu2 hd) _)) (congrArg Value.bool Hd.out))))
          go_wp2
          go_ret
          exact ⟨ret_bool' (Hno.out Hxy.out), hd.drewN _⟩
      · have hkn : k = n := by omega
        go_wp2
        go_ret
        exact ⟨ret_bool' (Hend.out (fun j h1 h2 hj => Hall.out j h1 h2 (by omega))), hd⟩
  · have hd : ((n : Int) == (m : Int)) = false := by rw [beq_eq_false_iff_ne]; omega
    have Hne : Hid (decide (xs = ys) = false) := by
      show decide (xs = ys) = false
      rw [decide_eq_false_iff_not]; rintro rfl; exact hnm (Hn.out.trans Hm.out.symm)
    clear hnm
    go_enter Tryz.func8, Tryz.ntmps8
    go_wp2
    go_ret
    exact ⟨ret_bool' Hne.out, Drew.refl _⟩

open Go.ChangeShapes Go.WideShapes Go.ChangeAt Go.RowKit
set_option linter.unusedVariables false

theorem offs_bound {xss : List (List Int)} {m : Nat} (h : ∀ r ∈ xss, r.length ≤ m) : offs xss xss.length ≤ xss.length * m := by
  unfold offs
  rw [List.take_length]
  induction xss with
  | nil => simp
  | cons a l ih =>
    rw [List.map_cons, List.sum_cons, List.length_cons, Nat.succ_mul]
    have h1 := h a (List.mem_cons_self ..)
    have h2 := ih (fun r hr => h r (List.mem_cons_of_mem _ hr))
    omega
theorem offs_small {xss : List (List Int)} (m : Nat) (h : ∀ r ∈ xss, r.length ≤ m) (hl : xss.length ≤ 1000) (hm : m ≤ 1000) : (offs xss xss.length : Int) ≤ 1048576 := by
  have h1 := offs_bound h
  have h2 : xss.length * m ≤ 1000 * 1000 := Nat.mul_le_mul hl hm
  omega
theorem offs_nil : (offs [] ([] : List (List Int)).length : Int) ≤ 1048576 := by decide

open Go.ChangeShapes Go.WideShapes Go.ChangeAt Go.RowKit
set_option linter.unusedVariables false

/-! ### marks -/
def marks (k : Int) (n : Nat) : List Int := (List.range n).map fun (i : Nat) => k + (i : Int)
theorem marks_length (k : Int) (n : Nat) : (marks k n).length = n := by simp [marks]
theorem marks_get (k : Int) (n i : Nat) (h : i < n) : (marks k n)[i]? = some (k + i) := by simp [marks, h]
theorem marks_set (k : Int) (xs : List Int) (i : Nat) (h : i < xs.length) : (marks k i ++ xs.drop i).set i (k + i) = marks k (i+1) ++ xs.drop (i+1) := by
  rw [List.set_append_right _ _ (by simp [marks]), marks_length, Nat.sub_self]
  rw [List.drop_eq_getElem_cons h, List.set_cons_zero]
  simp [marks, List.range_succ]
/-- what markInt64S leaves -/
def MarkPost (w : World) (z : Zone) (v : Value) (k : Int) (n : Nat) (e : Ending) (w' : World) : Prop := e = .returned (.int .i64 (k + n)) ∧ IntsR z w' v (marks k n) ∧ Within z w w'

set_option maxHeartbeats 400000 in
theorem markInt64S_c (w : World) (v : Value) (z : Zone) (xs : List Int) (k0 : Int) (h : IntsR z w v xs) (ho : z.own = true) (h0 : 0 ≤ k0) (h1 : k0 + xs.length ≤ 4611686018427387904) :
    Calls Tryz.prog 32 #[v, .int .i64 k0] w (MarkPost w z v k0 xs.length) := by
  obtain ⟨a, n, cap, rfl, hn, hmax, -, -, -, -⟩ := IntsR.shape h
  have Hn := Lib.hid hn
  rw [← hn] at h1
  rw [← hn]
  clear hn
  have H := Lib.hid h; clear h
  have Ho := Lib.hid ho; clear ho
  go_enter Tryz.func32, Tryz.ntmps32
  go_wp2
  go_loopw [1, 5] (fun s t wr => ∃ i : Nat, i ≤ n ∧ t = .int .i64 i ∧ s = .int .i64 (k0 + i) ∧ IntsR z wr (.slice a n cap) (marks k0 i ++ xs.drop i) ∧ Within z w wr) (fun _ t _ => n - (intOf t).toNat)
  case atStart => exact ⟨0, Nat.zero_le _, rfl, by simp, by simpa [marks] using H.out, Within.refl _ _⟩
  case round =>
    obtain ⟨i, hi, rfl, rfl, hr, hw⟩ := hrel
    by_cases hlt : i < n
    · have hn := Hn.out
      have hsh := SliceR.shape hr
      obtain ⟨a', n', cap', he, hn', -, -, -, -, hel⟩ := hsh
      injection he with e1 e2 e3
      subst e1; subst e3
      obtain ⟨b, off, rfl, hb1, hb2, hfz, u, y, hc, -, -, -⟩ := hel i (by rw [← hn', ← e2]; exact hlt)
      have hf := hfz Ho.out
      have Hst := Lib.hid (SliceR.store stable_int hr Ho.out i hlt (.int .i64 (k0 + i)) (k0 + i) (fun _ _ => ⟨rfl, by unfold I64; omega⟩))
      have hw' : Within z w (wr.setCell ⟨b, off + i, none⟩ (.int .i64 (k0 + i))) := hw.setCell hb1 _
      have He : Hid ((marks k0 i ++ xs.drop i).set i (k0 + i) = marks k0 (i+1) ++ xs.drop (i+1)) := marks_set k0 xs i (by omega)
      clear hel hfz hn hn' e2 hr hb1 hb2
      go_wp2
      go_roundw
      case rel => exact ⟨i + 1, by omega, by go_num, by go_num, by rw [← He.out]; exact Hst.out, hw'⟩
      case measure => simp [intOf]; omega
    · have hin : i = n := by omega
      go_wp2
      go_ret
      subst hin
      refine ⟨rfl, ?_, hw⟩
      have := Hn.out
      rw [List.drop_of_length_le (by omega), List.append_nil] at hr
      exact hr

set_option maxHeartbeats 400000 in
theorem heldInt64S_c (w : World) (v : Value) (z : Zone) (n : Nat) (k0 : Int) (h : IntsR z w v (marks k0 n)) (h0 : 0 ≤ k0) (h1 : k0 + n ≤ 4611686018427387904) :
    Calls Tryz.prog 33 #[v, .int .i64 k0] w (RetQ w (.int .i64 (k0 + n))) := by
  obtain ⟨a, n', cap, rfl, hn, hmax, -, -, -, hel⟩ := IntsR.shape h
  rw [marks_length] at hn
  subst hn
  clear h
  have Hel := Lib.hid hel; clear hel
  go_enter Tryz.func33, Tryz.ntmps33
  go_wp2
  go_loopw [1, 5] (fun s t wr => ∃ i : Nat, i ≤ n' ∧ t = .int .i64 i ∧ s = .int .i64 (k0 + i) ∧ Drew w wr) (fun _ t _ => n' - (intOf t).toNat)
  case atStart => exact ⟨0, Nat.zero_le _, rfl, by simp, Drew.refl _⟩
  case round =>
    obtain ⟨i, hi, rfl, rfl, hd⟩ := hrel
    by_cases hlt : i < n'
    · obtain ⟨b, off, rfl, hc, -, -⟩ := Hel.out i hlt
      have hx : (marks k0 n').getD i 0 = k0 + i := by simp [marks, hlt]
      rw [hx] at hc
      clear hx
      replace hc := (hd.cell _).trans hc
      go_wp2
      all_goals
        go_roundw
        case rel => exact ⟨i + 1, by omega, by go_num, by go_num, hd⟩
        case measure => simp [intOf]; omega
    · have hin : i = n' := by omega
      go_wp2
      go_ret
      subst hin
      exact ⟨rfl, hd⟩

open Go.ChangeShapes Go.WideShapes Go.ChangeAt Go.RowKit
set_option linter.unusedVariables false

/-! ### marks -/
/-- each row marked in turn -/
def markRows (k : Int) (xss : List (List Int)) : List (List Int) := (List.range xss.length).map fun i => marks (k + (offs xss i : Int)) (xss.getD i []).length
theorem markRows_length (k : Int) (xss : List (List Int)) : (markRows k xss).length = xss.length := by simp [markRows]
theorem markRows_get (k : Int) (xss : List (List Int)) (i : Nat) (h : i < xss.length) (h' : i < (markRows k xss).length) : (markRows k xss)[i] = marks (k + (offs xss i : Int)) (xss[i]).length := by simp [markRows, h]
theorem markRows_set (k : Int) (xss : List (List Int)) (i : Nat) (h : i < xss.length) :
    ((markRows k xss).take i ++ xss.drop i).set i (marks (k + (offs xss i : Int)) (xss[i]).length) = (markRows k xss).take (i+1) ++ xss.drop (i+1) := by
  have hl := markRows_length k xss
  rw [List.set_append_right _ _ (by simp; omega), show i - ((markRows k xss).take i).length = 0 by simp; omega, List.drop_eq_getElem_cons h, List.set_cons_zero, List.take_add_one, List.getElem?_eq_getElem (by omega), markRows_get k xss i h]
  simp
/-- what markInt64SS leaves -/
def MarksPost (w : World) (z : Zone) (v : Value) (k : Int) (xss : List (List Int)) (e : Ending) (w' : World) : Prop := e = .returned (.int .i64 (k + (offs xss xss.length : Int))) ∧ RowsR z w' v (markRows k xss) ∧ Within z w w'

set_option maxHeartbeats 400000 in
theorem markInt64SS_c (w : World) (v : Value) (z : Zone) (xss : List (List Int)) (k0 : Int) (h : RowsR z w v xss) (ho : z.own = true) (h0 : 0 ≤ k0) (h1 : k0 + (offs xss xss.length : Int) ≤ 4611686018427387904) :
    Calls Tryz.prog 10 #[v, .int .i64 k0] w (MarksPost w z v k0 xss) := by
  obtain ⟨a, n, cap, rfl, hn, hmax, -, -, -, -⟩ := SliceR.shape h
  have Hn := Lib.hid hn; clear hn
  have H := Lib.hid h; clear h
  have Ho := Lib.hid ho; clear ho
  have H1 := Lib.hid h1; clear h1
  go_enter Tryz.func10, Tryz.ntmps10
  go_wp2
  go_loopw [1, 5] (fun s t wr => ∃ i : Nat, i ≤ n ∧ t = .int .i64 i ∧ s = .int .i64 (k0 + (offs xss i : Int)) ∧ RowsR z wr (.slice a n cap) ((markRows k0 xss).take i ++ xss.drop i) ∧ Within z w wr) (fun _ t _ => n - (intOf t).toNat)
  case atStart => exact ⟨0, Nat.zero_le _, rfl, by simp [offs], by simpa using H.out, Within.refl _ _⟩
  case round =>
    obtain ⟨i, hi, rfl, rfl, hr, hw⟩ := hrel
    have hn := Hn.out
    have hml := markRows_length k0 xss
    by_cases hlt : i < n
    · have hil : i < ((markRows k0 xss).take i ++ xss.drop i).length := by simp; omega
      obtain ⟨b, off, n', cap', u, Y, he, hn', hc, hu, hY, hYo, hput⟩ := SliceR.inner stable_ints hr Ho.out i hil
      injection he with e1 e2 e3
      subst e1; subst e3
      have hx : ((markRows k0 xss).take i ++ xss.drop i)[i] = xss[i]'(by omega) := by
        rw [List.getElem_append_right (by simp; omega)]
        simp [show min i (markRows k0 xss).length = i by omega]
      rw [hx] at hu
      have Hs := Lib.hid (offs_succ (xss := xss) (k := i) (by omega))
      have hle := offs_le xss (i+1)
      have hle' : k0 + ((offs xss (i + 1) : Nat) : Int) ≤ 4611686018427387904 := by have := H1.out; omega
      have He := Lib.hid (markRows_set k0 xss i (by omega))
      have Hput := Lib.hid hput
      clear hput hle
      generalize hxs : xss[i]'(by have := Hn.out; omega) = x at *
      clear hxs hx hr hil hml e2 hn' hn
      generalize hoi : offs xss i = oi at *
      have hb1 : k0 + (oi : Int) + (x.length : Int) ≤ 4611686018427387904 := by rw [Hs.out] at hle'; omega
      clear hle'
      go_wp2_with (go_at_call 32; refine (markInt64S_c _ _ _ x _ hu hYo (by omega) hb1).mono ?_; rintro e w2 ⟨rfl, hr2, hw2⟩)
      go_roundw
      case rel => exact ⟨i + 1, by omega, by go_num, by rw [Hs.out]; go_num, by rw [← He.out]; exact Hput.out _ _ hw2 hr2, hw.trans (hw2.sub hY)⟩
      case measure => simp [intOf]; omega
    · have hin : i = n := by omega
      clear hml
      go_wp2
      go_ret
      refine ⟨?_, ?_, hw⟩
      · rw [← hn, ← hin]; rfl
      · rw [hin, hn, List.drop_length, List.append_nil, List.take_of_length_le (by rw [markRows_length]; exact Nat.le_refl _)] at hr
        rw [hn]; exact hr

set_option maxHeartbeats 400000 in
theorem heldInt64SS_c (w : World) (v : Value) (z : Zone) (xss : List (List Int)) (k0 : Int) (h : RowsR z w v (markRows k0 xss)) (h0 : 0 ≤ k0) (h1 : k0 + (offs xss xss.length : Int) ≤ 4611686018427387904) :
    Calls Tryz.prog 12 #[v, .int .i64 k0] w (RetQ w (.int .i64 (k0 + (offs xss xss.length : Int)))) := by
  obtain ⟨a, n, cap, rfl, hn, hmax, hel⟩ := SliceR.elem stable_ints h
  rw [markRows_length] at hn
  have Hn := Lib.hid hn; clear hn
  have Hel := Lib.hid hel; clear hel h
  have H1 := Lib.hid h1; clear h1
  go_enter Tryz.func12, Tryz.ntmps12
  go_wp2
  go_loopw [1, 5] (fun s t wr => ∃ i : Nat, i ≤ n ∧ t = .int .i64 i ∧ s = .int .i64 (k0 + (offs xss i : Int)) ∧ Drew w wr) (fun _ t _ => n - (intOf t).toNat)
  case atStart => exact ⟨0, Nat.zero_le _, rfl, by simp [offs], Drew.refl _⟩
  case round =>
    obtain ⟨i, hi, rfl, rfl, hd⟩ := hrel
    have hn := Hn.out
    by_cases hlt : i < n
    · obtain ⟨b, off, rfl, -, u, hc, hu⟩ := Hel.out i (by rw [markRows_length]; omega)
      rw [markRows_get k0 xss i (by omega)] at hu
      replace hc := (hd.cell _).trans hc
      have Hs := Lib.hid (offs_succ (xss := xss) (k := i) (by omega))
      have hle := offs_le xss (i+1)
      have hle' : k0 + ((offs xss (i + 1) : Nat) : Int) ≤ 4611686018427387904 := by have := H1.out; omega
      clear hle
      generalize hxs : xss[i]'(by have := Hn.out; omega) = x at *
      clear hxs hn
      generalize hoi : offs xss i = oi at *
      have hb1 : k0 + (oi : Int) + (x.length : Int) ≤ 4611686018427387904 := by rw [Hs.out] at hle'; omega
      clear hle'
      go_wp2_with (go_at_call 33; refine (heldInt64S_c _ _ _ x.length _ (stable_ints.drew hu hd) (by omega) hb1).mono ?_; rintro e w2 ⟨rfl, hd2⟩)
      go_roundw
      case rel => exact ⟨i + 1, by omega, by go_num, by rw [Hs.out]; go_num, hd.trans hd2⟩
      case measure => simp [intOf]; omega
    · have hin : i = n := by omega
      go_wp2
      go_ret
      refine ⟨?_, hd⟩
      rw [← hn, ← hin]; rfl

open Go.ChangeShapes Go.WideShapes Go.ChangeAt Go.RowKit
set_option linter.unusedVariables false

set_option maxHeartbeats 400000 in
theorem eqMaker_c (w : World) (mk : MK) : Calls Tryz.prog 30 #[mk.v, mk.v] w (Ret w fun r _ => r = .bool true) := by
  obtain ⟨c, d, s, m, l⟩ := mk
  unfold MK.v
  simp only
  go_enter Tryz.func30, Tryz.ntmps30
  go_wp2_with fail
  go_ret
  exact ⟨_, rfl, rfl, (Ext.alloc _ _).trans (Ext.alloc _ _)⟩

set_option maxHeartbeats 800000 in
theorem eqSystem_c (w : World) (mk : MK) (u v : Value) (y z : Zone) (t : List (List Int)) (h1 : RowsR y w u t) (h2 : RowsR z w v t) :
    Calls Tryz.prog 7 #[sysV mk u, sysV mk v] w (Ret w fun r _ => r = .bool true) := by
  have HC1 := Lib.hid (fun w' => eqMaker_c w' mk)
  have HC2 : Hid (∀ (w' : World), Ext w w' → Calls Tryz.prog 8 #[u, v] w' (RetQ w' (.bool true))) := fun w' e => (Calls.vq (eqInt64SS_c w' u v y z t t (stable_rows.ext h1 e) (stable_rows.ext h2 e)) (congrArg Value.bool (decide_eq_true rfl)))
  obtain ⟨a1, n1, k1, rfl, -⟩ := SliceR.shape h1
  obtain ⟨a2, n2, k2, rfl, -⟩ := SliceR.shape h2
  clear h1 h2
  unfold sysV MK.v at *
  go_enter Tryz.func7, Tryz.ntmps7
  go_wp2_with fail
  generalize hw0 : World.alloc _ _ = w0
  have e0 : Ext w w0 := by rw [← hw0]; exact (Ext.alloc _ _).trans (Ext.alloc _ _)
  have c5 : w0.cell? ⟨w.heap.size, 5, none⟩ = some (.slice a1 n1 k1) := by rw [← hw0]; clear hw0; go_simp
  have d5 : w0.cell? ⟨w.heap.size + 1, 5, none⟩ = some (.slice a2 n2 k2) := by rw [← hw0]; clear hw0; go_simp
  clear hw0
  refine Calls.mono (HC1.out w0) ?_
  rintro e w1 hr
  obtain ⟨r, rfl, rfl, e1⟩ := ret_ext hr
  clear hr
  replace c5 := e1.cell c5
  replace d5 := e1.cell d5
  have et := e0.trans e1
  have hcall := HC2.out w1 et
  go_wp2_with fail
  refine Calls.mono hcall ?_
  rintro e w2 ⟨rfl, hd⟩
  clear hcall
  go_wp2_with fail
  go_ret
  exact ⟨_, rfl, rfl, et.trans (Ext.ofDrew hd)⟩

/-- what markSystem leaves: a box more, and the table's numbers marked -/
def MarkSysPost (w : World) (z : Zone) (v : Value) (k : Int) (xss : List (List Int)) (e : Ending) (w' : World) : Prop :=
  e = .returned (.int .i64 (k + (offs xss xss.length : Int))) ∧ RowsR z w' v (markRows k xss) ∧ ∃ w1, Below w.heap.size w w1 ∧ Within z w1 w'
set_option maxHeartbeats 400000 in
theorem markSystem_c (w : World) (mk : MK) (v : Value) (z : Zone) (t : List (List Int)) (k0 : Int) (h : RowsR z w v t) (ho : z.own = true) (h0 : 0 ≤ k0) (h1 : k0 + (offs t t.length : Int) ≤ 4611686018427387904) :
    Calls Tryz.prog 9 #[sysV mk v, .int .i64 k0] w (MarkSysPost w z v k0 t) := by
  have hcall := fun (wq : World) (hb : Below w.heap.size w wq) => markInt64SS_c wq v z t k0 (stable_rows.below h hb) ho h0 h1
  obtain ⟨a, n, cap, rfl, -⟩ := SliceR.shape h
  clear h1
  unfold sysV
  generalize he : (Value.int .i64 (k0 + (offs t t.length : Int))) = r at *
  have HE := Lib.hid he
  clear he
  go_enter Tryz.func9, Tryz.ntmps9
  go_wp2_with fail
  generalize hw0 : World.alloc _ _ = w0
  obtain ⟨e0, S0⟩ := sys_box hw0
  clear hw0
  refine Calls.mono (hcall w0 e0) ?_
  rintro e w1 ⟨rfl, r1, hw1⟩
  go_wp2_with fail
  go_ret
  exact ⟨rfl, r1, w0, e0, hw1⟩
set_option maxHeartbeats 400000 in
theorem heldSystem_c (w : World) (mk : MK) (v : Value) (z : Zone) (t : List (List Int)) (k0 : Int) (h : RowsR z w v (markRows k0 t)) (h0 : 0 ≤ k0) (h1 : k0 + (offs t t.length : Int) ≤ 4611686018427387904) :
    Calls Tryz.prog 11 #[sysV mk v, .int .i64 k0] w (Ret w fun r _ => r = .int .i64 (k0 + (offs t t.length : Int))) := by
  have hcall := fun (wq : World) (hb : Ext w wq) => heldInt64SS_c wq v z t k0 (stable_rows.ext h hb) h0 h1
  have hge : 0 ≤ k0 + (offs t t.length : Int) := by omega
  obtain ⟨a, n, cap, rfl, -⟩ := SliceR.shape h
  clear h1 h
  unfold sysV
  generalize (k0 + (offs t t.length : Int)) = r at *
  go_enter Tryz.func11, Tryz.ntmps11
  go_wp2_with fail
  generalize hw0 : World.alloc _ _ = w0
  obtain ⟨e0, S0⟩ := sys_box hw0
  clear hw0
  refine Calls.mono (hcall w0 e0) ?_
  rintro e w1 ⟨rfl, hd⟩
  go_wp2_with fail
  go_ret
  exact ⟨_, rfl, rfl, e0.trans (Ext.ofDrew hd)⟩

/-! ### the helpers, the values written out -/
theorem eqSystemA_c (w : World) (mk : MK) (u v : Value) (y z : Zone) (t : List (List Int)) (h1 : RowsR y w u t) (h2 : RowsR z w v t) :
    Calls Tryz.prog 7 #[.agg #[.int .i64 mk.c, .int .i64 mk.d, .int .i64 mk.s, .int .i64 mk.m, .int .i64 mk.l, u], .agg #[.int .i64 mk.c, .int .i64 mk.d, .int .i64 mk.s, .int .i64 mk.m, .int .i64 mk.l, v]] w (Ret w fun r _ => r = .bool true) := eqSystem_c w mk u v y z t h1 h2
theorem markSystemA_c (w : World) (mk : MK) (v : Value) (z : Zone) (t : List (List Int)) (k0 : Int) (h : RowsR z w v t) (ho : z.own = true) (h0 : 0 ≤ k0) (h1 : k0 + (offs t t.length : Int) ≤ 4611686018427387904) :
    Calls Tryz.prog 9 #[.agg #[.int .i64 mk.c, .int .i64 mk.d, .int .i64 mk.s, .int .i64 mk.m, .int .i64 mk.l, v], .int .i64 k0] w (MarkSysPost w z v k0 t) := markSystem_c w mk v z t k0 h ho h0 h1
theorem heldSystemA_c (w : World) (mk : MK) (v : Value) (z : Zone) (t : List (List Int)) (k0 : Int) (h : RowsR z w v (markRows k0 t)) (h0 : 0 ≤ k0) (h1 : k0 + (offs t t.length : Int) ≤ 4611686018427387904) :
    Calls Tryz.prog 11 #[.agg #[.int .i64 mk.c, .int .i64 mk.d, .int .i64 mk.s, .int .i64 mk.m, .int .i64 mk.l, v], .int .i64 k0] w (Ret w fun r _ => r = .int .i64 (k0 + (offs t t.length : Int))) := heldSystem_c w mk v z t k0 h h0 h1
theorem Within.cell {z : Zone} {w w' : World} (h : Within z w w') {p : Addr} (hp : ¬ z.Has p.block) : w'.cell? p = w.cell? p := World.cell?_of_block (h.block _ hp)
end Go.Proofs.YtkeikjedbfomnaaGreatDoor
