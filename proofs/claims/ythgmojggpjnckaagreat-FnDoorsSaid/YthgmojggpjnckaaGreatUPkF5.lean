/- Proved: the pins of a lock, program and reference; the pins of all chambers of a lock, program and reference; the chambers with a thin wafer, program and reference; the chambers with a thin wafer, as the reference tells them. -/
import Derived.Test.YthgmojggpjnckaaGreatChecked
import Derived.Deep.RegionLaw
import Derived.Deep.RegionHeld3
import Derived.Deep.DeepCutAuto
import Derived.Test.YthgmojggpjnckaaGreatULockOk
import Derived.Test.YthgmojggpjnckaaGreatUPkA
namespace Go.Proofs.YthgmojggpjnckaaGreat
open Go.ChangeShapes Go.WideShapes Go.ChangeAt Go.RowKit
set_option linter.unusedVariables false

def stackAt (set : List Int) (k : Nat) : Int := if k = 0 then set.getD 0 0 else set.getD k 0 - set.getD (k-1) 0
def stackTo (set : List Int) (n : Nat) : List Int := (List.range n).map (stackAt set)
def stackL (D : Int) (set : List Int) : List Int := stackTo set set.length ++ [D - 1 - set.getD (set.length - 1) 0]
theorem stackTo_succ (set : List Int) (n : Nat) : stackTo set (n+1) = stackTo set n ++ [stackAt set n] := by
  unfold stackTo; rw [List.range_succ, List.map_append]; rfl
theorem stackTo_len (set : List Int) (n : Nat) : (stackTo set n).length = n := by simp [stackTo]
/-- a set of a lock -/
structure SetOk (D : Int) (set : List Int) : Prop where
  ne : 1 ≤ set.length
  d8 : 2 ≤ D ∧ D ≤ 8
  ri : rising set D = true
theorem LockOk.set {mk : MK} {l : List (List Int)} (h : LockOk mk l) {i : Nat} (hi : i < l.length) : SetOk mk.d (l.getD i []) := by
  obtain ⟨h1, h2⟩ := h.row i hi
  exact ⟨h1, (isMaker_iff.1 h.maker).2.1, h2⟩
theorem SetOk.len {D : Int} {set : List Int} (h : SetOk D set) : set.length ≤ 8 := by
  have := rising_length h.ri
  have := h.d8
  omega
theorem SetOk.cut {D : Int} {set : List Int} (h : SetOk D set) {i : Nat} (hi : i < set.length) : 0 ≤ set.getD i 0 ∧ set.getD i 0 < D := by
  have := rising_ge h.ri i hi
  omega

set_option maxRecDepth 20000 in
set_option maxHeartbeats 1000000 in
theorem stackOf_c (w : World) (mk : MK) (v : Value) (z : Zone) (set : List Int) (h : IntsR z w v set) (hok : SetOk mk.d set) :
    Calls Tryz.prog 156 #[mk.v, v] w (Ret w fun r w' => OwnP (Value.int .i64) 2 w.heap.size w' r (stackL mk.d set)) := by
  have HA : Hid (∀ k, 0 < k → stackAt set k = set.getD k 0 - set.getD (k-1) 0) := fun k hk => by unfold stackAt; rw [if_neg (by omega)]
  have HS := Lib.hid (fun k => stackTo_succ set k)
  have HL := Lib.hid (fun k => stackTo_len set k)
  have H1 : Hid (stackTo set 1 = [set.getD 0 0]) := rfl
  have HE : Hid (stackL mk.d set = stackTo set set.length ++ [mk.d - 1 - set.getD (set.length - 1) 0]) := rfl
  have HC : Hid (∀ i, i < set.length → 0 ≤ set.getD i 0 ∧ set.getD i 0 < mk.d) := fun i hi => hok.cut hi
  have hd8 := hok.d8
  have hne := hok.ne
  have hl8 := hok.len
  generalize stackL mk.d set = res at *
  generalize stackTo set = sT at *
  obtain ⟨a, n, cap, rfl, hn, hmax, -⟩ := SliceR.shape h
  have HX := Lib.hid (fun (k : Nat) (hk : k < n) => ints_at h hk)
  rw [← hn] at hne hl8
  have Hn := Lib.hid hn
  obtain ⟨b, off, rfl, -, hc0⟩ := HX.out 0 (by omega)
  have hc00 := hc0 w (Ext.refl _)
  rw [Nat.add_zero] at hc00
  have hbl := World.block_lt_of_cell? _ _ hc00
  simp only at hbl
  have hn0 : 0 < n := hne
  clear hn h hok hc0
  unfold MK.v
  go_enter Tryz.func156, Tryz.ntmps156
  go_wp2_with fail
  generalize hwb : World.alloc w _ = wb
  obtain ⟨eb, Sb⟩ := mk_box hwb
  have hbs : wb.heap.size = w.heap.size + 1 := by rw [← hwb]; simp
  clear hwb
  generalize hw1 : World.alloc _ _ = w1
  obtain ⟨e1, o1⟩ : Ext wb w1 ∧ OwnP (Value.int .i64) 2 (w.heap.size+1) w1 (.slice (some ⟨w.heap.size + 1, 0, none⟩) 1 1) [set.getD 0 0] := by
    subst hw1
    refine ⟨Ext.alloc _ _, ?_⟩
    have := OwnP.one (f := Value.int .i64) (e := 2) (B := w.heap.size + 1) (w := wb) (by omega) (set.getD 0 0)
    rwa [hbs] at this
  have et1 := eb.trans e1
  have c1 := e1.cell Sb.2.1
  clear hw1 hbs Sb hbl hc00
  go_loopw [5, 6] (fun s5 s6 wr => ∃ k : Nat, 1 ≤ k ∧ k ≤ n ∧ s6 = .int .i64 k ∧ OwnP (Value.int .i64) 2 (w.heap.size+1) wr s5 (sT k) ∧ Below (w.heap.size+1) w1 wr) (fun _ s6 _ => n - (intOf s6).toNat)
  case atStart => exact ⟨1, Nat.le_refl _, hne, rfl, by rw [H1.out]; exact o1, Below.refl _ _⟩
  case round =>
    obtain ⟨k, hk1, hk, rfl, own, hb⟩ := hrel
    have hsz := hb.size
    have hI : w.heap.size + 1 < w1.heap.size := (o1.block _ rfl).2
    have eW : Ext w wr := Below.trans et1 (hb.mono (by omega))
    have c1' := (hb.cell (p := ⟨w.heap.size, 1, none⟩) (by simp)).trans c1
    have HO := Lib.hid own
    have hul := HL.out k
    by_cases hlt : k < n
    · obtain ⟨_, _, he, -, hc⟩ := HX.out k hlt
      injection he with he; injection he with he1 he2 _
      subst he1; subst he2
      obtain ⟨_, _, he, -, hcp⟩ := HX.out (k-1) (by omega)
      injection he with he; injection he with he1 he2 _
      subst he1; subst he2
      replace hc := hc wr eW
      replace hcp := hcp wr eW
      have q1 := HC.out k (by rw [← Hn.out]; exact hlt)
      have q2 := HC.out (k-1) (by rw [← Hn.out]; omega)
      have HSk : Hid (sT (k+1) = sT k ++ [set.getD k 0 - set.getD (k-1) 0]) := by show _ = _; rw [HS.out, HA.out k (by omega)]
      have hwk : IntKind.i64.wrap ((k : Int) - 1) = ((k - 1 : Nat) : Int) := by rw [IntWalk.i64_in _ (by omega)]; omega
      have hk1n : k - 1 < n := by omega
      have HE2 : Hid (w.heap.size + 1 ≤ wr.heap.size) := by show _ ≤ _; omega
      generalize set.getD k 0 = x at *
      generalize set.getD (k-1) 0 = y at *
      generalize hst : sT k = st at *
      have HLs : Hid (st.length + 1 ≤ 1099511627776) := by show _ ≤ _; omega
      have hwxy : IntKind.i64.wrap (x - y) = x - y := IntWalk.i64_in _ (by omega)
      clear hst own hul
      go_wp2_with fail
      go_region_law (first | (refine step_append_of (by rfl) _ _ 41 (by rfl) (by rfl) (by rfl) (fun ty => run_append1 (f := Value.int .i64) (e := 2) (B := w.heap.size + 1) 41 ty 0 8 Tryz.underlying41 Tryz.infoI64 rfl (fun _ => rfl) (OwnP.drewN HO.out 1) (x - y) rfl HLs.out (by decide) HE2.out) ?_; intro v8 w8 h8))
      all_goals
        have b8 : Below (w.heap.size + 1) w1 w8 := (hb.drewN 1).trans h8.2.2.1
        have o8 := h8.1
        clear h8
        go_wp2_with fail
        go_roundw
        case rel => exact ⟨k+1, by omega, by omega, by go_num, by rw [HSk.out]; exact o8, b8⟩
        case measure => simp [intOf]; omega
    · have hkn : k = n := by omega
      obtain ⟨_, _, he, -, hc⟩ := HX.out (n-1) (by omega)
      injection he with he; injection he with he1 he2 _
      subst he1; subst he2
      replace hc := hc wr eW
      have q1 := HC.out (n-1) (by rw [← Hn.out]; omega)
      have HR : Hid (res = sT k ++ [mk.d - 1 - set.getD (n-1) 0]) := by show _ = _; rw [HE.out, ← Hn.out, hkn]
      have hwn : IntKind.i64.wrap ((n : Int) - 1) = ((n - 1 : Nat) : Int) := by rw [IntWalk.i64_in _ (by omega)]; omega
      have hwd : IntKind.i64.wrap (mk.d - 1) = mk.d - 1 := IntWalk.i64_in _ (by omega)
      have hn1n : n - 1 < n := by omega
      have HE2 : Hid (w.heap.size + 1 ≤ wr.heap.size) := by show _ ≤ _; omega
      generalize set.getD (n-1) 0 = x at *
      generalize hst : sT k = st at *
      have HLs : Hid (st.length + 1 ≤ 1099511627776) := by show _ ≤ _; omega
      have hwxy : IntKind.i64.wrap (mk.d - 1 - x) = mk.d - 1 - x := IntWalk.i64_in _ (by omega)
      clear hst own hul hkn
      go_wp2_with fail
      go_region_law (first | (refine step_append_of (by rfl) _ _ 41 (by rfl) (by rfl) (by rfl) (fun ty => run_append1 (f := Value.int .i64) (e := 2) (B := w.heap.size + 1) 41 ty 0 8 Tryz.underlying41 Tryz.infoI64 rfl (fun _ => rfl) (OwnP.drewN HO.out 1) (mk.d - 1 - x) rfl HLs.out (by decide) HE2.out) ?_; intro v8 w8 h8))
      all_goals
        have b8 : Below (w.heap.size + 1) w1 w8 := (hb.drewN 1).trans h8.2.2.1
        have o8 := h8.1
        clear h8
        go_wp2_with fail
        go_ret
        exact ⟨_, rfl, by rw [HR.out]; exact o8.lower (Nat.le_succ _), Below.trans et1 (b8.mono (by omega))⟩

open Go.ChangeShapes Go.WideShapes Go.ChangeAt Go.RowKit
set_option linter.unusedVariables false

theorem SetOk.lt {D : Int} {set : List Int} (h : SetOk D set) {k : Nat} (h0 : 0 < k) (hk : k < set.length) : set.getD (k-1) 0 < set.getD k 0 := by
  have := (List.all_eq_true.1 h.ri) k (List.mem_range.2 hk)
  unfold risingAt at this
  exact (of_decide_eq_true this).2.2 h0
theorem stackAt_in {D : Int} {set : List Int} (h : SetOk D set) {k : Nat} (hk : k < set.length) : 0 ≤ stackAt set k ∧ stackAt set k < D := by
  unfold stackAt
  have h1 := h.cut hk
  by_cases e : k = 0
  · rw [if_pos e]; subst e; exact h1
  · rw [if_neg e]
    have h2 := h.cut (i := k - 1) (by omega)
    have h3 := h.lt (by omega) hk
    omega
theorem stackL_in {D : Int} {set : List Int} (h : SetOk D set) : ∀ x ∈ stackL D set, 0 ≤ x ∧ x < D := by
  intro x hx
  unfold stackL stackTo at hx
  rcases List.mem_append.1 hx with hx | hx
  · obtain ⟨k, hk, rfl⟩ := List.mem_map.1 hx
    exact stackAt_in h (List.mem_range.1 hk)
  · rw [List.mem_singleton.1 hx]
    have h1 := h.ne
    have := h.cut (i := set.length - 1) (by omega)
    omega
theorem stackL_len (D : Int) (set : List Int) : (stackL D set).length = set.length + 1 := by
  unfold stackL; rw [List.length_append, stackTo_len]; rfl
def pinsTo (D : Int) (l : List (List Int)) (n : Nat) : List (List Int) := (List.range n).map fun i => stackL D (l.getD i [])
def pinsL (D : Int) (l : List (List Int)) : List (List Int) := pinsTo D l l.length
theorem pinsTo_succ (D : Int) (l : List (List Int)) (n : Nat) : pinsTo D l (n+1) = pinsTo D l n ++ [stackL D (l.getD n [])] := by
  unfold pinsTo; rw [List.range_succ, List.map_append]; rfl
theorem pinsTo_len (D : Int) (l : List (List Int)) (n : Nat) : (pinsTo D l n).length = n := by simp [pinsTo]

set_option maxRecDepth 20000 in
set_option maxHeartbeats 1000000 in
theorem pinsOf_c (w : World) (mk : MK) (v : Value) (z : Zone) (l : List (List Int)) (h : RowsR z w v l) (hok : LockOk mk l) :
    Calls Tryz.prog 124 #[mk.v, .agg #[v]] w (Ret w fun r w' => RowsR (.new w w') w' r (pinsL mk.d l)) := by
  have hm := isMaker_iff.1 hok.maker
  have HC := Lib.hid (fun (w' : World) (u : Value) (y : Zone) (xs : List Int) (g : IntsR y w' u xs) (ok : SetOk mk.d xs) => stackOf_c w' mk u y xs g ok)
  have HSO : Hid (∀ i, i < l.length → SetOk mk.d (l.getD i [])) := fun i hi => hok.set hi
  have HS := Lib.hid (fun k => pinsTo_succ mk.d l k)
  have HL := Lib.hid (fun k => pinsTo_len mk.d l k)
  have H0 : Hid (pinsTo mk.d l 0 = []) := rfl
  have HE : Hid (pinsL mk.d l = pinsTo mk.d l l.length) := rfl
  have HST : Hid (∀ i, i < l.length → ∀ x ∈ stackL mk.d (l.getD i []), I64 x) := fun i hi x hx => by have := stackL_in (hok.set hi) x hx; unfold I64; omega
  have hl6 : l.length ≤ 6 := by have := hok.len; omega
  generalize pinsL mk.d l = res at *
  generalize pinsTo mk.d l = pT at *
  obtain ⟨a, n, cap, rfl, hn, hmax, -⟩ := SliceR.shape h
  have HT := Lib.hid (fun (k : Nat) (hk : k < n) => rows_at h hk)
  rw [← hn] at hl6
  have Hn := Lib.hid hn
  clear hn h hok hm
  unfold MK.v at *
  go_enter Tryz.func124, Tryz.ntmps124
  go_wp2_with fail
  generalize hw1 : World.alloc _ _ = w1
  have e1 : Ext w w1 := by rw [← hw1]; exact ((Ext.alloc _ _).trans (Ext.alloc _ _)).trans (Ext.alloc _ _)
  have c0 : w1.cell? ⟨w.heap.size, 0, none⟩ = some (.int .i64 mk.c) := by rw [← hw1]; clear hw1; go_simp
  have c1 : w1.cell? ⟨w.heap.size, 1, none⟩ = some (.int .i64 mk.d) := by rw [← hw1]; clear hw1; go_simp
  have c2 : w1.cell? ⟨w.heap.size, 2, none⟩ = some (.int .i64 mk.s) := by rw [← hw1]; clear hw1; go_simp
  have c3 : w1.cell? ⟨w.heap.size, 3, none⟩ = some (.int .i64 mk.m) := by rw [← hw1]; clear hw1; go_simp
  have c4 : w1.cell? ⟨w.heap.size, 4, none⟩ = some (.int .i64 mk.l) := by rw [← hw1]; clear hw1; go_simp
  have o1 : OwnR true (w.heap.size+2) IntsR 41 (w.heap.size+2) w1 (.slice (some ⟨w.heap.size + 1 + 1, 0, none⟩) 0 0) [] := by
    rw [← hw1]
    have := OwnR.empty (b := true) (L := w.heap.size + 2) (E := IntsR) (e := 41) (B := w.heap.size + 2) (w := (w.alloc (.cells #[.int .i64 mk.c, .int .i64 mk.d, .int .i64 mk.s, .int .i64 mk.m, .int .i64 mk.l] 25)).alloc (.cells #[.slice a n cap] 62)) (by simp)
    simpa using this
  have HI : Hid (w.heap.size + 2 < w1.heap.size) := (o1.block _ rfl).2
  clear hw1
  go_loopw [5, 7, 12] (fun s5 _ s12 wr => ∃ k : Nat, k ≤ n ∧ s12 = .int .i64 k ∧ OwnR true (w.heap.size+2) IntsR 41 (w.heap.size+2) wr s5 (pT k) ∧ Below (w.heap.size+2) w1 wr) (fun _ _ s12 _ => n - (intOf s12).toNat)
  case atStart => exact ⟨0, Nat.zero_le _, rfl, by rw [H0.out]; exact o1, Below.refl _ _⟩
  case round =>
    obtain ⟨k, hk, rfl, own, hb⟩ := hrel
    have hsz := hb.size
    have hI := HI.out
    have eW : Ext w wr := Below.trans e1 (hb.mono (by omega))
    have c0' := (hb.cell (p := ⟨w.heap.size, 0, none⟩) (by simp)).trans c0
    have c1' := (hb.cell (p := ⟨w.heap.size, 1, none⟩) (by simp)).trans c1
    have c2' := (hb.cell (p := ⟨w.heap.size, 2, none⟩) (by simp)).trans c2
    have c3' := (hb.cell (p := ⟨w.heap.size, 3, none⟩) (by simp)).trans c3
    have c4' := (hb.cell (p := ⟨w.heap.size, 4, none⟩) (by simp)).trans c4
    have hlen := HL.out k
    by_cases hlt : k < n
    · obtain ⟨b, off, rfl, a1, n1, k1, -, -, -, hc, ⟨y, -, hy⟩, -⟩ := HT.out k hlt
      replace hc := hc wr eW
      have hkl : k < l.length := by rw [← Hn.out]; exact hlt
      have hcall := HC.out wr _ y _ (hy wr eW) (HSO.out k hkl)
      have HSk := Lib.hid (HS.out k)
      have HI64 := Lib.hid (HST.out k hkl)
      clear hy hkl
      generalize stackL mk.d (l.getD k []) = st at *
      generalize hps : pT k = ps at *
      clear hps
      go_wp2_with fail
      refine Calls.mono hcall ?_
      rintro e w2 hr
      obtain ⟨r, rfl, o2, e2⟩ := ret_ext hr
      clear hr hcall
      obtain ⟨xa, xn, xc, rfl, -⟩ := o2.shape
      have hx := OwnP.ints (lo := wr.heap.size) o2 HI64.out (Nat.le_refl _)
      go_wp2_with (at_builtin; (refine wpList_appendRow (E := IntsR) (L := w.heap.size + 2) (B := w.heap.size + 2) (xs := ps) stable_ints slRepr_slice rfl _ _ 30 rfl Tryz.underlying30 Tryz.infoInts rfl own e2 (xa, xn, xc) st hx rfl (by omega) (by omega) (by omega) ?_); intro v6 w6 hown6 hb6 hs6 hg6 hat6)
      go_roundw
      case rel => exact ⟨k + 1, by omega, by go_num, by rw [HSk.out]; exact hown6, hb.trans hb6⟩
      case measure => simp [intOf]; omega
    · have hkn : k = l.length := by have := Hn.out; omega
      go_wp2_with fail
      go_ret
      refine ⟨_, rfl, ?_, eW⟩
      rw [HE.out, ← hkn]
      exact stable_rows.sub (own.reads (Nat.le_refl _)) ⟨fun k hk => ⟨by have q1 := hk.1; simp only [Zone.new] at *; omega, hk.2⟩, fun _ => rfl⟩

open Go.ChangeShapes Go.WideShapes Go.ChangeAt Go.RowKit
set_option linter.unusedVariables false

def gapAt (set : List Int) (least : Int) (k : Nat) : Bool := decide (0 < k) && decide (set.getD k 0 - set.getD (k-1) 0 < least)
def thinSet (set : List Int) (least : Int) (n : Nat) : Bool := (List.range n).any (gapAt set least)
theorem thinSet_succ (set : List Int) (least : Int) (n : Nat) : thinSet set least (n+1) = (thinSet set least n || gapAt set least n) := by
  unfold thinSet; rw [List.range_succ, List.any_append]; simp
def thinP (l : List (List Int)) (least : Int) (i : Int) : Bool := thinSet (l.getD i.toNat []) least (l.getD i.toNat []).length
def thinList (l : List (List Int)) (least : Int) : List Int := upto (thinP l least) l.length
def thinOf (mk : MK) (l : List (List Int)) (least : Int) : List Int × Int := if inB least 1 mk.d = true then (thinList l least, 0) else ([], 2)
/-- the wafers of a stack -/
theorem gaps_thin {D : Int} {set : List Int} (h : SetOk D set) (least : Int) : allB (((stackL D set).take set.length).drop 1) least D = !thinSet set least set.length := by
  have e1 : (stackL D set).take set.length = stackTo set set.length := by
    unfold stackL; rw [List.take_append_of_le_length (by rw [stackTo_len]; exact Nat.le_refl _)]
    exact List.take_of_length_le (by rw [stackTo_len]; exact Nat.le_refl _)
  rw [e1]
  have hg : ∀ k, 0 < k → k < set.length → stackAt set k = set.getD k 0 - set.getD (k-1) 0 := fun k hk _ => by unfold stackAt; rw [if_neg (by omega)]
  cases ht : thinSet set least set.length with
  | true =>
    obtain ⟨k, hk, hk2⟩ := List.any_eq_true.1 ht
    have hk := List.mem_range.1 hk
    unfold gapAt at hk2
    obtain ⟨h1, h2⟩ := Bool.and_eq_true_iff.1 hk2
    have h1 := of_decide_eq_true h1
    have h2 := of_decide_eq_true h2
    refine allB_bad (k - 1) (by rw [List.length_drop, stackTo_len]; omega) ?_
    have e : ((stackTo set set.length).drop 1).getD (k-1) 0 = stackAt set k := by
      rw [List.getD_eq_getElem?_getD, List.getElem?_drop, show 1 + (k - 1) = k by omega]
      simp [stackTo, hk]
    rw [e, hg k h1 hk]
    unfold inB
    rw [decide_eq_false (by omega)]; rfl
  | false =>
    refine allB_good (fun j hj => ?_)
    rw [List.length_drop, stackTo_len] at hj
    have hk : j + 1 < set.length := by omega
    have e : ((stackTo set set.length).drop 1).getD j 0 = stackAt set (j+1) := by
      rw [List.getD_eq_getElem?_getD, List.getElem?_drop, show 1 + j = j + 1 by omega]
      simp [stackTo, hk]
    have hin := stackAt_in h hk
    rw [e]
    have hno : gapAt set least (j+1) = false := by
      have := (List.any_eq_false.1 ht) (j+1) (List.mem_range.2 hk)
      simpa using this
    unfold gapAt at hno
    rw [decide_eq_true (by omega), Bool.true_and] at hno
    have hno := of_decide_eq_false hno
    rw [hg (j+1) (by omega) hk] at hin ⊢
    exact inB_iff.2 (by omega)

set_option maxRecDepth 20000 in
set_option maxHeartbeats 1000000 in
theorem thinCode_c (w : World) (mk : MK) (v : Value) (z : Zone) (l : List (List Int)) (h : RowsR z w v l) (hok : LockOk mk l) (least : Int) :
    Calls Tryz.prog 123 #[mk.v, .agg #[v], .int .i64 least] w (Ret w fun r _ => r = .int .i64 (if inB least 1 mk.d = true then 0 else 2)) := by
  have HLC := Lib.hid (fun (w' : World) (x : Value) (zx : Zone) (g : LocksR zx w' x [l]) => locksCode_c w' mk hok.maker x zx [l] g (fun i hi => by
    have : i = 0 := by simpa using hi
    subst this; exact hok))
  have HW := Lib.hid (fun w' => within_c w' least 1 mk.d)
  obtain ⟨a, n, cap, rfl, -⟩ := SliceR.shape h
  have HX := Lib.hid (fun (w' : World) (e : Ext w w') => stable_rows.ext h e)
  generalize inB least 1 mk.d = q at *
  clear h hok
  unfold MK.v at *
  go_enter Tryz.func123, Tryz.ntmps123
  go_wp2_with fail
  generalize hwb : World.alloc (World.alloc w _) _ = wb
  have eb : Ext w wb := by rw [← hwb]; exact (Ext.alloc _ _).trans (Ext.alloc _ _)
  have hbs : wb.heap.size = w.heap.size + 1 + 1 := by rw [← hwb]; simp
  have c1 : wb.cell? ⟨w.heap.size, 1, none⟩ = some (.int .i64 mk.d) := by rw [← hwb]; clear hwb; go_simp
  clear hwb
  generalize hw0 : World.alloc _ _ = w0
  obtain ⟨e0', g0⟩ := locks_one (HX.out wb eb) hw0
  rw [hbs] at g0
  clear hw0 hbs
  replace c1 := e0'.cell c1
  have e0 := eb.trans e0'
  refine Calls.mono (HLC.out w0 _ _ g0) ?_
  rintro e w1 hr
  obtain ⟨r, rfl, rfl, e1⟩ := ret_ext hr
  clear hr g0
  replace c1 := e1.cell c1
  have hcall := HW.out w1
  go_wp2_with fail
  refine Calls.mono hcall ?_
  rintro e w2 ⟨rfl, hd⟩
  clear hcall
  cases q with
  | true =>
    go_wp2_with fail
    go_ret
    exact ⟨_, rfl, rfl, (e0.trans e1).trans (Ext.ofDrew hd)⟩
  | false =>
    go_wp2_with fail
    go_ret
    exact ⟨_, rfl, rfl, (e0.trans e1).trans (Ext.ofDrew hd)⟩

set_option maxRecDepth 20000 in
set_option maxHeartbeats 1000000 in
theorem l05Code_c (w : World) (mk : MK) (v : Value) (z : Zone) (l : List (List Int)) (h : RowsR z w v l) (hok : LockOk mk l) (least : Int) :
    Calls Tryz.prog 125 #[mk.v, .agg #[v], .int .i64 least] w (Ret w fun r _ => r = .int .i64 (if inB least 1 mk.d = true then 0 else 2)) := by
  have HLC := Lib.hid (fun (w' : World) (e : Ext w w') => IsLockSpec_c w' mk v z l (stable_rows.ext h e) hok)
  have HW := Lib.hid (fun w' => l01In_c w' least 1 mk.d)
  obtain ⟨a, n, cap, rfl, -⟩ := SliceR.shape h
  generalize inB least 1 mk.d = q at *
  clear h hok
  unfold MK.v at *
  go_enter Tryz.func125, Tryz.ntmps125
  go_wp2_with fail
  generalize hwb : World.alloc _ _ = wb
  have eb : Ext w wb := by rw [← hwb]; exact (Ext.alloc _ _).trans (Ext.alloc _ _)
  have c1 : wb.cell? ⟨w.heap.size, 1, none⟩ = some (.int .i64 mk.d) := by rw [← hwb]; clear hwb; go_simp
  clear hwb
  refine Calls.mono (HLC.out wb eb) ?_
  rintro e w1 hr
  obtain ⟨r, rfl, rfl, e1⟩ := ret_ext hr
  clear hr
  replace c1 := e1.cell c1
  have hcall := HW.out w1
  go_wp2_with fail
  refine Calls.mono hcall ?_
  rintro e w2 ⟨rfl, hd⟩
  clear hcall
  cases q with
  | true =>
    go_wp2_with fail
    go_ret
    exact ⟨_, rfl, rfl, (eb.trans e1).trans (Ext.ofDrew hd)⟩
  | false =>
    go_wp2_with fail
    go_ret
    exact ⟨_, rfl, rfl, (eb.trans e1).trans (Ext.ofDrew hd)⟩

set_option maxRecDepth 20000 in
set_option maxHeartbeats 1000000 in
theorem ThinChambers_c (w : World) (mk : MK) (v : Value) (z : Zone) (l : List (List Int)) (h : RowsR z w v l) (hok : LockOk mk l) (least : Int) :
    Calls Tryz.prog 91 #[mk.v, .agg #[v], .int .i64 least] w (Ret w (IntsCode w (thinOf mk l least))) := by
  have H1 : Hid (inB least 1 mk.d = false → thinOf mk l least = ([], 2)) := fun h => by unfold thinOf; rw [if_neg (by rw [h]; decide)]
  have H2 : Hid (inB least 1 mk.d = true → thinOf mk l least = (thinList l least, 0)) := fun h => by unfold thinOf; rw [if_pos h]
  have HC1 := Lib.hid (fun (w' : World) (e : Ext w w') => thinCode_c w' mk v z l (stable_rows.ext h e) hok least)
  have HC2 := Lib.hid (fun (w' : World) (e : Ext w w') => pinsOf_c w' mk v z l (stable_rows.ext h e) hok)
  have HG : Hid (∀ i, i < l.length → allB ((((pinsL mk.d l).getD i []).take (((pinsL mk.d l).getD i []).length - 1)).drop 1) least mk.d = !thinP l least (i : Int)) := fun i hi => by
    have e : (pinsL mk.d l).getD i [] = stackL mk.d (l.getD i []) := by unfold pinsL pinsTo; simp [hi]
    rw [e, stackL_len, Nat.add_sub_cancel]
    exact gaps_thin (hok.set hi) least
  have HPL : Hid (∀ i, i < l.length → 2 ≤ ((pinsL mk.d l).getD i []).length) := fun i hi => by
    have e : (pinsL mk.d l).getD i [] = stackL mk.d (l.getD i []) := by unfold pinsL pinsTo; simp [hi]
    rw [e, stackL_len]
    have := (hok.set hi).ne
    omega
  have HPN : Hid ((pinsL mk.d l).length = l.length) := pinsTo_len _ _ _
  have HU1 := Lib.hid (fun (k : Nat) (h : thinP l least k = true) => upto_yes h)
  have HU2 := Lib.hid (fun (k : Nat) (h : thinP l least k = false) => upto_no h)
  have HUL := Lib.hid (fun (k : Nat) => upto_length (thinP l least) k)
  have H0 : Hid (upto (thinP l least) 0 = []) := rfl
  have HE : Hid (thinList l least = upto (thinP l least) l.length) := rfl
  have hm := isMaker_iff.1 hok.maker
  have hl6 : l.length ≤ 6 := by have := hok.len; omega
  have HI64 : Hid (∀ x ∈ thinList l least, I64 x) := upto_i64 (by omega)
  generalize thinOf mk l least = res at *
  generalize pinsL mk.d l = ps at *
  generalize thinList l least = tl at *
  generalize upto (thinP l least) = uT at *
  generalize thinP l least = p at *
  obtain ⟨a, n, cap, rfl, hn, -⟩ := SliceR.shape h
  rw [← hn] at hl6
  have Hn : Hid (n = l.length) := hn
  clear hn h hok hm
  unfold MK.v at *
  go_enter Tryz.func91, Tryz.ntmps91
  go_wp2_with fail
  generalize hwb : World.alloc _ _ = wb
  have eb : Ext w wb := by rw [← hwb]; exact (Ext.alloc _ _).trans (Ext.alloc _ _)
  have c0 : wb.cell? ⟨w.heap.size, 0, none⟩ = some (.int .i64 mk.c) := by rw [← hwb]; clear hwb; go_simp
  have c1 : wb.cell? ⟨w.heap.size, 1, none⟩ = some (.int .i64 mk.d) := by rw [← hwb]; clear hwb; go_simp
  have c2 : wb.cell? ⟨w.heap.size, 2, none⟩ = some (.int .i64 mk.s) := by rw [← hwb]; clear hwb; go_simp
  have c3 : wb.cell? ⟨w.heap.size, 3, none⟩ = some (.int .i64 mk.m) := by rw [← hwb]; clear hwb; go_simp
  have c4 : wb.cell? ⟨w.heap.size, 4, none⟩ = some (.int .i64 mk.l) := by rw [← hwb]; clear hwb; go_simp
  have d0 : wb.cell? ⟨w.heap.size + 1, 0, none⟩ = some (.slice a n cap) := by rw [← hwb]; clear hwb; go_simp
  have hbs : wb.heap.size = w.heap.size + 2 := by rw [← hwb]; simp
  have Hbs := Lib.hid hbs
  clear hwb hbs
  refine Calls.mono (HC1.out wb eb) ?_
  rintro e w1 hr
  obtain ⟨r, rfl, rfl, e1⟩ := ret_ext hr
  clear hr
  have et := eb.trans e1
  replace c0 := e1.cell c0
  replace c1 := e1.cell c1
  replace c2 := e1.cell c2
  replace c3 := e1.cell c3
  replace c4 := e1.cell c4
  replace d0 := e1.cell d0
  have hlt1 : w.heap.size + 1 < w1.heap.size := by have := e1.size; have := Hbs.out; omega
  have hlt0 : w.heap.size < w1.heap.size := by omega
  cases hq : inB least 1 mk.d with
  | false =>
    have HH := Lib.hid (H1.out hq)
    have hf : (if (false : Bool) = true then (0 : Int) else 2) = 2 := rfl
    rw [hf]
    clear hq hf
    go_wp2_with fail
    go_ret2
    exact ⟨_, rfl, IntsCode_nil HH.out, et⟩
  | true =>
    have HH := Lib.hid (H2.out hq)
    have hf : (if (true : Bool) = true then (0 : Int) else 2) = 0 := rfl
    rw [hf]
    clear hq hf
    go_wp2_with fail
    generalize hwx : World.alloc _ _ = wx
    obtain ⟨ex, ox⟩ : Ext w1 wx ∧ OwnP (Value.int .i64) 2 w1.heap.size wx (.slice (some ⟨w1.heap.size, 0, none⟩) 0 0) [] := by
      subst hwx
      exact ⟨Ext.alloc _ _, OwnP.empty (Nat.le_refl _)⟩
    have HIx : Hid (wx.heap.size = w1.heap.size + 1) := by show _ = _; rw [← hwx]; simp
    clear hwx
    refine Calls.mono (HC2.out wx (et.trans ex)) ?_
    rintro e w2 hr
    obtain ⟨r, rfl, hP, e2⟩ := ret_ext hr
    clear hr HC2
    have o2 := ox.ext e2
    clear ox
    obtain ⟨pa, pn, pc, rfl, hpn, hpmax, -⟩ := SliceR.shape hP
    have Hpn : Hid (pn = l.length) := by show _ = _; rw [hpn, HPN.out]
    have hp6 : pn ≤ 6 := by have := Hpn.out; have := Hn.out; omega
    have HPk := Lib.hid hP
    clear hP hpn
    have hs2 := e2.size
    have hoff : Off (.slice (some ⟨w1.heap.size, 0, none⟩) 0 0) wx.heap.size w2.heap.size := by
      refine Off.of (fun k hk => ?_)
      have h1 : k = w1.heap.size := (Option.some.inj hk).symm
      have := HIx.out
      omega
    have c1x := (ex.trans e2).cell c1
    have c1xw := Lib.hid c1
    clear c0 c1 c2 c3 c4 d0
    go_wp2_with fail
    go_loopw [9, 10, 11, 24] (fun s9 _ _ s24 wr => ∃ k : Nat, k ≤ pn ∧ s24 = .int .i64 k ∧ OwnP (Value.int .i64) 2 w1.heap.size wr s9 (uT k) ∧ Below w1.heap.size w1 wr ∧ Same (.new wx w2) w2 wr ∧ Off s9 wx.heap.size w2.heap.size ∧ w2.heap.size ≤ wr.heap.size) (fun _ _ _ s24 _ => pn - (intOf s24).toNat)
    case atStart => exact ⟨0, Nat.zero_le _, rfl, by rw [H0.out]; exact o2, Ext.trans ex e2, Same.refl _ _, hoff, Nat.le_refl _⟩
    case round =>
      clear c1x
      obtain ⟨k, hk, rfl, own, hbw, hsm, hof, hsz⟩ := hrel
      have ew : Ext w wr := Ext.trans et hbw
      have hIx := HIx.out
      have c1 := Ext.cell hbw c1xw.out
      by_cases hlt : k < pn
      · have hkl : k < l.length := by rw [← Hpn.out]; exact hlt
        have hPr := stable_rows.keep HPk.out hsm
        obtain ⟨bl, ol, rfl, a3, n3, k3, hn3, hm3, hcap3, hcl, ⟨yl, -, hyl⟩, -⟩ := rows_at hPr hlt
        have hcl' := hcl wr (Ext.refl _)
        have hn2 := HPL.out k hkl
        have hGk := HG.out k hkl
        rw [← hn3] at hn2 hGk
        have hy0 := hyl wr (Ext.refl _)
        obtain ⟨b3, o3, rfl, -, -⟩ := ints_at hy0 (k := 0) (by omega)
        have hfr := SliceR.front hy0 (n3 - 1) (by omega)
        have hrs := SliceR.rest hfr 1 (by omega) (a := some ⟨b3, o3 + 1, none⟩) (by rw [if_neg (by omega)])
        have HAW : Hid (∀ m, Calls Tryz.prog 76 #[.slice (some ⟨b3, o3 + 1, none⟩) (n3 - 1 - 1) (k3 - 1), .int .i64 least, .int .i64 mk.d] (wr.drewN m) (RetQ (wr.drewN m) (.bool (!p (k : Int))))) := fun m => by
          have := allWithin_c (wr.drewN m) _ yl _ least mk.d (stable_ints.drewN hrs m)
          rwa [hGk] at this
        have HU1k := Lib.hid (HU1.out k)
        have HU2k := Lib.hid (HU2.out k)
        have hul := HUL.out k
        have hwn : IntKind.i64.wrap ((n3 : Int) - 1) = ((n3 - 1 : Nat) : Int) := by rw [IntWalk.i64_in _ (by omega)]; omega
        have hs1 : 1 ≤ n3 - 1 := by omega
        have hs2' : n3 - 1 ≤ k3 := by omega
        clear hcl hyl hy0 hfr hrs hGk hn3 hPr
        generalize hpk : p (k : Int) = q at *
        generalize hup : uT k = up at *
        have HQ := Lib.hid hpk
        clear hup hpk
        go_wp2_with fail
        go_quiet ((go_at_call 76; exact RetQ.quiet (HAW.out _)))
        have own4 := own.drewN nq
        have hb4 : Below w1.heap.size w1 (wr.drewN nq) := hbw.drewN nq
        have hm4 : Same (.new wx w2) w2 (wr.drewN nq) := hsm
        have hz4 : w2.heap.size ≤ (wr.drewN nq).heap.size := hsz
        generalize wr.drewN nq = wq at *
        clear own hbw hsm hsz
        cases q with
        | true =>
          have HV := Lib.hid (HU1k.out rfl)
          go_wp2_with (at_builtin; (refine wpList_append1X (f := Value.int .i64) (e := 2) (B := w1.heap.size) (xs := up) rfl _ _ 41 rfl 0 8 Tryz.underlying41 Tryz.infoI64 rfl (fun _ => rfl) rfl own4 (k : Int) rfl (by omega) (by omega) (by omega) ?_); intro v8 w8 hown8 hg8 hb8 hat8)
          have m9 : Same (.new wx w2) w2 w8 := Same.grown hm4 (by omega) hg8 (fun j hj => Off.not hof j hj)
          have f9 : Off v8 wx.heap.size w2.heap.size := Off.next hof (by omega) hat8
          have z9 : w2.heap.size ≤ w8.heap.size := by have := hb8.size; omega
          go_roundw
          case rel => exact ⟨k+1, by omega, by go_num, by rw [HV.out]; exact hown8, hb4.trans hb8, m9, f9, z9⟩
          case measure => simp [intOf]; omega
        | false =>
          have HV := Lib.hid (HU2k.out rfl)
          go_wp2_with fail
          go_roundw
          case rel => exact ⟨k+1, by omega, by go_num, by rw [HV.out]; exact own4, hb4, hm4, hof, hz4⟩
          case measure => simp [intOf]; omega
      · have hkn : k = l.length := by have := Hpn.out; omega
        have HR : Hid (res = (uT k, 0)) := by show _ = _; rw [HH.out, hkn, HE.out]
        have HI : Hid (∀ x ∈ uT k, I64 x) := by show ∀ x ∈ _, _; rw [hkn, ← HE.out]; exact HI64.out
        obtain ⟨oa, on, oc, rfl, -⟩ := own.shape
        go_wp2_with fail
        go_ret2
        exact ⟨_, rfl, IntsCode_own HR.out (own.lower et.size) HI.out, ew⟩

open Go.ChangeShapes Go.WideShapes Go.ChangeAt Go.RowKit
set_option linter.unusedVariables false

theorem thinSet_one (set : List Int) (least : Int) : thinSet set least 1 = false := rfl

set_option maxRecDepth 20000 in
set_option maxHeartbeats 1000000 in
theorem ThinChambersSpec_c (w : World) (mk : MK) (v : Value) (z : Zone) (l : List (List Int)) (h : RowsR z w v l) (hok : LockOk mk l) (least : Int) :
    Calls Tryz.prog 92 #[mk.v, .agg #[v], .int .i64 least] w (Ret w (IntsCode w (thinOf mk l least))) := by
  have H1 : Hid (inB least 1 mk.d = false → thinOf mk l least = ([], 2)) := fun h => by unfold thinOf; rw [if_neg (by rw [h]; decide)]
  have H2 : Hid (inB least 1 mk.d = true → thinOf mk l least = (thinList l least, 0)) := fun h => by unfold thinOf; rw [if_pos h]
  have HC1 := Lib.hid (fun (w' : World) (e : Ext w w') => l05Code_c w' mk v z l (stable_rows.ext h e) hok least)
  have HP : Hid (∀ i : Nat, thinP l least (i : Int) = thinSet (l.getD i []) least (l.getD i []).length) := fun i => rfl
  have HTS := Lib.hid (fun (i k : Nat) => thinSet_succ (l.getD i []) least k)
  have HGA : Hid (∀ i k : Nat, 0 < k → gapAt (l.getD i []) least k = decide ((l.getD i []).getD k 0 - (l.getD i []).getD (k-1) 0 < least)) := fun i k hk => by unfold gapAt; rw [decide_eq_true hk, Bool.true_and]
  have HT1 : Hid (∀ i : Nat, thinSet (l.getD i []) least 1 = false) := fun i => rfl
  have HSO : Hid (∀ i, i < l.length → SetOk mk.d (l.getD i [])) := fun i hi => hok.set hi
  have HU1 := Lib.hid (fun (k : Nat) (h : thinP l least k = true) => upto_yes h)
  have HU2 := Lib.hid (fun (k : Nat) (h : thinP l least k = false) => upto_no h)
  have HUL := Lib.hid (fun (k : Nat) => upto_length (thinP l least) k)
  have H0 : Hid (upto (thinP l least) 0 = []) := rfl
  have HE : Hid (thinList l least = upto (thinP l least) l.length) := rfl
  have hm := isMaker_iff.1 hok.maker
  have hl6 : l.length ≤ 6 := by have := hok.len; omega
  have HI64 : Hid (∀ x ∈ thinList l least, I64 x) := upto_i64 (by omega)
  generalize thinOf mk l least = res at *
  generalize thinList l least = tl at *
  generalize upto (thinP l least) = uT at *
  generalize thinP l least = p at *
  obtain ⟨a, n, cap, rfl, hn, hmaxn, -⟩ := SliceR.shape h
  have HT := Lib.hid (fun (k : Nat) (hk : k < n) => rows_at h hk)
  rw [← hn] at hl6
  have Hn : Hid (n = l.length) := hn
  clear hn h hok hm
  unfold MK.v at *
  go_enter Tryz.func92, Tryz.ntmps92
  go_wp2_with fail
  generalize hwb : World.alloc _ _ = wb
  have eb : Ext w wb := by rw [← hwb]; exact (Ext.alloc _ _).trans (Ext.alloc _ _)
  have d0 : wb.cell? ⟨w.heap.size + 1, 0, none⟩ = some (.slice a n cap) := by rw [← hwb]; clear hwb; go_simp
  have hbs : wb.heap.size = w.heap.size + 2 := by rw [← hwb]; simp
  have Hbs := Lib.hid hbs
  clear hwb hbs
  refine Calls.mono (HC1.out wb eb) ?_
  rintro e w1 hr
  obtain ⟨r, rfl, rfl, e1⟩ := ret_ext hr
  clear hr
  have et := eb.trans e1
  replace d0 := e1.cell d0
  cases hq : inB least 1 mk.d with
  | false =>
    have HH := Lib.hid (H1.out hq)
    have hf : (if (false : Bool) = true then (0 : Int) else 2) = 2 := rfl
    rw [hf]
    clear hq hf
    go_wp2_with fail
    go_ret2
    exact ⟨_, rfl, IntsCode_nil HH.out, et⟩
  | true =>
    have HH := Lib.hid (H2.out hq)
    have hf : (if (true : Bool) = true then (0 : Int) else 2) = 0 := rfl
    have hli := inB_iff.1 hq
    rw [hf]
    clear hq hf
    go_wp2_with fail
    generalize hwx : World.alloc _ _ = wx
    obtain ⟨ex, ox⟩ : Ext w1 wx ∧ OwnP (Value.int .i64) 2 w1.heap.size wx (.slice (some ⟨w1.heap.size, 0, none⟩) 0 0) [] := by
      subst hwx
      exact ⟨Ext.alloc _ _, OwnP.empty (Nat.le_refl _)⟩
    clear hwx
    have D0 := Lib.hid d0
    clear d0
    go_loopw [9, 10, 11, 12] (fun s9 s10 _ _ wr => ∃ k : Nat, k ≤ n ∧ s10 = .int .i64 k ∧ OwnP (Value.int .i64) 2 w1.heap.size wr s9 (uT k) ∧ Ext w1 wr) (fun _ s10 _ _ _ => n - (intOf s10).toNat)
    case atStart => exact ⟨0, Nat.zero_le _, rfl, by rw [H0.out]; exact ox, ex⟩
    case round =>
      obtain ⟨k, hk, rfl, own, ew⟩ := hrel
      have eW := et.trans ew
      have hsz := ew.size
      have d0 := Ext.cell ew D0.out
      by_cases hlt : k < n
      · obtain ⟨b, off, rfl, a1, n1, k1, hn1, hm1, -, hc, -, hel⟩ := HT.out k hlt
        have hkl : k < l.length := by rw [← Hn.out]; exact hlt
        have so := HSO.out k hkl
        have hne := so.ne
        have hl8 := so.len
        have hd8 := so.d8
        have HCut : Hid (∀ i, i < (l.getD k []).length → 0 ≤ (l.getD k []).getD i 0 ∧ (l.getD k []).getD i 0 < mk.d) := fun i hi => so.cut hi
        have HPk := Lib.hid (HP.out k)
        have HTk := Lib.hid (HTS.out k)
        have HGk := Lib.hid (HGA.out k)
        have HT1k := Lib.hid (HT1.out k)
        have HU1k := Lib.hid (HU1.out k)
        have HU2k := Lib.hid (HU2.out k)
        have hul := HUL.out k
        rw [← hn1] at hne hl8
        have Hn1 := Lib.hid hn1
        have Hc := Lib.hid hc
        have Hel := Lib.hid hel
        generalize l.getD k [] = set at *
        generalize hup : uT k = up at *
        clear hup so hn1 hc hel
        go_wp2_with fail
        obtain ⟨wo, rfl⟩ : ∃ wo, wo = wr := ⟨_, rfl⟩
        have D0' := Lib.hid d0
        clear d0
        go_loopw [11, 12] (fun s11 s12 wr => ∃ j : Nat, 1 ≤ j ∧ j ≤ n1 ∧ s12 = .int .i64 j ∧ s11 = .bool (thinSet set least j) ∧ Drew wo wr) (fun _ s12 _ => n1 - (intOf s12).toNat)
        case atStart => exact ⟨1, Nat.le_refl _, hne, rfl, by rw [HT1k.out], Drew.refl _⟩
        case round =>
          obtain ⟨j, hj1, hj, rfl, rfl, hd⟩ := hrel
          have eWr := eW.trans (Ext.ofDrew hd)
          have d0 := (hd.cell _).trans D0'.out
          have hc := Hc.out wr eWr
          by_cases hltj : j < n1
          · obtain ⟨b1, o1, rfl, -, hcj⟩ := Hel.out j hltj
            obtain ⟨_, _, he, -, hcp⟩ := Hel.out (j-1) (by omega)
            injection he with he; injection he with he1 he2 _
            subst he1; subst he2
            replace hcj := hcj wr eWr
            replace hcp := hcp wr eWr
            have q1 := HCut.out j (by rw [← Hn1.out]; exact hltj)
            have q2 := HCut.out (j-1) (by rw [← Hn1.out]; omega)
            have HTj := Lib.hid (HTk.out j)
            have HGj := Lib.hid (HGk.out j (by omega))
            have hwj : IntKind.i64.wrap ((j : Int) - 1) = ((j - 1 : Nat) : Int) := by rw [IntWalk.i64_in _ (by omega)]; omega
            have hj1n : j - 1 < n1 := by omega
            have hkn : k < n := hlt
            generalize set.getD j 0 = x at *
            generalize set.getD (j-1) 0 = y at *
            have hwxy : IntKind.i64.wrap (x - y) = x - y := IntWalk.i64_in _ (by omega)
            generalize thinSet set least j = q at *
            cases q with
            | true =>
              have HV : Hid (thinSet set least (j+1) = true) := by show _ = _; rw [HTj.out]; rfl
              go_wp2_with fail
              go_quiet (fail)
              go_wp2_with fail
              go_roundw
              case rel => exact ⟨j+1, by omega, by omega, by go_num, by rw [HV.out], hd.drewN _⟩
              case measure => simp [intOf]; omega
            | false =>
              by_cases hxy : x - y < least
              · have HV : Hid (thinSet set least (j+1) = true) := by show _ = _; rw [HTj.out, HGj.out, decide_eq_true hxy]; rfl
                go_wp2_with fail
                go_quiet (fail)
                go_wp2_with fail
                go_roundw
                case rel => exact ⟨j+1, by omega, by omega, by go_num, by rw [HV.out] <;> simp [hxy], hd.drewN _⟩
                case measure => simp [intOf]; omega
              · have HV : Hid (thinSet set least (j+1) = false) := by show _ = _; rw [HTj.out, HGj.out, decide_eq_false hxy]; rfl
                go_wp2_with fail
                go_quiet (fail)
                go_wp2_with fail
                go_roundw
                case rel => exact ⟨j+1, by omega, by omega, by go_num, by rw [HV.out] <;> simp [hxy], hd.drewN _⟩
                case measure => simp [intOf]; omega
          · have HQ : Hid (p (k : Int) = thinSet set least j) := by show _ = _; rw [HPk.out, ← Hn1.out]; congr 1; omega
            generalize thinSet set least j = q at *
            have own3 := own.ext (Ext.ofDrew hd)
            have hdr : w1.heap.size ≤ wr.heap.size := by have := hd.size; omega
            have ew3 := ew.trans (Ext.ofDrew hd)
            have hnl : ¬ (j < n1) := hltj
            cases q with
            | true =>
              have HV := Lib.hid (HU1k.out HQ.out)
              go_wp2_with (at_builtin; (refine wpList_append1 (f := Value.int .i64) (e := 2) (B := w1.heap.size) (xs := up) rfl _ _ 41 rfl 0 8 Tryz.underlying41 Tryz.infoI64 rfl (fun _ => rfl) rfl own3 (k : Int) rfl (by omega) (by omega) (by omega) ?_); intro v8 w8 hown8 hg8 hb8)
              go_roundw
              case rel => exact ⟨k+1, by omega, by go_num, by rw [HV.out]; exact hown8, Ext.to' ew3 hb8⟩
              case measure => simp [intOf]; omega
            | false =>
              have HV := Lib.hid (HU2k.out HQ.out)
              go_wp2_with fail
              go_roundw
              case rel => exact ⟨k+1, by omega, by go_num, by rw [HV.out]; exact own3, ew3⟩
              case measure => simp [intOf]; omega
      · have hkn : k = l.length := by have := Hn.out; omega
        have HR : Hid (res = (uT k, 0)) := by show _ = _; rw [HH.out, hkn, HE.out]
        have HI : Hid (∀ x ∈ uT k, I64 x) := by show ∀ x ∈ _, _; rw [hkn, ← HE.out]; exact HI64.out
        obtain ⟨oa, on, oc, rfl, -⟩ := own.shape
        go_wp2_with fail
        go_ret2
        exact ⟨_, rfl, IntsCode_own HR.out (own.lower et.size) HI.out, eW⟩
end Go.Proofs.YthgmojggpjnckaaGreat
