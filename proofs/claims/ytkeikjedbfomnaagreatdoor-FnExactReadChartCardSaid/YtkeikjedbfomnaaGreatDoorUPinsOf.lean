/- Proved: the pins of all chambers of a lock, program and reference. -/
import Derived.Test.YtkeikjedbfomnaaGreatDoorChecked
import Derived.Deep.RegionLaw
import Derived.Deep.RegionHeld3
import Derived.Test.YtkeikjedbfomnaaGreatDoorUPins
namespace Go.Proofs.YtkeikjedbfomnaaGreatDoor
open Go.ChangeShapes Go.WideShapes Go.ChangeAt Go.RowKit
set_option linter.unusedVariables false

theorem SetOk.lt {D : Int} {set : List Int} (h : SetOk D set) {k : Nat} (h0 : 0 < k) (hk : k < set.length) : set.getD (k-1) 0 < set.getD k 0 := by
  have := (List.all_eq_true.1 h.ri) k (List.mem_range.2 hk)
  unfold risingAt at this
  exact (of_decide_eq_true this).2.2 h0
theorem stackAt_in {D : Int} {set : List Int} (h : SetOk D set) {k : Nat} (hk : k < set.length) : 0 ≤ stackAt set k ∧ stackAt set k < D := by
  unfold stackAt
  have h1 := h.cut hk
  by_cases e : k = 0
  · rw [if_pos e]; subst e; exact h1
  · rw [if_neg e]
    have h2 := h.cut (i := k - 1) (by omega)
    have h3 := h.lt (by omega) hk
    omega
theorem stackL_in {D : Int} {set : List Int} (h : SetOk D set) : ∀ x ∈ stackL D set, 0 ≤ x ∧ x < D := by
  intro x hx
  unfold stackL stackTo at hx
  rcases List.mem_append.1 hx with hx | hx
  · obtain ⟨k, hk, rfl⟩ := List.mem_map.1 hx
    exact stackAt_in h (List.mem_range.1 hk)
  · rw [List.mem_singleton.1 hx]
    have h1 := h.ne
    have := h.cut (i := set.length - 1) (by omega)
    omega
theorem stackL_len (D : Int) (set : List Int) : (stackL D set).length = set.length + 1 := by
  unfold stackL; rw [List.length_append, stackTo_len]; rfl
def pinsTo (D : Int) (l : List (List Int)) (n : Nat) : List (List Int) := (List.range n).map fun i => stackL D (l.getD i [])
def pinsL (D : Int) (l : List (List Int)) : List (List Int) := pinsTo D l l.length
theorem pinsTo_succ (D : Int) (l : List (List Int)) (n : Nat) : pinsTo D l (n+1) = pinsTo D l n ++ [stackL D (l.getD n [])] := by
  unfold pinsTo; rw [List.range_succ, List.map_append]; rfl
theorem pinsTo_len (D : Int) (l : List (List Int)) (n : Nat) : (pinsTo D l n).length = n := by simp [pinsTo]

set_option maxRecDepth 20000 in
set_option maxHeartbeats 1000000 in
theorem pinsOf_c (w : World) (mk : MK) (v : Value) (z : Zone) (l : List (List Int)) (h : RowsR z w v l) (hok : LockOk mk l) :
    Calls Tryz.prog 127 #[mk.v, .agg #[v]] w (Ret w fun r w' => RowsR (.new w w') w' r (pinsL mk.d l)) := by
  have hm := isMaker_iff.1 hok.maker
  have HC := Lib.hid (fun (w' : World) (u : Value) (y : Zone) (xs : List Int) (g : IntsR y w' u xs) (ok : SetOk mk.d xs) => stackOf_c w' mk u y xs g ok)
  have HSO : Hid (∀ i, i < l.length → SetOk mk.d (l.getD i [])) := fun i hi => hok.set hi
  have HS := Lib.hid (fun k => pinsTo_succ mk.d l k)
  have HL := Lib.hid (fun k => pinsTo_len mk.d l k)
  have H0 : Hid (pinsTo mk.d l 0 = []) := rfl
  have HE : Hid (pinsL mk.d l = pinsTo mk.d l l.length) := rfl
  have HST : Hid (∀ i, i < l.length → ∀ x ∈ stackL mk.d (l.getD i []), I64 x) := fun i hi x hx => by have := stackL_in (hok.set hi) x hx; unfold I64; omega
  have hl6 : l.length ≤ 6 := by have := hok.len; omega
  generalize pinsL mk.d l = res at *
  generalize pinsTo mk.d l = pT at *
  obtain ⟨a, n, cap, rfl, hn, hmax, -⟩ := SliceR.shape h
  have HT := Lib.hid (fun (k : Nat) (hk : k < n) => rows_at h hk)
  rw [← hn] at hl6
  have Hn := Lib.hid hn
  clear hn h hok hm
  unfold MK.v at *
  go_enter Tryz.func127, Tryz.ntmps127
  go_wp2_with fail
  generalize hw1 : World.alloc _ _ = w1
  have e1 : Ext w w1 := by rw [← hw1]; exact ((Ext.alloc _ _).trans (Ext.alloc _ _)).trans (Ext.alloc _ _)
  have c0 : w1.cell? ⟨w.heap.size, 0, none⟩ = some (.int .i64 mk.c) := by rw [← hw1]; clear hw1; go_simp
  have c1 : w1.cell? ⟨w.heap.size, 1, none⟩ = some (.int .i64 mk.d) := by rw [← hw1]; clear hw1; go_simp
  have c2 : w1.cell? ⟨w.heap.size, 2, none⟩ = some (.int .i64 mk.s) := by rw [← hw1]; clear hw1; go_simp
  have c3 : w1.cell? ⟨w.heap.size, 3, none⟩ = some (.int .i64 mk.m) := by rw [← hw1]; clear hw1; go_simp
  have c4 : w1.cell? ⟨w.heap.size, 4, none⟩ = some (.int .i64 mk.l) := by rw [← hw1]; clear hw1; go_simp
  have o1 : OwnR true (w.heap.size+2) IntsR 46 (w.heap.size+2) w1 (.slice (some ⟨w.heap.size + 1 + 1, 0, none⟩) 0 0) [] := by
    rw [← hw1]
    have := OwnR.empty (b := true) (L := w.heap.size + 2) (E := IntsR) (e := 46) (B := w.heap.size + 2) (w := (w.alloc (.cells #[.int .i64 mk.c, .int .i64 mk.d, .int .i64 mk.s, .int .i64 mk.m, .int .i64 mk.l] 23)).alloc (.cells #[.slice a n cap] 88)) (by simp)
    simpa using this
  have HI : Hid (w.heap.size + 2 < w1.heap.size) := (o1.block _ rfl).2
  clear hw1
  go_loopw [5, 7, 12] (fun s5 _ s12 wr => ∃ k : Nat, k ≤ n ∧ s12 = .int .i64 k ∧ OwnR true (w.heap.size+2) IntsR 46 (w.heap.size+2) wr s5 (pT k) ∧ Below (w.heap.size+2) w1 wr) (fun _ _ s12 _ => n - (intOf s12).toNat)
  case atStart => exact ⟨0, Nat.zero_le _, rfl, by rw [H0.out]; exact o1, Below.refl _ _⟩
  case round =>
    obtain ⟨k, hk, rfl, own, hb⟩ := hrel
    have hsz := hb.size
    have hI := HI.out
    have eW : Ext w wr := Below.trans e1 (hb.mono (by omega))
    have c0' := (hb.cell (p := ⟨w.heap.size, 0, none⟩) (by simp)).trans c0
    have c1' := (hb.cell (p := ⟨w.heap.size, 1, none⟩) (by simp)).trans c1
    have c2' := (hb.cell (p := ⟨w.heap.size, 2, none⟩) (by simp)).trans c2
    have c3' := (hb.cell (p := ⟨w.heap.size, 3, none⟩) (by simp)).trans c3
    have c4' := (hb.cell (p := ⟨w.heap.size, 4, none⟩) (by simp)).trans c4
    have hlen := HL.out k
    by_cases hlt : k < n
    · obtain ⟨b, off, rfl, a1, n1, k1, -, -, -, hc, ⟨y, -, hy⟩, -⟩ := HT.out k hlt
      replace hc := hc wr eW
      have hkl : k < l.length := by rw [← Hn.out]; exact hlt
      have hcall := HC.out wr _ y _ (hy wr eW) (HSO.out k hkl)
      have HSk := Lib.hid (HS.out k)
      have HI64 := Lib.hid (HST.out k hkl)
      clear hy hkl
      generalize stackL mk.d (l.getD k []) = st at *
      generalize hps : pT k = ps at *
      clear hps
      go_wp2_with fail
      refine Calls.mono hcall ?_
      rintro e w2 hr
      obtain ⟨r, rfl, o2, e2⟩ := ret_ext hr
      clear hr hcall
      obtain ⟨xa, xn, xc, rfl, -⟩ := o2.shape
      have hx := OwnP.ints (lo := wr.heap.size) o2 HI64.out (Nat.le_refl _)
      go_wp2_with (at_builtin; (refine wpList_appendRow (E := IntsR) (L := w.heap.size + 2) (B := w.heap.size + 2) (xs := ps) stable_ints slRepr_slice rfl _ _ 24 rfl Tryz.underlying24 Tryz.infoInts rfl own e2 (xa, xn, xc) st hx rfl (by omega) (by omega) (by omega) ?_); intro v6 w6 hown6 hb6 hs6 hg6 hat6)
      go_roundw
      case rel => exact ⟨k + 1, by omega, by go_num, by rw [HSk.out]; exact hown6, hb.trans hb6⟩
      case measure => simp [intOf]; omega
    · have hkn : k = l.length := by have := Hn.out; omega
      go_wp2_with fail
      go_ret
      refine ⟨_, rfl, ?_, eW⟩
      rw [HE.out, ← hkn]
      exact stable_rows.sub (own.reads (Nat.le_refl _)) ⟨fun k hk => ⟨by have q1 := hk.1; simp only [Zone.new] at *; omega, hk.2⟩, fun _ => rfl⟩
end Go.Proofs.YtkeikjedbfomnaaGreatDoor
