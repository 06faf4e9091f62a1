/- Proved: the pins of a lock, the reference. -/
import Derived.Test.YtkeikjedbfomnaaGreatDoorChecked
import Derived.Deep.RegionLaw
import Derived.Test.YtkeikjedbfomnaaGreatDoorUPinsOf
import Derived.Test.YtkeikjedbfomnaaGreatDoorUPkE
namespace Go.Proofs.YtkeikjedbfomnaaGreatDoor
open Go.ChangeShapes Go.WideShapes Go.ChangeAt Go.RowKit
set_option linter.unusedVariables false

set_option maxRecDepth 20000 in
set_option maxHeartbeats 1000000 in
theorem l05Pins_c (w : World) (mk : MK) (v : Value) (z : Zone) (l : List (List Int)) (h : RowsR z w v l) (hok : LockOk mk l) :
    Calls Tryz.prog 74 #[mk.v, .agg #[v]] w (Ret w fun r w' => RowsR (.new w w') w' r (pinsL mk.d l)) := by
  have hm := isMaker_iff.1 hok.maker
  have HC := Lib.hid (fun (w' : World) (u : Value) (y : Zone) (xs : List Int) (g : IntsR y w' u xs) (ok : SetOk mk.d xs) => l05Stack_c w' mk u y xs g ok)
  have HSO : Hid (∀ i, i < l.length → SetOk mk.d (l.getD i [])) := fun i hi => hok.set hi
  have HS := Lib.hid (fun k => pinsTo_succ mk.d l k)
  have HL := Lib.hid (fun k => pinsTo_len mk.d l k)
  have H0 : Hid (pinsTo mk.d l 0 = []) := rfl
  have HE : Hid (pinsL mk.d l = pinsTo mk.d l l.length) := rfl
  have HST : Hid (∀ i, i < l.length → ∀ x ∈ stackL mk.d (l.getD i []), I64 x) := fun i hi x hx => by have := stackL_in (hok.set hi) x hx; unfold I64; omega
  have hl6 : l.length ≤ 6 := by have := hok.len; omega
  generalize pinsL mk.d l = res at *
  generalize pinsTo mk.d l = pT at *
  obtain ⟨a, n, cap, rfl, hn, hmax, -⟩ := SliceR.shape h
  have HT := Lib.hid (fun (k : Nat) (hk : k < n) => rows_at h hk)
  rw [← hn] at hl6
  have Hn := Lib.hid hn
  clear hn h hok hm
  unfold MK.v at *
  go_enter Tryz.func74, Tryz.ntmps74
  go_wp2_with fail
  generalize hw1 : World.alloc _ _ = w1
  have e1 : Ext w w1 := by rw [← hw1]; exact ((Ext.alloc _ _).trans (Ext.alloc _ _)).trans (Ext.alloc _ _)
  have c0 : w1.cell? ⟨w.heap.size, 0, none⟩ = some (.int .i64 mk.c) := by rw [← hw1]; clear hw1; go_simp
  have c1 : w1.cell? ⟨w.heap.size, 1, none⟩ = some (.int .i64 mk.d) := by rw [← hw1]; clear hw1; go_simp
  have c2 : w1.cell? ⟨w.heap.size, 2, none⟩ = some (.int .i64 mk.s) := by rw [← hw1]; clear hw1; go_simp
  have c3 : w1.cell? ⟨w.heap.size, 3, none⟩ = some (.int .i64 mk.m) := by rw [← hw1]; clear hw1; go_simp
  have c4 : w1.cell? ⟨w.heap.size, 4, none⟩ = some (.int .i64 mk.l) := by rw [← hw1]; clear hw1; go_simp
  have d0 : w1.cell? ⟨w.heap.size + 1, 0, none⟩ = some (.slice a n cap) := by rw [← hw1]; clear hw1; go_simp
  have o1 : OwnR true (w.heap.size+2) IntsR 46 (w.heap.size+2) w1 (.slice (some ⟨w.heap.size + 1 + 1, 0, none⟩) 0 0) [] := by
    rw [← hw1]
    have := OwnR.empty (b := true) (L := w.heap.size + 2) (E := IntsR) (e := 46) (B := w.heap.size + 2) (w := (w.alloc (.cells #[.int .i64 mk.c, .int .i64 mk.d, .int .i64 mk.s, .int .i64 mk.m, .int .i64 mk.l] 23)).alloc (.cells #[.slice a n cap] 88)) (by simp)
    simpa using this
  have HI : Hid (w.heap.size + 2 < w1.heap.size) := (o1.block _ rfl).2
  clear hw1
  go_loopw [5, 6] (fun s5 s12 wr => ∃ k : Nat, k ≤ n ∧ s12 = .int .i64 k ∧ OwnR true (w.heap.size+2) IntsR 46 (w.heap.size+2) wr s5 (pT k) ∧ Below (w.heap.size+2) w1 wr) (fun _ s12 _ => n - (intOf s12).toNat)
  case atStart => exact ⟨0, Nat.zero_le _, rfl, by rw [H0.out]; exact o1, Below.refl _ _⟩
  case round =>
    obtain ⟨k, hk, rfl, own, hb⟩ := hrel
    have hsz := hb.size
    have hI := HI.out
    have eW : Ext w wr := Below.trans e1 (hb.mono (by omega))
    have c0' := (hb.cell (p := ⟨w.heap.size, 0, none⟩) (by simp)).trans c0
    have c1' := (hb.cell (p := ⟨w.heap.size, 1, none⟩) (by simp)).trans c1
    have c2' := (hb.cell (p := ⟨w.heap.size, 2, none⟩) (by simp)).trans c2
    have c3' := (hb.cell (p := ⟨w.heap.size, 3, none⟩) (by simp)).trans c3
    have c4' := (hb.cell (p := ⟨w.heap.size, 4, none⟩) (by simp)).trans c4
    have d0' := (hb.cell (p := ⟨w.heap.size + 1, 0, none⟩) (by show w.heap.size + 1 < w.heap.size + 2; omega)).trans d0
    have hlen := HL.out k
    by_cases hlt : k < n
    · obtain ⟨b, off, rfl, a1, n1, k1, -, -, -, hc, ⟨y, -, hy⟩, -⟩ := HT.out k hlt
      replace hc := hc wr eW
      have hkl : k < l.length := by rw [← Hn.out]; exact hlt
      have hcall := Lib.hid (fun (w' : World) (e : Ext wr w') => HC.out w' _ y _ (hy w' (eW.trans e)) (HSO.out k hkl))
      have HSk := Lib.hid (HS.out k)
      have HI64 := Lib.hid (HST.out k hkl)
      have Hown := Lib.hid own
      have Hb := Lib.hid hb
      have hsz3 : w.heap.size + 2 ≤ wr.heap.size := by omega
      have HCC : Hid (∀ w', Below (w.heap.size + 2) wr w' → w'.cell? ⟨w.heap.size, 0, none⟩ = some (.int .i64 mk.c) ∧ w'.cell? ⟨w.heap.size, 1, none⟩ = some (.int .i64 mk.d) ∧ w'.cell? ⟨w.heap.size, 2, none⟩ = some (.int .i64 mk.s) ∧ w'.cell? ⟨w.heap.size, 3, none⟩ = some (.int .i64 mk.m) ∧ w'.cell? ⟨w.heap.size, 4, none⟩ = some (.int .i64 mk.l) ∧ w'.cell? ⟨w.heap.size + 1, 0, none⟩ = some (.slice (some ⟨b, off, none⟩) n cap)) := fun w' e => ⟨(e.cell (p := ⟨w.heap.size, 0, none⟩) (by simp)).trans c0', (e.cell (p := ⟨w.heap.size, 1, none⟩) (by simp)).trans c1', (e.cell (p := ⟨w.heap.size, 2, none⟩) (by simp)).trans c2', (e.cell (p := ⟨w.heap.size, 3, none⟩) (by simp)).trans c3', (e.cell (p := ⟨w.heap.size, 4, none⟩) (by simp)).trans c4', (e.cell (p := ⟨w.heap.size + 1, 0, none⟩) (by show w.heap.size + 1 < w.heap.size + 2; omega)).trans d0'⟩
      have HCD : Hid (∀ w', Ext wr w' → w'.cell? ⟨b, off + k, none⟩ = some (.slice a1 n1 k1)) := fun w' e => e.cell hc
      clear hy hkl own hb
      generalize stackL mk.d (l.getD k []) = st at *
      generalize hps : pT k = ps at *
      clear hps
      go_wp2_with fail
      go_region_law (first | (go_simp; go_at_call 111; refine (hcall.out _ (by repeat (first | exact Ext.refl _ | assumption | (refine Ext.trans ?_ (Ext.alloc _ _)) | (refine Ext.trans ?_ (Ext.drew _)) | (refine Ext.trans ?_ (by assumption))))).mono ?_; rintro e w2 hr; obtain ⟨r, rfl, o2, e2⟩ := ret_ext hr; clear hr; have e32 : Ext wr w2 := (by repeat (first | exact Ext.refl _ | assumption | (refine Ext.trans ?_ (Ext.alloc _ _)) | (refine Ext.trans ?_ (Ext.drew _)) | (refine Ext.trans ?_ (by assumption)))); obtain ⟨q0, q1, q2, q3, q4, q5⟩ := HCC.out w2 (Below.mono e32 hsz3); have q6 := HCD.out w2 e32; obtain ⟨xa, xn, xc, rfl, -⟩ := o2.shape) | (refine step_append_of (by rfl) _ _ 24 (by rfl) (by rfl) (by rfl) (fun ty => run_rowA 24 ty Tryz.underlying24 Tryz.infoInts Hown.out e32 (OwnP.lower (B' := wr.heap.size) o2 (Ext.size (by repeat (first | exact Ext.refl _ | assumption | (refine Ext.trans ?_ (Ext.alloc _ _)) | (refine Ext.trans ?_ (Ext.drew _)) | (refine Ext.trans ?_ (by assumption)))))) HI64.out rfl (by omega) hsz3 hsz3) ?_; intro v9 w9 h9; obtain ⟨o9, b9, a9, n9, k9, rfl, -⟩ := h9) | fail)
      all_goals (go_wp2_with fail; go_roundw)
      any_goals (simp [intOf]; omega)
      all_goals exact ⟨k + 1, by omega, by go_num, by rw [HSk.out]; exact o9, Below.trans Hb.out b9⟩
    · have hkn : k = l.length := by have := Hn.out; omega
      go_wp2_with fail
      go_ret
      refine ⟨_, rfl, ?_, eW⟩
      rw [HE.out, ← hkn]
      exact stable_rows.sub (own.reads (Nat.le_refl _)) ⟨fun k hk => ⟨by have q1 := hk.1; simp only [Zone.new] at *; omega, hk.2⟩, fun _ => rfl⟩
end Go.Proofs.YtkeikjedbfomnaaGreatDoor
