/- Proved: DoorsOpened, the program. -/
import Derived.Test.YthgmojggpjnckaaGreatChecked
import Derived.Test.YthgmojggpjnckaaGreatUChanged
namespace Go.Proofs.YthgmojggpjnckaaGreat
open Go.ChangeShapes Go.WideShapes Go.ChangeAt Go.RowKit
set_option linter.unusedVariables false

def openP (ls : List (List (List Int))) (key : List Int) (d : Int) : Bool := opensB (ls.getD d.toNat []) key
def openedB (ls : List (List (List Int))) (key : List Int) (n : Nat) : List Int := upto (openP ls key) n
def openedOf (mk : MK) (t cuts : List (List Int)) (key : List Int) : List Int × Int := if designCode mk t cuts ≠ 0 then ([], designCode mk t cuts) else if isKeyB mk key = true then (openedB (locks mk t cuts) key (doorsOf t), 0) else ([], 2)
theorem openedOf_bad {mk : MK} {t cuts : List (List Int)} {key : List Int} (h : designCode mk t cuts ≠ 0) : openedOf mk t cuts key = ([], designCode mk t cuts) := by unfold openedOf; rw [if_pos h]
theorem openedOf_key {mk : MK} {t cuts : List (List Int)} {key : List Int} (h : designCode mk t cuts = 0) (hk : isKeyB mk key = false) : openedOf mk t cuts key = ([], 2) := by unfold openedOf; rw [if_neg (by omega), if_neg (by rw [hk]; decide)]
theorem openedOf_ok {mk : MK} {t cuts : List (List Int)} {key : List Int} (h : designCode mk t cuts = 0) (hk : isKeyB mk key = true) : openedOf mk t cuts key = (openedB (locks mk t cuts) key (doorsOf t), 0) := by unfold openedOf; rw [if_neg (by omega), if_pos hk]
theorem opened_i64 {ls : List (List (List Int))} {key : List Int} {n : Nat} (h : n ≤ 12) : ∀ x ∈ openedB ls key n, I64 x := upto_i64 (by omega)
theorem rowCode_isKey {mk : MK} {t cuts : List (List Int)} {row key : List Int} (h : rowCode mk t cuts row [key] = 0) : isKeyB mk key = true := by
  by_cases h1 : designCode mk t cuts = 0
  · cases h2 : (rowOk t row && areKeysB mk [key]) with
    | false => rw [rowCode_range h1 h2] at h; omega
    | true =>
      have := (Bool.and_eq_true_iff.1 h2).2
      unfold areKeysB at this
      simpa using this
  · rw [rowCode_bad h1] at h; exact absurd h h1
theorem design_m {mk : MK} {t cuts : List (List Int)} (h : designCode mk t cuts = 0) : 0 ≤ mk.m := by
  have hs := (designCode_zero h).sys
  unfold isSystem at hs
  have := (isMaker_iff.1 (Bool.and_eq_true_iff.1 hs).1).2.2.2.1.1
  omega
theorem rowCode_code {mk : MK} {t cuts : List (List Int)} {row : List Int} {keys : List (List Int)} (h : rowCode mk t cuts row keys = 0) : designCode mk t cuts = 0 := by
  by_cases h1 : designCode mk t cuts = 0
  · exact h1
  · rw [rowCode_bad h1] at h; exact absurd h h1

set_option maxRecDepth 20000 in
set_option maxHeartbeats 1000000 in
theorem doorsOpened_c (w : World) (v : Value) (z : Zone) (ls : List (List (List Int))) (h : LocksR z w v ls) (v3 : Value) (z3 : Zone) (key : List Int) (hk : IntsR z3 w v3 key) (h12 : ls.length ≤ 12) (hlk : ∀ d, d < ls.length → (ls.getD d []).length = key.length) :
    Calls Tryz.prog 129 #[v, v3] w (Ret w fun r w' => OwnP (Value.int .i64) 2 w.heap.size w' r (openedB ls key ls.length)) := by
  have HO := Lib.hid (fun (w' : World) (e : Ext w w') (v : Value) (z : Zone) (l : List (List Int)) (h : RowsR z w' v l) (hl : key.length ≤ l.length) => opens_c w' v z l h v3 z3 key (stable_ints.ext hk e) hl)
  have HP : Hid (∀ d : Nat, openP ls key (d : Int) = opensB (ls.getD d []) key) := fun d => rfl
  have HU1 := Lib.hid (fun (k : Nat) (h : openP ls key k = true) => upto_yes h)
  have HU2 := Lib.hid (fun (k : Nat) (h : openP ls key k = false) => upto_no h)
  have HUL := Lib.hid (fun (k : Nat) => upto_length (openP ls key) k)
  have H0 : Hid (upto (openP ls key) 0 = []) := rfl
  have HE : Hid (openedB ls key ls.length = upto (openP ls key) ls.length) := rfl
  generalize openedB ls key ls.length = res at *
  generalize upto (openP ls key) = uT at *
  generalize openP ls key = p at *
  obtain ⟨a, n, cap, rfl, hn, hmax, -⟩ := SliceR.shape h
  obtain ⟨a3, n3, cap3, rfl, -⟩ := SliceR.shape hk
  have HLA := Lib.hid (fun (k : Nat) (hk : k < n) => locks_at h hk)
  have Hn : Hid (n = ls.length) := hn
  have HLK := Lib.hid hlk
  have hn12 : n ≤ 12 := by omega
  clear hn h hk h12 hlk
  go_enter Tryz.func129, Tryz.ntmps129
  go_wp2_with fail
  generalize hw1 : World.alloc _ _ = w1
  obtain ⟨e1, o1⟩ : Ext w w1 ∧ OwnP (Value.int .i64) 2 w.heap.size w1 (.slice (some ⟨w.heap.size, 0, none⟩) 0 0) [] := by
    subst hw1
    exact ⟨Ext.alloc _ _, OwnP.empty (Nat.le_refl _)⟩
  clear hw1
  go_loopw [5, 6, 7, 11] (fun s5 _ _ s11 wr => ∃ k : Nat, k ≤ n ∧ s11 = .int .i64 k ∧ OwnP (Value.int .i64) 2 w.heap.size wr s5 (uT k) ∧ Ext w wr) (fun _ _ _ s11 _ => n - (intOf s11).toNat)
  case atStart => exact ⟨0, Nat.zero_le _, rfl, by rw [H0.out]; exact o1, e1⟩
  case round =>
    obtain ⟨k, hk, rfl, own, ew⟩ := hrel
    have hsz := ew.size
    by_cases hlt : k < n
    · obtain ⟨bl, ol, rfl, b3, m3, k3, hm3, hcl, yl, -, hyl⟩ := HLA.out k hlt
      have hcl' := hcl wr ew
      have hcall := fun (wx : World) (ex : Ext wr wx) => HO.out wx (ew.trans ex) _ _ _ (hyl wx (ew.trans ex)) (by rw [HLK.out k (by rw [← Hn.out]; exact hlt)]; exact Nat.le_refl _)
      have HCl := Lib.hid hcall
      have HPk := Lib.hid (HP.out k)
      have HU1k := Lib.hid (HU1.out k)
      have HU2k := Lib.hid (HU2.out k)
      have hul := HUL.out k
      clear hcl hyl hm3 hcall
      generalize opensB (ls.getD k []) key = q at *
      generalize hup : uT k = up at *
      clear hup
      go_wp2_with fail
      generalize hwx : World.alloc wr _ = wx
      have ex : Ext wr wx := by rw [← hwx]; exact Ext.alloc _ _
      clear hwx
      refine Calls.mono (HCl.out wx ex) ?_
      rintro e w7 hr
      obtain ⟨r, rfl, rfl, e7'⟩ := ret_ext hr
      have e7 := ex.trans e7'
      clear hr ex e7'
      have o7 := own.ext e7
      have z7 := e7.size
      clear own
      cases q with
      | false =>
        have HV := Lib.hid (HU2k.out HPk.out)
        go_wp2_with fail
        go_roundw
        case rel => exact ⟨k+1, by omega, by go_num, by rw [HV.out]; exact o7, ew.trans e7⟩
        case measure => simp [intOf]; omega
      | true =>
        have HV := Lib.hid (HU1k.out HPk.out)
        go_wp2_with (at_builtin; (refine wpList_append1 (f := Value.int .i64) (e := 2) (B := w.heap.size) (xs := up) rfl _ _ 41 rfl 0 8 Tryz.underlying41 Tryz.infoI64 rfl (fun _ => rfl) rfl o7 (k : Int) rfl (by omega) (by omega) (by omega) ?_); intro v8 w8 hown8 hg8 hb8)
        go_roundw
        case rel => exact ⟨k+1, by omega, by go_num, by rw [HV.out]; exact hown8, (ew.trans e7).to' hb8⟩
        case measure => simp [intOf]; omega
    · have HV : Hid (uT k = res) := by show _ = _; rw [HE.out, ← Hn.out]; congr 1; omega
      go_wp2_with fail
      go_ret
      exact ⟨_, rfl, by rw [← HV.out]; exact own, ew⟩
end Go.Proofs.YthgmojggpjnckaaGreat
