/- Proved: l01Split of the reference. -/
import Derived.Test.YtpcgbfogkcbddaaGreatDoorChecked
import Derived.Test.YtpcgbfogkcbddaaGreatDoorULinesLaw
import Derived.Test.YtpcgbfogkcbddaaGreatDoorUPkA
namespace Go.Proofs.YtpcgbfogkcbddaaGreatDoor
open Go.ChangeShapes Go.WideShapes Go.ChangeAt Go.RowKit
set_option linter.unusedVariables false

theorem Tryz.infoStr : (Tryz.prog.info? 9).map (fun i => (i.zero, i.size, i.bytes)) = some (some (.string ⟨#[]⟩), 1, 16) := by kernel_rfl
def strOf (l : List UInt8) : ByteArray := ⟨l.toArray⟩
theorem strOf_extract {s : ByteArray} {f k : Nat} : s.extract f k = strOf ((s.data.toList.take k).drop f) := by
  apply ByteArray.ext
  rw [ByteArray.data_extract]
  apply Array.toList_inj.1
  rw [Array.toList_extract]
  unfold strOf
  simp [List.extract, List.drop_take]
theorem len_str (s : ByteArray) : s.data.toList.length = s.size := by rw [Array.length_toList]; rfl
theorem strOf_size (l : List UInt8) : (strOf l).size = l.length := by unfold strOf; simp [ByteArray.size]
theorem take_snoc8 {s : ByteArray} {k : Nat} (h : k < s.size) : s.data.toList.take (k + 1) = s.data.toList.take k ++ [s[k]] := by
  rw [List.take_succ_eq_append_getElem (by simpa using h)]; rfl
/-- the lines that the first i steps have closed -/
def outTo (b : UInt8) (l : List UInt8) (i : Nat) : List ByteArray := if i ≤ l.length then (linesTo b (l.take i)).1.map strOf else (splitL b l).map strOf

set_option maxRecDepth 20000 in
set_option maxHeartbeats 1000000 in
theorem l01Split_c (w : World) (s : ByteArray) (hs : s.size ≤ 1000000) (b : UInt8) (bn : Int) (hb : bn = b.toNat) :
    Calls Tryz.prog 57 #[.string s, .int .u8 bn] w (Ret w fun r w' => OwnP Value.string 9 w.heap.size w' r ((splitL b s.data.toList).map strOf)) := by
  have Hl : Hid (s.data.toList.length = s.size) := len_str s
  have HEx := Lib.hid (fun (f k : Nat) => strOf_extract (s := s) (f := f) (k := k))
  have HTk := Lib.hid (fun (k : Nat) (h : k < s.size) => take_snoc8 (s := s) h)
  have HOut : Hid (∀ i, i ≤ s.size → outTo b s.data.toList i = (linesTo b (s.data.toList.take i)).1.map strOf) := fun i hi => by unfold outTo; rw [if_pos (by rw [Hl.out]; exact hi)]
  have HEnd : Hid (outTo b s.data.toList (s.size + 1) = (splitL b s.data.toList).map strOf) := by show _ = _; unfold outTo; rw [if_neg (by rw [Hl.out]; omega)]
  have HLen : Hid (∀ i, i ≤ s.size → (outTo b s.data.toList i).length ≤ s.size) := fun i hi => by
    rw [HOut.out i hi, List.length_map, linesTo_count]
    have h1 := List.count_le_length (a := b) (l := s.data.toList.take i)
    rw [List.length_take] at h1
    omega
  have HFrom : Hid (∀ i, i ≤ s.size → lineFrom b (s.data.toList.take i) ≤ i) := fun i hi => by
    have := lineFrom_le b (s.data.toList.take i)
    rw [List.length_take] at this
    omega
  have HCut : Hid (∀ i, i ≤ s.size → s.extract (lineFrom b (s.data.toList.take i)) i = strOf (linesTo b (s.data.toList.take i)).2) := fun i hi => by rw [HEx.out, lineFrom_drop]
  have HYes : Hid (∀ i (h : i < s.size), s[i] = b → outTo b s.data.toList (i + 1) = outTo b s.data.toList i ++ [strOf (linesTo b (s.data.toList.take i)).2] ∧ lineFrom b (s.data.toList.take (i + 1)) = i + 1) := fun i h e => by
    rw [HOut.out (i + 1) h, HOut.out i (by omega), HTk.out i h, linesTo_snoc, lineFrom_snoc]
    unfold lineStep
    rw [if_pos e, if_pos e]
    refine ⟨by simp, ?_⟩
    rw [List.length_take, Hl.out]
    omega
  have HNo : Hid (∀ i (h : i < s.size), s[i] ≠ b → outTo b s.data.toList (i + 1) = outTo b s.data.toList i ∧ lineFrom b (s.data.toList.take (i + 1)) = lineFrom b (s.data.toList.take i)) := fun i h e => by
    rw [HOut.out (i + 1) h, HOut.out i (by omega), HTk.out i h, linesTo_snoc, lineFrom_snoc]
    unfold lineStep
    rw [if_neg e, if_neg e]
    exact ⟨rfl, rfl⟩
  have HLast : Hid (outTo b s.data.toList (s.size + 1) = outTo b s.data.toList s.size ++ [strOf (linesTo b (s.data.toList.take s.size)).2]) := by
    show _ = _
    rw [HEnd.out, HOut.out s.size (Nat.le_refl _), List.take_of_length_le (by rw [Hl.out]; exact Nat.le_refl _)]
    unfold splitL
    simp
  have H0 : Hid (outTo b s.data.toList 0 = [] ∧ lineFrom b (s.data.toList.take 0) = 0) := by
    refine ⟨?_, ?_⟩
    · rw [HOut.out 0 (Nat.zero_le _)]; rfl
    · rfl
  have HB : Hid (bn = b.toNat) := hb
  have HEq : Hid (∀ c : UInt8, ((c.toNat : Int) == bn) = decide (c = b)) := fun c => by
    rw [Bool.eq_iff_iff, beq_iff_eq, decide_eq_true_iff, HB.out]
    constructor
    · intro h; exact UInt8.toNat_inj.1 (by omega)
    · intro h; rw [h]
  generalize outTo b s.data.toList = oT at *
  generalize hlf : (fun i => lineFrom b (s.data.toList.take i)) = lf at *
  have HL : Hid (∀ i, lineFrom b (s.data.toList.take i) = lf i) := fun i => by rw [← hlf]
  clear hlf hb Hl HEx HTk HOut
  go_enter Tryz.func57, Tryz.ntmps57
  go_wp2_with fail
  have o1 : OwnP Value.string 9 w.heap.size (w.alloc (.cells #[] 9)) (.slice (some ⟨w.heap.size, 0, none⟩) 0 0) [] := OwnP.empty (Nat.le_refl _)
  have e1 : Ext w (w.alloc (.cells #[] 9)) := Ext.alloc _ _
  generalize w.alloc (.cells #[] 9) = w1 at *
  go_loopw [5, 6, 7] (fun o f i wr => ∃ k g : Nat, k ≤ s.size + 1 ∧ i = .int .i64 k ∧ f = .int .i64 g ∧ g ≤ k ∧ (k ≤ s.size → g = lf k) ∧ OwnP Value.string 9 w.heap.size wr o (oT k) ∧ Ext w wr) (fun _ _ i _ => s.size + 1 - (intOf i).toNat)
  case atStart => exact ⟨0, 0, Nat.zero_le _, rfl, rfl, Nat.le_refl _, fun _ => by rw [← HL.out]; exact H0.out.2.symm, by rw [H0.out.1]; exact o1, e1⟩
  case round =>
    obtain ⟨k, g, hk, rfl, rfl, hgk, hg, own, ew⟩ := hrel
    have hwr := ew.size
    by_cases hlt : k < s.size
    · have hg' := hg (by omega)
      have hlen := HLen.out k (by omega)
      have hcut := HCut.out k (by omega)
      rw [HL.out, ← hg'] at hcut
      have hne : ((k : Int) == (s.size : Int)) = false := by rw [beq_eq_false_iff_ne]; omega
      by_cases hc : s[k] = b
      · have hcb : ((s[k].toNat : Int) == bn) = true := by rw [HEq.out, decide_eq_true_iff]; exact hc
        obtain ⟨q1, q2⟩ := HYes.out k hlt hc
        rw [HL.out] at q2
        have HQ1 := Lib.hid q1
        have HQ2 := Lib.hid q2
        have HCt := Lib.hid hcut
        clear hc q1 q2 hcut hg hg'
        go_wp2_with (at_builtin; (refine wpList_append1 (f := Value.string) (e := 9) (B := w.heap.size) (xs := oT k) rfl _ _ 72 rfl ⟨#[]⟩ 16 Tryz.underlying72 Tryz.infoStr rfl (fun _ => rfl) rfl own (s.extract g k) rfl (by omega) (by omega) hwr ?_); intro v6 w6 hown6 hg6 hb6)
        go_roundw
        case rel => exact ⟨k + 1, k + 1, by omega, by go_num, by go_num, Nat.le_refl _, fun _ => HQ2.out.symm, by rw [HQ1.out, ← HCt.out]; exact hown6, Below.trans ew hb6⟩
        case measure => simp [intOf]; omega
      · have hcb : ((s[k].toNat : Int) == bn) = false := by rw [HEq.out, decide_eq_false_iff_not]; exact hc
        obtain ⟨q1, q2⟩ := HNo.out k hlt hc
        rw [HL.out, HL.out] at q2
        have HQ1 := Lib.hid q1
        have HQ2 := Lib.hid (hg'.trans q2.symm)
        clear hc q1 q2 hcut hg hg'
        go_wp2_with fail
        go_roundw
        case rel => exact ⟨k + 1, g, by omega, by go_num, rfl, by omega, fun _ => HQ2.out, by rw [HQ1.out]; exact own, ew⟩
        case measure => simp [intOf]; omega
    · by_cases hke : k = s.size
      · subst hke
        have hg' := hg (by omega)
        have hlen := HLen.out s.size (by omega)
        have hcut := HCut.out s.size (by omega)
        rw [HL.out, ← hg'] at hcut
        have HCt := Lib.hid hcut
        have HLa := Lib.hid HLast.out
        have hne : ((s.size : Int) == (s.size : Int)) = true := by rw [beq_iff_eq]
        clear hcut hg hg' hlt
        have hle : (s.size : Int) ≤ (s.size : Int) := Int.le_refl _
        have hgs : g ≤ s.size := by omega
        go_wp2_with (at_builtin; (refine wpList_append1 (f := Value.string) (e := 9) (B := w.heap.size) (xs := oT s.size) rfl _ _ 72 rfl ⟨#[]⟩ 16 Tryz.underlying72 Tryz.infoStr rfl (fun _ => rfl) rfl own (s.extract g s.size) rfl (by omega) (by omega) hwr ?_); intro v6 w6 hown6 hg6 hb6)
        go_roundw
        case rel => exact ⟨s.size + 1, s.size + 1, by omega, by go_num, by go_num, Nat.le_refl _, fun h => by omega, by rw [HLa.out, ← HCt.out]; exact hown6, Below.trans ew hb6⟩
        case measure => simp [intOf]
      · have hke2 : k = s.size + 1 := by omega
        have HO : Hid (oT k = (splitL b s.data.toList).map strOf) := by show _ = _; rw [hke2]; exact HEnd.out
        have hgt : ¬ ((k : Int) ≤ (s.size : Int)) := by omega
        clear hke hg hlt
        go_wp2_with fail
        go_ret
        exact ⟨_, rfl, by rw [← HO.out]; exact own, ew⟩
end Go.Proofs.YtpcgbfogkcbddaaGreatDoor
