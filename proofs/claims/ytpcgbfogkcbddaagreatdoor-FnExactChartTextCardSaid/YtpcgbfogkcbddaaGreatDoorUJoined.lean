/- Proved: numbers with a text between them, the program. -/
import Derived.Test.YtpcgbfogkcbddaaGreatDoorChecked
import Derived.Test.YtpcgbfogkcbddaaGreatDoorUJoinLay
import Derived.Test.YtpcgbfogkcbddaaGreatDoorUChartLaw
import Derived.Test.YtpcgbfogkcbddaaGreatDoorUPkD
namespace Go.Proofs.YtpcgbfogkcbddaaGreatDoor
open Go.ChangeShapes Go.WideShapes Go.ChangeAt Go.RowKit
set_option linter.unusedVariables false

theorem joinTo_snoc (xs : List Int) (k : Nat) (h : k < xs.length) : ((xs.take (k + 1)).map fun x => strOf (numD x)) = ((xs.take k).map fun x => strOf (numD x)) ++ [strOf (numD (xs.getD k 0))] := by
  have e : xs.take (k + 1) = xs.take k ++ [xs.getD k 0] := by
    rw [List.take_add_one, List.getElem?_eq_getElem h]
    simp [h]
  rw [e, List.map_append]
  rfl

set_option maxRecDepth 20000 in
set_option maxHeartbeats 1000000 in
theorem joined_c (w : World) (hT : Pow10 w) (v : Value) (z : Zone) (xs : List Int) (h : IntsR z w v xs) (hin : ∀ x ∈ xs, 0 ≤ x ∧ x ≤ 1000000000) (hl : xs.length ≤ 1000) (sep : ByteArray) (hsep : sep.size ≤ 100) :
    Calls Tryz.prog 83 #[v, .string sep] w (Ret w fun r _ => r = .string (strOf (joinI xs sep.data.toList))) := by
  have HTx := Lib.hid (fun (k : Nat) (hk : k < xs.length) (w' : World) (e : Ext w w') => by
    have hk' := hin (xs.getD k 0) (by rw [List.getD_eq_getElem?_getD, List.getElem?_eq_getElem hk]; exact List.getElem_mem hk)
    have := text_c w' (hT.ext e) (xs.getD k 0).toNat (by omega)
    rw [Int.toNat_of_nonneg hk'.1] at this
    exact (show Calls Tryz.prog 82 #[.int .i64 (xs.getD k 0)] w' (Ret w' fun r _ => r = .string (strOf (numD (xs.getD k 0)))) from this))
  have HSn := Lib.hid (fun (k : Nat) (hk : k < xs.length) => joinTo_snoc xs k hk)
  have HLn : Hid (∀ k, ((xs.take k).map fun x => strOf (numD x)).length ≤ 1000) := fun k => by rw [List.length_map, List.length_take]; omega
  have H0 : Hid (((xs.take 0).map fun x => strOf (numD x)) = []) := rfl
  have HJ := Lib.hid (fun (w' : World) (u : Value) (o : OwnP Value.string 9 w.heap.size w' u ((xs.take xs.length).map fun x => strOf (numD x))) => by
    have hm : ((xs.take xs.length).map fun x => strOf (numD x)).map (fun s : ByteArray => s.data.toList) = xs.map numD := by
      rw [List.take_length, List.map_map]
      exact List.map_congr_left (fun x _ => data_strOf (numD x))
    have := join_c w' u w.heap.size _ o (by rw [List.length_map, List.length_take]; omega) sep (by
      rw [hm]
      have h1 := join_len sep.data.toList 11 (xs.map numD) (fun y hy => by
        obtain ⟨x, hx, rfl⟩ := List.mem_map.1 hy
        have := hin x hx
        exact dec_len10 (by omega))
      have h2 : sep.data.toList.length = sep.size := len_str sep
      rw [h2, List.length_map] at h1
      have h3 : xs.length * (11 + sep.size) ≤ 1000 * 111 := Nat.mul_le_mul hl (by omega)
      omega)
    rw [hm] at this
    exact this)
  generalize hjt : (fun k => (xs.take k).map fun x => strOf (numD x)) = jT at *
  have HE : Hid (∀ k, ((xs.take k).map fun x => strOf (numD x)) = jT k) := fun k => by rw [← hjt]
  clear hjt
  obtain ⟨a, n, cap, rfl, hn, hmax, -⟩ := SliceR.shape h
  have HX := Lib.hid (fun (k : Nat) (hk : k < n) => ints_at h hk)
  rw [← hn] at HTx HSn HJ
  have hn1 : n ≤ 1000 := by omega
  clear h hin hl hn hT hsep
  go_enter Tryz.func83, Tryz.ntmps83
  go_wp2_with fail
  have o1 : OwnP Value.string 9 w.heap.size (w.alloc (.cells #[] 9)) (.slice (some ⟨w.heap.size, 0, none⟩) 0 0) [] := OwnP.empty (Nat.le_refl _)
  have e1 : Ext w (w.alloc (.cells #[] 9)) := Ext.alloc _ _
  generalize w.alloc (.cells #[] 9) = w1 at *
  go_loopw [5, 7, 11] (fun s5 _ s11 wr => ∃ k : Nat, k ≤ n ∧ s11 = .int .i64 (k : Int) ∧ OwnP Value.string 9 w.heap.size wr s5 (jT k) ∧ Ext w wr) (fun _ _ s11 _ => n - (intOf s11).toNat)
  case atStart => exact ⟨0, Nat.zero_le _, rfl, by rw [← HE.out, H0.out]; exact o1, e1⟩
  case round =>
    obtain ⟨k, hk, rfl, own, ew⟩ := hrel
    by_cases hlt : k < n
    · obtain ⟨b, off, rfl, -, hcx⟩ := HX.out k hlt
      replace hcx := hcx wr ew
      have HT2 := Lib.hid (HTx.out k hlt wr ew)
      have hsn := HSn.out k hlt
      rw [HE.out, HE.out] at hsn
      have HS2 := Lib.hid hsn
      have hln := HLn.out k
      rw [HE.out] at hln
      have HOw := Lib.hid own
      generalize strOf (numD (xs.getD k 0)) = sk at *
      generalize xs.getD k 0 = x at *
      clear hsn own
      go_wp2_with fail
      refine Calls.mono HT2.out ?_
      rintro e w2 hr
      obtain ⟨r, rfl, rfl, e2⟩ := ret_ext hr
      clear hr
      have own2 := HOw.out.ext e2
      have hsz := (ew.trans e2).size
      obtain ⟨a5, n5, k5, rfl, -⟩ := OwnP.shape own2
      go_wp2_with (at_builtin; (refine wpList_append1 (f := Value.string) (e := 9) (B := w.heap.size) (xs := jT k) rfl _ _ 72 rfl ⟨#[]⟩ 16 Tryz.underlying72 Tryz.infoStr rfl (fun _ => rfl) rfl own2 sk rfl (by omega) (by omega) hsz ?_); intro v6 w6 hown6 hg6 hb6)
      go_roundw
      case rel => exact ⟨k + 1, by omega, by go_num, by rw [HS2.out]; exact hown6, Below.trans (ew.trans e2) hb6⟩
      case measure => simp [intOf]; omega
    · have hkn : k = n := by omega
      subst hkn
      have HJ2 := Lib.hid (HJ.out wr _ (by rw [HE.out]; exact own))
      obtain ⟨a5, n5, k5, rfl, -⟩ := OwnP.shape own
      clear own HJ
      go_wp2_with fail
      refine Calls.mono HJ2.out ?_
      rintro e w2 hr
      obtain ⟨r, rfl, rfl, e2⟩ := ret_ext hr
      clear hr
      go_wp2_with fail
      go_ret
      exact ⟨_, rfl, rfl, ew.trans e2⟩
end Go.Proofs.YtpcgbfogkcbddaaGreatDoor
