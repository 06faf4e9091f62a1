/- Proved: digits one behind the other, the reference. -/
import Derived.Test.YtpcgbfogkcbddaaGreatDoorChecked
import Derived.Laws.IdiomStrings
import Derived.Test.YtpcgbfogkcbddaaGreatDoorUChartLaw
import Derived.Test.YtpcgbfogkcbddaaGreatDoorUPkD
namespace Go.Proofs.YtpcgbfogkcbddaaGreatDoor
open Go.ChangeShapes Go.WideShapes Go.ChangeAt Go.RowKit
set_option linter.unusedVariables false

theorem Tryz.infoU8 : (Tryz.prog.info? 5).map (fun i => (i.zero, i.size, i.bytes)) = some (some (.int .u8 0), 1, 1) := by kernel_rfl
def byteV (b : UInt8) : Value := .int .u8 (b.toNat : Int)
theorem digsTo_snoc (xs : List Int) (k : Nat) (h : k < xs.length) : digsD (xs.take (k + 1)) = digsD (xs.take k) ++ [UInt8.ofNat (48 + (xs.getD k 0).toNat)] := by
  have e : xs.take (k + 1) = xs.take k ++ [xs.getD k 0] := by
    rw [List.take_add_one, List.getElem?_eq_getElem h]
    simp [h]
  unfold digsD
  rw [e, List.map_append]
  rfl
theorem bytes_str {w : World} {B : Nat} {v : Value} {l : List UInt8} (o : OwnP byteV 5 B w v l) :
    (convert 45 9 v).run Tryz.prog w = .ok (.string (strOf l)) w := by
  obtain ⟨h1, h2⟩ := id o
  rcases h2 with ⟨rfl, h0⟩ | ⟨g, cap, cur, rfl, hb, hg, hnc, hcm, hcs, htake⟩
  · have hx : l = [] := List.eq_nil_of_length_eq_zero (by omega)
    subst hx
    rw [run_convert_bytes_string w 45 9 5 none 0 0 Tryz.underlying45 Tryz.underlying5 Tryz.underlying9]
    rfl
  · refine run_convert_bytes_back w _ _ _ ⟨g, 0, none⟩ cap l Tryz.underlying45 Tryz.underlying5 Tryz.underlying9 (fun j hj => ?_)
    obtain ⟨_, hc, -⟩ := OwnP.at o (k := j) hj
    have e : (⟨g, 0, none⟩ : Addr).add j = ⟨g, j, none⟩ := by rw [Addr.add_lit]; simp
    rw [e]
    exact hc

set_option maxRecDepth 20000 in
set_option maxHeartbeats 1000000 in
theorem l02Text_c (w : World) (v : Value) (z : Zone) (xs : List Int) (h : IntsR z w v xs) (hin : ∀ x ∈ xs, 0 ≤ x ∧ x ≤ 9) (hl : xs.length ≤ 1000) :
    Calls Tryz.prog 81 #[v] w (Ret w fun r _ => r = .string (strOf (digsD xs))) := by
  have HIn : Hid (∀ k, k < xs.length → 0 ≤ xs.getD k 0 ∧ xs.getD k 0 ≤ 9) := fun k hk => hin _ (by rw [List.getD_eq_getElem?_getD, List.getElem?_eq_getElem hk]; exact List.getElem_mem hk)
  have HSn := Lib.hid (fun (k : Nat) (hk : k < xs.length) => digsTo_snoc xs k hk)
  have HLn : Hid (∀ k, (digsD (xs.take k)).length ≤ 1000) := fun k => by unfold digsD; rw [List.length_map, List.length_take]; omega
  have H0 : Hid (digsD (xs.take 0) = []) := rfl
  have HF : Hid (digsD (xs.take xs.length) = digsD xs) := by show _ = _; rw [List.take_length]
  generalize hdt : (fun k => digsD (xs.take k)) = dT at *
  have HE : Hid (∀ k, digsD (xs.take k) = dT k) := fun k => by rw [← hdt]
  clear hdt
  generalize digsD xs = res at *
  obtain ⟨a, n, cap, rfl, hn, hmax, -⟩ := SliceR.shape h
  have HX := Lib.hid (fun (k : Nat) (hk : k < n) => ints_at h hk)
  rw [← hn] at HIn HSn HF
  clear h hin hl hn
  go_enter Tryz.func81, Tryz.ntmps81
  go_wp2_with fail
  have o1 : OwnP byteV 5 w.heap.size (w.alloc (.cells #[] 5)) (.slice (some ⟨w.heap.size, 0, none⟩) 0 0) [] := OwnP.empty (Nat.le_refl _)
  have e1 : Ext w (w.alloc (.cells #[] 5)) := Ext.alloc _ _
  generalize w.alloc (.cells #[] 5) = w1 at *
  go_loopw [3, 4] (fun s5 s11 wr => ∃ k : Nat, k ≤ n ∧ s11 = .int .i64 (k : Int) ∧ OwnP byteV 5 w.heap.size wr s5 (dT k) ∧ Ext w wr) (fun _ s11 _ => n - (intOf s11).toNat)
  case atStart => exact ⟨0, Nat.zero_le _, rfl, by rw [← HE.out, H0.out]; exact o1, e1⟩
  case round =>
    obtain ⟨k, hk, rfl, own, ew⟩ := hrel
    by_cases hlt : k < n
    · obtain ⟨b, off, rfl, -, hcx⟩ := HX.out k hlt
      replace hcx := hcx wr ew
      have hsn := HSn.out k hlt
      rw [HE.out, HE.out] at hsn
      have hln := HLn.out k
      rw [HE.out] at hln
      have hx := HIn.out k hlt
      generalize xs.getD k 0 = x at *
      obtain ⟨m, rfl⟩ := Int.eq_ofNat_of_zero_le hx.1
      have hm9 : m ≤ 9 := by omega
      have HS2 : Hid (dT (k + 1) = dT k ++ [UInt8.ofNat (48 + m)]) := hsn
      have hby : ((UInt8.ofNat (48 + m)).toNat : Int) = 48 + (m : Int) := by rw [UInt8.toNat_ofNat', Nat.mod_eq_of_lt (by omega)]; omega
      have hw1 : IntKind.i64.wrap (48 + (m : Int)) = 48 + (m : Int) := IntWalk.i64_in _ (by omega)
      have hw2 : IntKind.u8.wrap (48 + (m : Int)) = ((UInt8.ofNat (48 + m)).toNat : Int) := by rw [hby]; exact IntWalk.u8_in _ (by omega)
      have hsz := ew.size
      have HOw := Lib.hid own
      generalize UInt8.ofNat (48 + m) = bk at *
      obtain ⟨a5, n5, k5, rfl, -⟩ := OwnP.shape own
      clear hsn hx hby
      go_wp2_with (at_builtin; (refine wpList_append1 (f := byteV) (e := 5) (B := w.heap.size) (xs := dT k) rfl _ _ 45 rfl 0 1 Tryz.underlying45 Tryz.infoU8 rfl (fun _ => rfl) rfl own bk rfl (by omega) (by omega) hsz ?_); intro v6 w6 hown6 hg6 hb6)
      go_roundw
      case rel => exact ⟨k + 1, by omega, by go_num, by rw [HS2.out]; exact hown6, Below.trans ew hb6⟩
      case measure => simp [intOf]; omega
    · have hkn : k = n := by omega
      have hcv : (convert 45 9 _).run Tryz.prog wr = .ok (.string (strOf (dT k))) wr := bytes_str own
      have HR : Hid (dT k = res) := by show _ = _; rw [hkn, ← HE.out]; exact HF.out
      obtain ⟨a5, n5, k5, rfl, -⟩ := OwnP.shape own
      clear own hkn
      go_wp2_with fail
      go_ret
      exact ⟨_, rfl, by rw [← HR.out]; rfl, ew⟩
end Go.Proofs.YtpcgbfogkcbddaaGreatDoor
