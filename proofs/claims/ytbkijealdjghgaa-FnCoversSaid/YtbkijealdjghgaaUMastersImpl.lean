/- Proved: the keys that open every door: the program. -/
import Derived.Test.YtbkijealdjghgaaChecked
import Derived.Test.YtbkijealdjghgaaUMasters
import Derived.Test.YtbkijealdjghgaaUPkA
namespace Go.Proofs.Ytbkijealdjghgaa
open Go.ChangeShapes Go.WideShapes Go.ChangeAt Go.RowKit
set_option linter.unusedVariables false

set_option maxRecDepth 20000 in
set_option maxHeartbeats 1000000 in
theorem tableCode_c (w : World) (u : Value) (z : Zone) (t : List (List Int)) (ht : RowsR z w u t) :
    Calls Try.prog 47 #[u, .slice none 0 0] w (RetQ w (.int .i64 (if isTable t = true then 0 else 1))) := by
  have hc1 := IsTable_c w u z t ht
  cases hT : isTable t with
  | false =>
    rw [hT] at hc1
    clear hT
    go_enter Try.func47, Try.ntmps47
    go_wp2_with fail
    refine Calls.mono hc1 ?_
    rintro e w1 ⟨rfl, hd⟩
    go_wp2_with fail
    go_ret
    exact ⟨rfl, hd⟩
  | true =>
    rw [hT] at hc1
    obtain ⟨m1, m2, -⟩ := isTable_mem hT
    obtain ⟨a, nt, ct, rfl, hnt, -⟩ := SliceR.elem stable_ints ht
    rw [← hnt] at m1 m2
    clear hT hnt ht
    go_enter Try.func47, Try.ntmps47
    go_wp2_with fail
    refine Calls.mono hc1 ?_
    rintro e w1 ⟨rfl, hd⟩
    clear hc1
    have hcall := allWithin_c w1 (.slice none 0 0) ⟨0, 0, false⟩ [] 0 ((nt : Int) - 1) (SliceR.nil _ _ _)
    rw [show allB [] 0 ((nt : Int) - 1) = true from rfl] at hcall
    go_wp2_with fail
    refine Calls.mono hcall ?_
    rintro e w2 ⟨rfl, hd2⟩
    go_wp2_with fail
    go_ret
    exact ⟨rfl, hd.trans hd2⟩

set_option maxRecDepth 20000 in
set_option maxHeartbeats 2000000 in
theorem MasterKeys_c (w : World) (u : Value) (z : Zone) (t : List (List Int)) (ht : RowsR z w u t) :
    Calls Try.prog 22 #[u] w (Ret w (IntsCode w (masterKeys t))) := by
  have hc1 := tableCode_c w u z t ht
  cases hT : isTable t with
  | false =>
    have HH := Lib.hid (masterKeys_no hT)
    rw [hT, if_neg (by simp)] at hc1
    clear hT
    go_enter Try.func22, Try.ntmps22
    go_wp2_with fail
    refine Calls.mono hc1 ?_
    rintro e w1 ⟨rfl, hd⟩
    go_wp2_with fail
    go_ret2
    exact ⟨_, rfl, IntsCode_nil HH.out, hd.below _⟩
  | true =>
    rw [hT, if_pos rfl] at hc1
    obtain ⟨m1, m2, m3, m4, m5⟩ := isTable_mem hT
    have HH := Lib.hid (masterKeys_ok hT)
    have HT := Lib.hid (fun (w' : World) (e : Ext w w') => stable_rows.ext ht e)
    obtain ⟨a, nt, ct, rfl, hnt, hmt, -⟩ := SliceR.elem stable_ints ht
    rw [← hnt] at m2
    have Hnt := Lib.hid hnt
    clear hT m1 m3 m4 m5 hnt ht
    go_enter Try.func22, Try.ntmps22
    go_wp2_with fail
    refine Calls.mono hc1 ?_
    rintro e w1 ⟨rfl, hd⟩
    clear hc1
    have h1 := Ext.ofDrew hd
    have hs1 := h1.size
    clear hd
    go_wp2_with fail
    have oi : OwnP (Value.int .i64) 2 w1.heap.size (w1.alloc (.cells #[] 2)) (.slice (some ⟨w1.heap.size, 0, none⟩) 0 0) [] := OwnP.empty (Nat.le_refl _)
    have di : Ext w1 (w1.alloc (.cells #[] 2)) := Ext.alloc _ _
    generalize hwi : w1.alloc (.cells #[] 2) = wi at *
    clear hwi
    go_loopw [5, 16] (fun o s wr => ∃ k : Nat, k ≤ nt ∧ s = .int .i64 k ∧ OwnP (Value.int .i64) 2 w1.heap.size wr o (upto (masterB t) k) ∧ Ext w1 wr) (fun _ s _ => nt - (intOf s).toNat)
    case atStart => exact ⟨0, Nat.zero_le _, rfl, oi, di⟩
    case round =>
      obtain ⟨k, hk, rfl, hown, hbk⟩ := hrel
      clear oi di
      have hbw := h1.trans hbk
      by_cases hlt : k < nt
      · have hkt : k < t.length := by rw [← Hnt.out]; exact hlt
        obtain ⟨a', n', c', he, -, -, hel⟩ := SliceR.elem stable_ints (HT.out wr hbw)
        injection he with he1 he2 he3
        subst he1; subst he2; subst he3
        obtain ⟨b, off, rfl, -, ur, hc, hu⟩ := hel k hkt
        have hcall := Contains_c wr ur _ t[k] 0 hu (by unfold I64; omega)
        have HYs := Lib.hid (upto_yes (p := masterB t) (k := k))
        have HNo := Lib.hid (upto_no (p := masterB t) (k := k))
        have HL := Lib.hid (upto_length (masterB t) k)
        have hq : masterB t (k : Int) = !has t[k] 0 := by unfold masterB; simp [hkt]
        rw [hq] at HYs HNo
        obtain ⟨q, hqq⟩ : ∃ q, has t[k] 0 = q := ⟨_, rfl⟩
        rw [hqq] at HYs HNo hcall
        obtain ⟨up, hup⟩ : ∃ up, upto (masterB t) k = up := ⟨_, rfl⟩
        rw [hup] at HYs HNo HL hown
        clear hq hqq hup hel hu
        go_wp2_with fail
        refine Calls.mono hcall ?_
        rintro e wf ⟨rfl, hd5⟩
        clear hcall hc
        have hown5 := hown.below (hd5.below _)
        have hbk5 := hbk.trans (Ext.ofDrew hd5)
        have hsz5 := hbk5.size
        clear hd5 hown hbk hbw
        cases q with
        | false =>
          go_wp2_with (at_builtin; (refine wpList_append1 (f := Value.int .i64) (e := 2) (B := w1.heap.size) (xs := up) rfl _ _ 29 rfl 0 8 Try.underlying29 Try.infoI64 rfl (fun _ => rfl) rfl hown5 (k : Int) rfl (by have := HL.out; omega) (by omega) (by omega) ?_); intro v6 w6x hown6 hg6 hb6)
          go_roundw
          case rel => exact ⟨k + 1, by omega, by go_num, by rw [HYs.out rfl]; exact hown6, Ext.to' hbk5 hb6⟩
          case measure => simp [intOf]; omega
        | true =>
          go_wp2_with fail
          go_roundw
          case rel => exact ⟨k + 1, by omega, by go_num, by rw [HNo.out rfl]; exact hown5, hbk5⟩
          case measure => simp [intOf]; omega
      · have hkn : k = nt := by omega
        subst hkn
        go_wp2_with fail
        go_ret2
        exact ⟨_, rfl, ⟨u5, by rw [HH.out]; rfl, by rw [HH.out, ← Hnt.out]; exact stable_ints.sub (OwnP.ints hown (fun y hy => by have := upto_mem.1 hy; unfold I64; omega) (Nat.le_refl _)) ⟨fun k hk => ⟨by have := hk.1; simp only [Zone.new] at this ⊢; omega, hk.2⟩, fun h => rfl⟩⟩, hbw.below⟩
end Go.Proofs.Ytbkijealdjghgaa
