/- Proved: spec.l26Least gives the least list, in a row of its own. -/
import Derived.Test.YtaogpbhgoeepbaaChecked
import Derived.Test.YtaogpbhgoeepbaaULeastSpecO
import Derived.Test.YtaogpbhgoeepbaaULeast
namespace Go.Proofs.Ytaogpbhgoeepbaa
open Go.ChangeShapes Go.WideShapes Go.ChangeAt Go.RowKit
set_option linter.unusedVariables false

set_option maxRecDepth 20000 in
set_option maxHeartbeats 1000000 in
theorem l26LeastO_c (w : World) (v : Value) (z : Zone) (xss : List (List Int)) (n : Nat) (h12 : n ≤ 12) (h : RowsR z w v xss) :
    Calls Try.prog 55 #[.int .i64 n, v] w (Ret w fun r w' => IntsO (.new w w') w' r (leastL (hitsB xss) n)) := by
  have hHit := fun (wq : World) (hb : Ext w wq) (u : Value) (q : Zone) (l : List Int) (hl : IntsR q wq u l) => l26Hits_c wq v u z q xss l (stable_rows.ext h hb) hl
  generalize hitsB xss = p at *
  have HHit := Lib.hid hHit; clear hHit
  have HAt := Lib.hid (fun (k : Nat) (x : List Int) => allChoices_at (p := p) (n := n) (k := k) (x := x))
  have HNo := Lib.hid (allChoices_none (p := p) (n := n))
  generalize leastL p n = res at *
  obtain ⟨av, nv, cv, rfl, -⟩ := SliceR.shape h
  clear h
  go_enter Try.func55, Try.ntmps55
  go_wp2_with fail
  go_loopw [5] (fun t wr => ∃ k : Nat, k ≤ n + 1 ∧ t = .int .i64 k ∧ (∀ j, j < k → (choices j n).find? p = none) ∧ Ext w wr) (fun t _ => n + 1 - (intOf t).toNat)
  case atStart => exact ⟨0, Nat.zero_le _, rfl, by simp, Ext.refl _⟩
  case round =>
    obtain ⟨k, hk, rfl, hall, hb⟩ := hrel
    have Hall := Lib.hid hall; clear hall
    by_cases hlt : k < n + 1
    · have hcall := l11ChoicesO_c k n wr (by omega) (by omega)
      have HA := Lib.hid (fun x => HAt.out k x hlt Hall.out)
      have HN : Hid ((choices k n).find? p = none → ∀ j, j < k + 1 → (choices j n).find? p = none) := fun h j hj => by
        by_cases e : j = k
        · rw [e]; exact h
        · exact Hall.out j (by omega)
      generalize choices k n = l at *
      clear Hall HAt HNo
      go_wp2_with fail
      refine Calls.mono hcall ?_
      rintro e w1 hr1
      obtain ⟨u1, rfl, r1, b1⟩ := ret_ext hr1
      clear hr1 hcall
      have hb1 := hb.trans b1
      obtain ⟨a1, n1, c1, rfl, hn1, hm1, -, -, -, hel⟩ := SliceR.shape r1
      have Hn1 := Lib.hid hn1
      have Hel := Lib.hid hel
      clear hn1 hel r1 b1
      generalize wr = wo at *
      go_wp2_with fail
      go_loopw [7] (fun t wi => ∃ i : Nat, i ≤ n1 ∧ t = .int .i64 i ∧ (∀ j (hj : j < l.length), j < i → p l[j] = false) ∧ Drew w1 wi) (fun t _ => n1 - (intOf t).toNat)
      case atStart => exact ⟨0, Nat.zero_le _, rfl, by simp, Drew.refl _⟩
      case round =>
        obtain ⟨i, hi, rfl, hno, hd⟩ := hrel
        have Hno := Lib.hid hno; clear hno
        have hbi := hb1.trans (Ext.ofDrew hd)
        by_cases hlti : i < n1
        · have l1 : i < l.length := by rw [← Hn1.out]; exact hlti
          obtain ⟨b, off, rfl, -, -, -, u, y, hcu, hys, -, hu⟩ := Hel.out i l1
          replace hcu := (hd.cell _).trans hcu
          have hu0 : IntsO (.new wo w1) w1 u l[i] := stable_into.sub hu hys
          have hu1 := hu0.ints
          have hu2 := stable_ints.drew hu1 hd
          have hcall := HHit.out wr hbi u _ l[i] hu2
          have HY : Hid (p l[i] = true → res = l[i]) := fun hp => HA.out _ (find_at l1 Hno.out hp)
          have HW : Hid (p l[i] = false → ∀ j (hj : j < l.length), j < i + 1 → p l[j] = false) := fun hp j hj hji => by
            by_cases e : j = i
            · subst e; exact hp
            · exact Hno.out j hj (by omega)
          clear hu Hno
          generalize l[i] = x at *
          obtain ⟨au, nu, cu, rfl, -⟩ := SliceR.shape hu2
          cases hq : p x with
          | true =>
            have HH := Lib.hid (HY.out hq)
            rw [hq] at hcall
            clear HY HW hq
            go_wp2_with fail
            refine Calls.mono hcall ?_
            rintro e w5 ⟨rfl, hd5⟩
            have hcu5 := (hd5.cell _).trans hcu
            go_wp2_with fail
            go_ret
            have hwo : Ext w wo := hb
            exact ⟨_, rfl, by rw [HH.out]; exact stable_into.grow hu0 hwo (Ext.ofDrew (hd.trans hd5)), hbi.trans (Ext.ofDrew hd5)⟩
          | false =>
            have HH := Lib.hid (HW.out hq)
            rw [hq] at hcall
            clear HY HW hq
            go_wp2_with fail
            refine Calls.mono hcall ?_
            rintro e w5 ⟨rfl, hd5⟩
            have hcu5 := (hd5.cell _).trans hcu
            go_wp2_with fail
            go_roundw
            case rel => exact ⟨i + 1, by omega, by go_num, HH.out, hd.trans hd5⟩
            case measure => simp [intOf]; omega
        · have hin : i = n1 := by omega
          have HH := Lib.hid (HN.out (find_no (fun j hj => Hno.out j hj (by rw [hin, Hn1.out]; exact hj))))
          obtain rfl := hin
          clear Hno HN HA
          go_wp2_with fail
          go_roundw
          case rel => exact ⟨k + 1, by omega, by go_num, HH.out, hbi⟩
          case measure => simp [intOf]; omega
    · obtain rfl : k = n + 1 := by omega
      have HH := Lib.hid (HNo.out Hall.out)
      clear HNo HAt Hall
      go_wp2_with fail
      go_ret
      exact ⟨_, rfl, by rw [HH.out]; exact IntsO.nil _ _, hb⟩
end Go.Proofs.Ytaogpbhgoeepbaa
