/- Proved: impl.LeastKeysFor computes what the reference computes. -/
import Derived.Test.YtbkijealdjghgaaChecked
import Derived.Test.YtbkijealdjghgaaULeastKeysIn
import Derived.Test.YtbkijealdjghgaaUMastersImpl
import Derived.Test.YtbkijealdjghgaaULeastImpl
namespace Go.Proofs.Ytbkijealdjghgaa
open Go.ChangeShapes Go.WideShapes Go.ChangeAt Go.RowKit
set_option linter.unusedVariables false

set_option maxRecDepth 20000 in
set_option maxHeartbeats 4000000 in
theorem LeastKeysFor_c (w : World) (u v : Value) (z1 z2 : Zone) (t : List (List Int)) (doors : List Int) (ht : RowsR z1 w u t) (hk : IntsR z2 w v doors) :
    Calls Try.prog 19 #[u, v] w (Ret w (IntsCode w (leastKeys t doors))) := by
  have HRow := Lib.hid (fun (wq : World) (e : Ext w wq) => stable_rows.ext ht e)
  have HDo := Lib.hid (fun (wq : World) (e : Ext w wq) => stable_ints.ext hk e)
  obtain ⟨a, nt, ct, rfl, hnt, hmt, hel⟩ := SliceR.elem stable_ints ht
  have Hnt := Lib.hid hnt; clear hnt
  go_enter Try.func19, Try.ntmps19
  go_wp2_with fail
  generalize hw0 : World.alloc _ _ = w0
  have b0 : Ext w w0 := by rw [← hw0]; exact Ext.alloc _ _
  have q0 : w0.cell? ⟨w.heap.size, 0, none⟩ = some (.slice a nt ct) := by rw [← hw0]; clear hw0; go_simp
  have HBX := Lib.hid (fun (w' : World) (e : Ext w0 w') => e.cell q0)
  clear hw0
  have hc1 := tableCode_c w0 _ z1 t (HRow.out w0 b0)
  have hnt := Hnt.out
  cases hT : isTable t with
  | false =>
    have HH := Lib.hid (leastKeys_no (doors := doors) hT)
    rw [hT, if_neg (by simp)] at hc1
    clear hT hnt
    refine Calls.mono hc1 ?_
    rintro e w1 ⟨rfl, hd⟩
    go_wp2_with fail
    go_ret2
    exact ⟨_, rfl, IntsCode_nil HH.out, (b0.trans (Ext.ofDrew hd)).below⟩
  | true =>
    rw [hT, if_pos rfl] at hc1
    obtain ⟨m1, m2, m3, m4, m5⟩ := isTable_mem hT
    obtain ⟨b, off, rfl, hb0, u0, hcu0, hu0⟩ := hel 0 (by omega)
    have e0 : t[0]'(by omega) = t.getD 0 [] := by simp [show 0 < t.length by omega]
    rw [e0] at hu0
    obtain ⟨a0, n0, c0, rfl, hn0, -⟩ := SliceR.shape hu0
    rw [← hn0] at m3 m4
    rw [Nat.add_zero] at hcu0
    have HC0 := Lib.hid (fun (w' : World) (e : Ext w w') => e.cell hcu0)
    have hc2 : ∀ wq, Ext w wq → Calls Try.prog 41 #[v, .int .i64 n0] wq (RetQ wq (.bool (rising doors n0))) := fun wq hq => IsRising_c wq v z2 doors n0 (HDo.out wq hq) (by unfold I64; omega)
    cases hR : rising doors n0 with
    | false =>
      have HH := Lib.hid (leastKeys_bad hT (by rw [← hn0]; exact hR))
      rw [hR] at hc2
      have HC := Lib.hid hc2
      have hnt0 : 0 < nt := by omega
      clear hT hR hc2 m5 hnt e0 hel hu0 hn0
      refine Calls.mono hc1 ?_
      rintro e w1 ⟨rfl, hd⟩
      have b1 := b0.trans (Ext.ofDrew hd)
      have q1 := HBX.out w1 (Ext.ofDrew hd)
      have hc0 := HC0.out w1 b1
      go_wp2_with fail
      refine Calls.mono (HC.out _ b1) ?_
      rintro e w2 ⟨rfl, hd2⟩
      go_wp2_with fail
      go_ret2
      exact ⟨_, rfl, IntsCode_nil HH.out, (b1.trans (Ext.ofDrew hd2)).below⟩
    | true =>
      have HH := Lib.hid (leastKeys_ok hT (by rw [← hn0]; exact hR))
      rw [hR] at hc2
      have HC := Lib.hid hc2
      have gd : ∀ d ∈ doors, 0 ≤ d ∧ ∀ r ∈ t, d < r.length := fun d hd => by
        have h1 := rising_mem hR d hd
        exact ⟨h1.1, fun r hr => by rw [(m5 r hr).1, ← hn0]; exact h1.2⟩
      have HHit : Hid (∀ (wq : World) (k : Nat) (vk : Value) (q : Zone) (x : List Int), Ext w0 wq → IntsR q wq vk x → (∀ y ∈ x, 0 ≤ y ∧ y < nt) → wq.cell? ⟨k, 0, none⟩ = some vk → Calls Try.prog 42 #[v, .func (.func 49) #[] #[.pointer (some ⟨k, 0, none⟩), .pointer (some ⟨w.heap.size, 0, none⟩)]] wq (Ret wq fun r _ => r = .bool (!openAll t x doors))) := fun wq k vk q x e hx hy hc => by
        have := ContainsFuncInts_c wq v z2 doors (HDo.out _ (b0.trans e)) _ Try.goesLeastKeys1 #[.pointer (some ⟨k, 0, none⟩), .pointer (some ⟨w.heap.size, 0, none⟩)] (fun d => !openAny t x d) (fun i hi w5 u5 hb5 hu5 => by
          obtain ⟨rfl, -⟩ := hu5
          exact LeastKeys1_c w5 _ vk z1 q t (HRow.out _ ((b0.trans e).trans (Ext.of hb5))) x (stable_ints.ext hx (Ext.of hb5)) _ ⟨k, 0, none⟩ ⟨w.heap.size, 0, none⟩ ((Ext.of hb5).cell hc) (HBX.out _ (e.trans (Ext.of hb5))) (fun y hyx => by have := hy y hyx; omega) (gd _ (List.getElem_mem hi)))
        have hall : (doors.any fun d => !openAny t x d) = !openAll t x doors := by unfold openAll; rw [List.not_all_eq_any_not]
        rw [hall] at this
        exact this
      have hnt0 : 0 < nt := by omega
      rw [← hnt] at HH m2
      clear hT hR hc2 m5 hnt e0 hel hu0 hn0 gd HRow HDo ht hk
      obtain ⟨p, hp⟩ : ∃ p : List Int → Bool, p = fun ks => openAll t ks doors := ⟨_, rfl⟩
      rw [← hp] at HH
      have HCall : Hid (∀ (wq : World) (k : Nat) (vk : Value) (q : Zone) (x : List Int), Ext w0 wq → IntsR q wq vk x → (∀ y ∈ x, 0 ≤ y ∧ y < nt) → wq.cell? ⟨k, 0, none⟩ = some vk → Calls Try.prog 42 #[v, .func (.func 49) #[] #[.pointer (some ⟨k, 0, none⟩), .pointer (some ⟨w.heap.size, 0, none⟩)]] wq (Ret wq fun r _ => r = .bool (!p x))) := by rw [hp]; exact HHit
      clear HHit hp
      have HE : Hid (leastO' p nt = match bestUpto p nt (2 ^ nt) with | some b => (b, 0) | none => ([], 4)) := rfl
      have hsh := shl_run nt (by omega)
      generalize leastO' p nt = res at *
      obtain ⟨N, hN⟩ : ∃ N, 2 ^ nt = N := ⟨_, rfl⟩
      have hN2 : N ≤ 4096 := by rw [← hN]; exact Nat.le_trans (Nat.pow_le_pow_right (by omega) (show nt ≤ 12 by omega)) (by decide)
      have HN := Lib.hid hN
      rw [hN] at hsh HE
      clear hN
      refine Calls.mono hc1 ?_
      rintro e w1 ⟨rfl, hd⟩
      clear hc1
      have e1 := Ext.ofDrew hd
      have q1 := HBX.out w1 e1
      have hc0 := HC0.out w1 (b0.trans e1)
      clear hd
      go_wp2_with fail
      refine Calls.mono (HC.out _ (b0.trans e1)) ?_
      rintro e w2 ⟨rfl, hd2⟩
      have e2 := e1.trans (Ext.ofDrew hd2)
      have q2 := HBX.out w2 e2
      clear hd2 HC HC0 hc0 q1 q0
      go_wp2_with fail
      generalize wrap64 (2 ^ nt) = M at *
      subst hsh
      go_loopw [7, 26] (fun o s wr => ∃ i : Nat, i ≤ N ∧ s = .int .i64 i ∧ BestR 2 w0.heap.size wr o (bestUpto p nt i) ∧ Ext w0 wr) (fun _ s _ => N - (intOf s).toNat)
      case atStart => exact ⟨0, Nat.zero_le _, rfl, rfl, e2⟩
      case round =>
        obtain ⟨s, hs, rfl, hbest, hb⟩ := hrel
        clear e1 e2 q2
        have hbs := hb.size
        by_cases hlt : s < N
        · have hm := members_c wr nt s (by omega) (by rw [HN.out]; exact hlt)
          have HB := Lib.hid (bestUpto_succ p nt s)
          have HI : Hid (∀ b, bestUpto p nt s = some b → ∀ x ∈ b, I64 x) := fun b hb => bestUpto_i64 (by omega) hb
          have HM : Hid (∀ x ∈ bitsL nt s, I64 x) := bitsL_i64 (by omega)
          have HMr : Hid (∀ y ∈ bitsL nt s, 0 ≤ y ∧ y < nt) := fun y hy => by have := upto_mem.1 hy; omega
          generalize bitsL nt s = x at *
          go_wp2_with fail
          refine Calls.mono hm ?_
          rintro e w3 hr1
          obtain ⟨u1, rfl, ⟨o1, g1, mm1, c1, rfl⟩, b3⟩ := ret_ext hr1
          clear hr1 hm
          have ea : Ext w3 (w3.alloc (.cells #[.slice (some ⟨g1, 0, none⟩) mm1 c1] 29)) := Ext.alloc _ _
          have kc : (w3.alloc (.cells #[.slice (some ⟨g1, 0, none⟩) mm1 c1] 29)).cell? ⟨w3.heap.size, 0, none⟩ = some (.slice (some ⟨g1, 0, none⟩) mm1 c1) := by go_simp
          have o1' := (OwnP.lower o1 hbs).ext (b3.trans ea |> fun _ => ea)
          have i1 := stable_ints.ext (OwnP.ints o1 HM.out (Nat.le_refl _)) ea
          have hb1 := hb.trans (b3.trans ea)
          have hbest1 := hbest.ext (b3.trans ea)
          clear hbest o1 b3 ea
          have hcall := HCall.out _ w3.heap.size _ _ x hb1 i1 HMr.out kc
          go_wp2_with fail
          refine Calls.mono hcall ?_
          rintro e w4 hr2
          obtain ⟨u2, rfl, rfl, b4⟩ := ret_ext hr2
          clear hr2 hcall
          have hb2 := hb1.trans b4
          have hbest2 := hbest1.ext b4
          have o2 := o1'.ext b4
          replace i1 := stable_ints.ext i1 b4
          have kc2 := b4.cell kc
          clear hbest1 o1' HCall kc b4 hb1
          cases hp : p x with
          | false =>
            have HS : Hid (bestUpto p nt (s + 1) = bestUpto p nt s) := by
              show _ = _; rw [HB.out]; unfold bestStep; rw [hp]; cases bestUpto p nt s <;> simp
            clear HB HI hp
            go_wp2_with fail
            go_roundw
            case rel => exact ⟨s + 1, by omega, by go_num, by rw [HS.out]; exact hbest2, hb2⟩
            case measure => simp [intOf]; omega
          | true =>
            generalize hbo : bestUpto p nt s = bo at *
            cases bo with
            | none =>
              have HS : Hid (bestUpto p nt (s + 1) = some x) := by
                show _ = _; rw [HB.out]; unfold bestStep; simp [hp]
              obtain rfl := hbest2
              have heq : ∀ wq, (binOp .eql 29 (.slice none 0 0) (.slice none 0 0)).run Try.prog wq = .ok (.bool true) wq := fun wq => Lib.run_eql_slice_nil (P := Try.prog) wq 29 2 none 0 0 0 0 Try.underlying29
              clear HB HI hp hbo
              go_wp2_with fail
              go_roundw
              case rel => exact ⟨s + 1, by omega, by go_num, by rw [HS.out]; exact ⟨o2, _, _, _, rfl⟩, hb2⟩
              case measure => simp [intOf]; omega
            | some bb =>
              have HS : Hid (bestUpto p nt (s + 1) = if lessL x bb = true then some x else some bb) := by
                show _ = _; rw [HB.out]; unfold bestStep; simp [hp]
              have hib := HI.out bb rfl
              obtain ⟨ob, gb, mb, cb, rfl⟩ := hbest2
              have hcall := fewerOrLess_c w4 _ _ _ _ x bb i1 (OwnP.ints ob hib (Nat.le_refl _))
              have heq := fun (wq : World) => Lib.run_eql_slice_nil (P := Try.prog) wq 29 2 (some ⟨gb, 0, none⟩) mb cb 0 0 Try.underlying29
              generalize lessL x bb = q at *
              clear HB HI hp hbo hib
              cases q with
              | true =>
                have HS2 := Lib.hid (HS.out.trans rfl)
                clear HS
                go_wp2_with fail
                refine Calls.mono hcall ?_
                rintro e w5 ⟨rfl, hd5⟩
                have kc5 := (Ext.ofDrew hd5).cell kc2
                clear hcall
                go_wp2_with fail
                go_roundw
                case rel => exact ⟨s + 1, by omega, by go_num, by rw [HS2.out]; exact ⟨o2.ext (Ext.ofDrew hd5), _, _, _, rfl⟩, hb2.trans (Ext.ofDrew hd5)⟩
                case measure => simp [intOf]; omega
              | false =>
                have HS2 : Hid (bestUpto p nt (s + 1) = some bb) := Lib.hid (HS.out.trans (by simp))
                clear HS
                go_wp2_with fail
                refine Calls.mono hcall ?_
                rintro e w5 ⟨rfl, hd5⟩
                clear hcall
                go_wp2_with fail
                go_roundw
                case rel => exact ⟨s + 1, by omega, by go_num, by rw [HS2.out]; exact ⟨ob.ext (Ext.ofDrew hd5), _, _, _, rfl⟩, hb2.trans (Ext.ofDrew hd5)⟩
                case measure => simp [intOf]; omega
        · obtain rfl : s = N := by omega
          have HIb : Hid (∀ b, bestUpto p nt s = some b → ∀ x ∈ b, I64 x) := fun b hb => bestUpto_i64 (by omega) hb
          cases hbo : bestUpto p nt s with
          | none =>
            rw [hbo] at hbest HE
            obtain rfl := hbest
            have HF := Lib.hid (HH.out.trans HE.out)
            have heq : ∀ wq, (binOp .eql 29 (.slice none 0 0) (.slice none 0 0)).run Try.prog wq = .ok (.bool true) wq := fun wq => Lib.run_eql_slice_nil (P := Try.prog) wq 29 2 none 0 0 0 0 Try.underlying29
            clear HE HH hbo
            go_wp2_with fail
            go_ret2
            exact ⟨_, rfl, IntsCode_nil HF.out, (b0.trans hb).below⟩
          | some bb =>
            have hib := HIb.out bb hbo
            rw [hbo] at hbest HE
            obtain ⟨ob, gb, mb, cb, rfl⟩ := hbest
            have HF := Lib.hid (HH.out.trans HE.out)
            have heq := fun (wq : World) => Lib.run_eql_slice_nil (P := Try.prog) wq 29 2 (some ⟨gb, 0, none⟩) mb cb 0 0 Try.underlying29
            have HI9 := Lib.hid (OwnP.ints ob hib (Nat.le_refl _))
            have hsz0 := b0.size
            clear HE HH hbo HIb hib ob
            go_wp2_with fail
            go_ret2
            exact ⟨_, rfl, IntsCode_mk HF.out (stable_ints.sub HI9.out ⟨fun k hk => ⟨by have := hk.1; simp only [Zone.new] at this ⊢; omega, hk.2⟩, fun h => rfl⟩), (b0.trans hb).below⟩
end Go.Proofs.Ytbkijealdjghgaa
