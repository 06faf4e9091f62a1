/- Proved: GreedyHitting as the reference computes it. -/
import Derived.Test.YtaogpbhgoeepbaaChecked
import Derived.Test.YtaogpbhgoeepbaaUDifferent
import Derived.Test.YtaogpbhgoeepbaaUHitting
namespace Go.Proofs.Ytaogpbhgoeepbaa
open Go.ChangeShapes Go.WideShapes Go.ChangeAt Go.RowKit
set_option linter.unusedVariables false

theorem cntL_zero (xss : List (List Int)) (c : List Int) (x : Int) : cntL (xss.take 0) c x = 0 := rfl
theorem cntL_succ {xss : List (List Int)} {i : Nat} (h : i < xss.length) (c : List Int) (x : Int) : cntL (xss.take (i+1)) c x = cntL (xss.take i) c x + if (!common xss[i] c && has xss[i] x) = true then 1 else 0 := by
  unfold cntL
  rw [List.take_add_one, List.getElem?_eq_getElem h, List.filter_append, List.length_append]
  congr 1
  simp only [Option.toList_some, List.filter_cons, List.filter_nil]
  split <;> rfl
theorem cntL_le (xss : List (List Int)) (c : List Int) (x : Int) : cntL xss c x ≤ xss.length := List.length_filter_le _ _
/-- the best of the first x -/
def BestTo (f : Nat → Nat) (x : Nat) (best : Nat) (most : Int) : Prop :=
  (x = 0 ∧ best = 0 ∧ most = -1) ∨ (best < x ∧ most = f best ∧ (∀ j, j < x → f j ≤ f best) ∧ ∀ j, j < best → f j < f best)
theorem bestTo_yes {f : Nat → Nat} {x b : Nat} {m : Int} (h : BestTo f x b m) (hm : m < f x) : BestTo f (x+1) x (f x) := by
  refine .inr ⟨by omega, rfl, fun j hj => ?_, fun j hj => ?_⟩
  · by_cases e : j = x
    · rw [e]; exact Nat.le_refl _
    · rcases h with ⟨h, _⟩ | ⟨h1, rfl, h3, _⟩
      · omega
      · have := h3 j (by omega); omega
  · rcases h with ⟨h, _⟩ | ⟨h1, rfl, h3, _⟩
    · omega
    · have := h3 j (by omega); omega
theorem bestTo_no {f : Nat → Nat} {x b : Nat} {m : Int} (h : BestTo f x b m) (hm : ¬ m < f x) : BestTo f (x+1) b m := by
  rcases h with ⟨rfl, rfl, rfl⟩ | ⟨h1, rfl, h3, h4⟩
  · omega
  · refine .inr ⟨by omega, rfl, fun j hj => ?_, h4⟩
    by_cases e : j = x
    · rw [e]; omega
    · exact h3 j (by omega)
theorem pickX_best {n : Nat} {xss : List (List Int)} {c : List Int} (hn : 1 ≤ n) {b : Nat} {m : Int} (h : BestTo (fun j => cntL xss c (j : Int)) n b m) : pickX n xss c = b ∧ b < n := by
  rcases h with ⟨h, _⟩ | ⟨h1, _, h3, h4⟩
  · omega
  · exact ⟨pick_eq h1 h3 h4, h1⟩
/-- the chosen of some round -/
def StateG (n : Nat) (xss : List (List Int)) (c : List Int) : Prop := ∃ k, c = greedyN n xss k ∧ GoodG n xss k c ∧ ∀ j, j < k → hitsB xss (greedyN n xss j) = false
theorem stateG_zero {n : Nat} {xss : List (List Int)} (h : OkSets n xss) : StateG n xss [] := ⟨0, rfl, goodG_zero h, fun j hj => by omega⟩
theorem stateG_done {n : Nat} {xss : List (List Int)} {c : List Int} (h : StateG n xss c) (hh : hitsB xss c = true) : greedyL n xss = upto (has c) n := by
  obtain ⟨k, rfl, hg, hno⟩ := h
  unfold greedyL; rw [endG_eq hg hh hno]
theorem stateG_next {n : Nat} {xss : List (List Int)} {c : List Int} (ho : OkSets n xss) (h : StateG n xss c) (hh : hitsB xss c = false) {b : Nat} {m : Int} (hb : BestTo (fun j => cntL xss c (j : Int)) n b m) : StateG n xss (c ++ [(b : Int)]) ∧ b < n := by
  obtain ⟨k, rfl, hg, hno⟩ := h
  obtain ⟨e1, e2⟩ := pickX_best ho.1 hb
  have hs := goodG_succ ho hg hh
  rw [e1] at hs
  refine ⟨⟨k + 1, by show _ = greedyN n xss k ++ _; rw [e1], hs, fun j hj => ?_⟩, e2⟩
  by_cases e : j = k
  · rw [e]; exact hh
  · exact hno j (by omega)
theorem stateG_facts {n : Nat} {xss : List (List Int)} (ho : OkSets n xss) {c : List Int} (h : StateG n xss c) : c.length ≤ 60 ∧ (∀ x ∈ c, I64 x) ∧ (∀ x ∈ c, 0 ≤ x ∧ x < n) ∧ c.Nodup := by
  obtain ⟨k, rfl, ⟨g1, g2, g3, g4⟩, hno⟩ := h
  have := ho.2.1
  exact ⟨by omega, fun x hx => by have := g4 x hx; unfold I64; omega, g4, g3⟩

set_option maxRecDepth 20000 in
set_option maxHeartbeats 1000000 in
theorem GreedyHittingSpec_c (w : World) (v : Value) (z : Zone) (xss : List (List Int)) (n : Int) (hn : I64 n) (h : RowsR z w v xss) :
    Calls Try.prog 20 #[.int .i64 n, v] w (Ret w fun r w' => IntsCode w (greedyHit n xss) r w') := by
  have hcall := AreSetsSpec_c w v z xss n hn h
  cases hA : areSets n xss with
  | false =>
    have HH := Lib.hid (greedyHit_no hA)
    rw [hA] at hcall
    clear hA
    go_enter Try.func20, Try.ntmps20
    go_wp2_with fail
    refine Calls.mono hcall ?_
    rintro e w1 ⟨rfl, d1⟩
    go_wp2_with fail
    go_ret2
    exact ⟨_, rfl, IntsCode_nil HH.out, d1.below _⟩
  | true =>
    have HH := Lib.hid (greedyHit_ok hA)
    obtain ⟨h1, h12, -⟩ := areSets_mem hA
    obtain ⟨m, rfl⟩ : ∃ m : Nat, n = m := ⟨n.toNat, by omega⟩
    have HO := Lib.hid (OkSets.of hA)
    rw [hA] at hcall
    rw [Int.toNat_natCast] at HH
    clear hA hn
    have HHit := Lib.hid (fun (wq : World) (hb : Ext w wq) (u : Value) (q : Zone) (l : List Int) (hl : IntsR q wq u l) => l26Hits_c wq v u z q xss l (stable_rows.ext h hb) hl)
    have HZ := Lib.hid (stateG_zero HO.out)
    have HDone := Lib.hid (fun c => stateG_done (n := m) (xss := xss) (c := c))
    have HNext := Lib.hid (fun c => stateG_next (n := m) (xss := xss) (c := c) HO.out)
    have HFacts := Lib.hid (fun c => stateG_facts (n := m) (xss := xss) HO.out (c := c))
    obtain ⟨a, len, cap, rfl, hlen, hmax, hel⟩ := SliceR.elem stable_ints h
    have hl60 : len ≤ 60 := by rw [hlen]; exact HO.out.2.2.1
    have Hlen := Lib.hid hlen
    have Hel := Lib.hid hel
    have HB := Lib.hid (fun (i : Nat) c x => cntL_le (xss.take i) c x)
    clear HO hel hlen h
    have h1m : 1 ≤ m := by omega
    have h12m : m ≤ 12 := by omega
    clear h1 h12
    go_enter Try.func20, Try.ntmps20
    go_wp2_with fail
    refine Calls.mono hcall ?_
    rintro e w1 ⟨rfl, d1⟩
    have b1 := Ext.ofDrew d1
    go_wp2_with fail
    generalize hw0 : World.alloc _ _ = w0
    have sz1 := d1.size
    have o0 : OwnP (Value.int .i64) 2 w.heap.size w0 (.slice (some ⟨w1.heap.size, 0, none⟩) 0 0) [] := by rw [← hw0]; exact OwnP.empty (by omega)

    have b0 : Ext w w0 := by rw [← hw0]; exact b1.trans (Ext.alloc _ _)
    clear hw0 b1 hcall d1 sz1
    go_loopw [6] (fun o wr => ∃ c, StateG m xss c ∧ OwnP (Value.int .i64) 2 w.heap.size wr o c ∧ Ext w wr) (fun o _ => 61 - slLen o)
    case atStart => exact ⟨[], HZ.out, o0, b0⟩
    case round =>
      obtain ⟨c, hst, hown, hb⟩ := hrel
      clear o0 b0
      obtain ⟨f1, f2, f3, f4⟩ := HFacts.out c hst
      have Hst := Lib.hid hst
      have F2 := Lib.hid f2
      have F3 := Lib.hid f3
      have hints := OwnP.ints hown f2 (Nat.le_refl _)
      obtain ⟨a1, n1, c1, rfl, hn1, -⟩ := OwnP.shape hown
      have hhit := HHit.out wr hb _ _ c hints
      have HD := Lib.hid (HDone.out c hst)
      have HN := Lib.hid (fun h1 b mm => HNext.out c hst h1 (b := b) (m := mm))
      have Hn1 := Lib.hid hn1
      clear hst f2 f3 f4 hn1
      cases hq : hitsB xss c with
      | true =>
        have HE := Lib.hid (HD.out hq)
        rw [hq] at hhit
        clear hq HD HN HNext HDone HHit HB Hel
        go_wp2_with fail
        refine Calls.mono hhit ?_
        rintro e w2 ⟨rfl, d2⟩
        have b2 := hb.trans (Ext.ofDrew d2)
        have hcall := l18Different_c w2 _ _ c m (by omega) F3.out (stable_ints.drew hints d2)
        clear hhit
        go_wp2_with fail
        refine Calls.mono hcall ?_
        rintro e w3 hr3
        obtain ⟨u3, rfl, r3, b3⟩ := ret_ext hr3
        clear hr3 hcall
        go_wp2_with fail
        go_ret2
        exact ⟨_, rfl, IntsCode_mk HH.out (by rw [HE.out]; exact stable_ints.grow r3 b2 (Ext.refl _)), b2.trans b3⟩
      | false =>
        have HM := Lib.hid (fun b mm => HN.out hq b mm)
        rw [hq] at hhit
        clear hq HD HN HDone HHit
        go_wp2_with fail
        refine Calls.mono hhit ?_
        rintro e w2 ⟨rfl, d2⟩
        have b2 := hb.trans (Ext.ofDrew d2)
        have hown2 := hown.ext (Ext.ofDrew d2)
        have hints2 := stable_ints.drew hints d2
        clear hhit hown hints
        go_wp2_with fail
        go_loopw [7, 8, 9] (fun sb sm sx wi => ∃ (x b : Nat) (q : Int), x ≤ m ∧ sx = .int .i64 x ∧ sb = .int .i64 b ∧ sm = .int .i64 q ∧ BestTo (fun j => cntL xss c (j : Int)) x b q ∧ -1 ≤ q ∧ q ≤ 60 ∧ b ≤ m ∧ Drew w2 wi) (fun _ _ sx _ => m - (intOf sx).toNat)
        case atStart => exact ⟨0, 0, -1, Nat.zero_le _, rfl, rfl, rfl, .inl ⟨rfl, rfl, rfl⟩, by omega, by omega, Nat.zero_le _, Drew.refl _⟩
        case round =>
          obtain ⟨x, b, q, hx, rfl, rfl, rfl, hbest, hq1, hq2, hbm, hd⟩ := hrel
          have HY := Lib.hid (bestTo_yes hbest)
          have HNo := Lib.hid (bestTo_no hbest)
          by_cases hlt : x < m
          · clear hbest
            go_wp2_with fail
            go_loopw [10, 11] (fun sc si wj => ∃ i : Nat, i ≤ len ∧ si = .int .i64 i ∧ sc = .int .i64 ((cntL (xss.take i) c (x : Int) : Nat) : Int) ∧ Drew w2 wj) (fun _ si _ => len - (intOf si).toNat)
            case atStart => exact ⟨0, Nat.zero_le _, rfl, rfl, hd⟩
            case round =>
              obtain ⟨i, hi, rfl, rfl, hdj⟩ := hrel
              by_cases hlti : i < len
              · have l1 : i < xss.length := by rw [← Hlen.out]; exact hlti
                obtain ⟨bb, off, rfl, hb0, u, hc, hu⟩ := Hel.out i l1
                have hbj := b2.trans (Ext.ofDrew hdj)
                replace hc := hbj.cell hc
                have HS := Lib.hid (cntL_succ l1 c (x : Int))
                have hbd : cntL (xss.take i) c (x : Int) ≤ 60 := Nat.le_trans (HB.out i c x) (by rw [List.length_take]; omega)
                generalize cntL (xss.take i) c (x : Int) = cc at *
                generalize xss[i] = s at *
                have hu' := stable_ints.ext hu hbj
                have hcall := Common_c wr u _ _ _ s c hu' (stable_ints.drew hints2 hdj)
                obtain ⟨au, nu, cu, rfl, -⟩ := SliceR.shape hu'
                clear hu
                cases hq3 : common s c with
                | true =>
                  have HT : Hid (cntL (xss.take (i+1)) c (x : Int) = cc) := Lib.hid (by rw [HS.out, hq3]; simp)
                  rw [hq3] at hcall
                  clear hq3 HS
                  go_wp2_with fail
                  refine Calls.mono hcall ?_
                  rintro e w5 ⟨rfl, hd5⟩
                  clear hcall
                  go_wp2_with fail
                  go_roundw
                  case rel => exact ⟨i + 1, by omega, by go_num, by rw [HT.out], hdj.trans hd5⟩
                  case measure => simp [intOf]; omega
                | false =>
                  rw [hq3] at hcall
                  have hcall2 := fun (wq : World) (hd : Drew wr wq) => Has_c wq _ _ s (x : Int) (stable_ints.drew hu' hd) (by unfold I64; omega)
                  cases hq4 : has s (x : Int) with
                  | true =>
                    have HT : Hid (cntL (xss.take (i+1)) c (x : Int) = cc + 1) := Lib.hid (by rw [HS.out, hq3, hq4]; simp)
                    rw [hq4] at hcall2
                    have HC2 := Lib.hid hcall2
                    clear hq3 hq4 HS hcall2
                    go_wp2_with fail
                    refine Calls.mono hcall ?_
                    rintro e w5 ⟨rfl, hd5⟩
                    clear hcall
                    replace hc := (hd5.cell _).trans hc
                    go_wp2_with fail
                    refine Calls.mono (HC2.out _ hd5) ?_
                    rintro e w6 ⟨rfl, hd6⟩
                    go_wp2_with fail
                    go_roundw
                    case rel => exact ⟨i + 1, by omega, by go_num, by rw [HT.out]; go_num, (hdj.trans hd5).trans hd6⟩
                    case measure => simp [intOf]; omega
                  | false =>
                    have HT : Hid (cntL (xss.take (i+1)) c (x : Int) = cc) := Lib.hid (by rw [HS.out, hq3, hq4]; simp)
                    rw [hq4] at hcall2
                    have HC2 := Lib.hid hcall2
                    clear hq3 hq4 HS hcall2
                    go_wp2_with fail
                    refine Calls.mono hcall ?_
                    rintro e w5 ⟨rfl, hd5⟩
                    clear hcall
                    replace hc := (hd5.cell _).trans hc
                    go_wp2_with fail
                    refine Calls.mono (HC2.out _ hd5) ?_
                    rintro e w6 ⟨rfl, hd6⟩
                    go_wp2_with fail
                    go_roundw
                    case rel => exact ⟨i + 1, by omega, by go_num, by rw [HT.out], (hdj.trans hd5).trans hd6⟩
                    case measure => simp [intOf]; omega
              · have hin : i = len := by omega
                have hbd : cntL (xss.take i) c (x : Int) ≤ 60 := Nat.le_trans (HB.out i c x) (by rw [List.length_take]; omega)
                have HT : Hid (cntL (xss.take i) c (x : Int) = cntL xss c (x : Int)) := Lib.hid (by rw [hin, Hlen.out, List.take_length])
                generalize cntL (xss.take i) c (x : Int) = cc at *
                by_cases hgt : q < (cc : Int)
                · have HV := Lib.hid (HY.out (by rw [← HT.out]; exact hgt))
                  have d3 : decide (q < (cc : Int)) = true := by simpa using hgt
                  clear HY HNo hgt
                  go_wp2_with fail
                  go_roundw
                  case rel => exact ⟨x + 1, x, cc, by omega, by go_num, rfl, rfl, by rw [HT.out]; exact HV.out, by omega, by omega, by omega, hdj⟩
                  case measure => simp [intOf]; omega
                · have HV := Lib.hid (HNo.out (by rw [← HT.out]; omega))
                  have d3 : decide (q < (cc : Int)) = false := decide_eq_false hgt
                  clear HY HNo hgt
                  go_wp2_with fail
                  go_roundw
                  case rel => exact ⟨x + 1, b, q, by omega, by go_num, rfl, rfl, HV.out, hq1, hq2, hbm, hdj⟩
                  case measure => simp [intOf]; omega
          · obtain rfl : x = m := by omega
            obtain ⟨hst', hbl⟩ := HM.out b q hbest
            have hl' := (HFacts.out _ hst').1
            have Hst' := Lib.hid hst'
            clear hst' hbest HY HNo HM
            have hbi := b2.trans (Ext.ofDrew hd)
            have hsz := hbi.size
            have hown5 := hown2.ext (Ext.ofDrew hd)
            have HL5 := Lib.hid hl'
            clear hl'
            go_wp2_with (at_builtin; (refine wpList_append1 (f := Value.int .i64) (e := 2) (B := w.heap.size) (xs := c) rfl _ _ 25 rfl 0 8 Try.underlying25 Try.infoI64 rfl (fun _ => rfl) rfl hown5 (b : Int) rfl (by omega) (by omega) hsz ?_); intro v6 w6 hown6 hg6 hb6)
            have hl6 := hown6
            obtain ⟨a6, n6, c6, rfl, hn6, -⟩ := OwnP.shape hl6
            go_roundw
            case rel => exact ⟨_, Hst'.out, hown6, hbi.to' hb6⟩
            case measure => have g1 := Hn1.out; have g2 := HL5.out; simp only [slLen]; rw [List.length_append, List.length_singleton] at g2; rw [hn6, List.length_append, List.length_singleton]; omega
end Go.Proofs.Ytaogpbhgoeepbaa
