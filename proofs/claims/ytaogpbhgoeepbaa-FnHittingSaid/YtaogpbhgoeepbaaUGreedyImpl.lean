/- Proved: GreedyHitting as the program computes it. -/
import Derived.Test.YtaogpbhgoeepbaaChecked
import Derived.Test.YtaogpbhgoeepbaaUGreedyRows
import Derived.Test.YtaogpbhgoeepbaaUSortInts
namespace Go.Proofs.Ytaogpbhgoeepbaa
open Go.ChangeShapes Go.WideShapes Go.ChangeAt Go.RowKit
set_option linter.unusedVariables false

set_option maxRecDepth 20000 in
set_option maxHeartbeats 1000000 in
theorem GreedyHitting_c (w : World) (v : Value) (z : Zone) (xss : List (List Int)) (n : Int) (hn : I64 n) (h : RowsR z w v xss) :
    Calls Try.prog 22 #[.int .i64 n, v] w (Ret w fun r w' => IntsCode w (greedyHit n xss) r w') := by
  have hcall := setsCode_c w v (.slice none 0 0) z z xss [] n hn h (SliceR.nil _ _ _)
  rw [setsCode_nil] at hcall
  cases hA : areSets n xss with
  | false =>
    have HH := Lib.hid (greedyHit_no hA)
    rw [hA] at hcall
    clear hA
    go_enter Try.func22, Try.ntmps22
    go_wp2_with fail
    refine Calls.mono hcall ?_
    rintro e w1 hr1
    obtain ⟨u1, rfl, rfl, b1⟩ := ret_ext hr1
    go_wp2_with fail
    go_ret2
    exact ⟨_, rfl, IntsCode_nil HH.out, b1⟩
  | true =>
    have HH := Lib.hid (greedyHit_ok hA)
    obtain ⟨h1, h12, -⟩ := areSets_mem hA
    obtain ⟨m, rfl⟩ : ∃ m : Nat, n = m := ⟨n.toNat, by omega⟩
    have HO := Lib.hid (OkSets.of hA)
    rw [hA] at hcall
    rw [Int.toNat_natCast] at HH
    clear hA hn
    have HHit := Lib.hid (fun (wq : World) (hb : Ext w wq) (u : Value) (q : Zone) (l : List Int) (hl : IntsR q wq u l) => hits_c wq v u z q xss l (stable_rows.ext h hb) hl)
    have HZ := Lib.hid (stateG_zero HO.out)
    have HDone := Lib.hid (fun c => stateG_done (n := m) (xss := xss) (c := c))
    have HNext := Lib.hid (fun c => stateG_pick (n := m) (xss := xss) (c := c) HO.out)
    have HFacts := Lib.hid (fun c => stateG_facts (n := m) (xss := xss) HO.out (c := c))
    have HRis := Lib.hid (fun s hs => (HO.out.2.2.2 s hs).2.1)
    obtain ⟨a, len, cap, rfl, hlen, hmax, hel⟩ := SliceR.elem stable_ints h
    have hl60 : len ≤ 60 := by rw [hlen]; exact HO.out.2.2.1
    have Hlen := Lib.hid hlen
    have Hel := Lib.hid hel
    have h1m : 1 ≤ m := by omega
    have h12m : m ≤ 12 := by omega
    have HP := Lib.hid (fun c => pick_index (xss := xss) (c := c) h1m)
    clear HO hel hlen h h1 h12
    go_enter Try.func22, Try.ntmps22
    go_wp2_with fail
    refine Calls.mono hcall ?_
    rintro e w1 hr1
    obtain ⟨u1, rfl, rfl, b1⟩ := ret_ext hr1
    clear hr1
    go_wp2_with fail
    generalize hw0 : World.alloc _ _ = w0
    have o0 : OwnP (Value.int .i64) 2 w.heap.size w0 (.slice (some ⟨w1.heap.size, 0, none⟩) 0 0) [] := by rw [← hw0]; exact OwnP.empty b1.size
    have b0 : Ext w w0 := by rw [← hw0]; exact b1.trans (Ext.alloc _ _)
    clear hw0 b1 hcall
    go_loopw [7] (fun o wr => ∃ c, StateG m xss c ∧ OwnP (Value.int .i64) 2 w.heap.size wr o c ∧ Ext w wr) (fun o _ => 61 - slLen o)
    case atStart => exact ⟨[], HZ.out, o0, b0⟩
    case round =>
      obtain ⟨c, hst, hown, hb⟩ := hrel
      clear o0 b0
      obtain ⟨f1, f2, f3, f4⟩ := HFacts.out c hst
      have Hst := Lib.hid hst
      have F2 := Lib.hid f2
      have F3 := Lib.hid f3
      have F4 := Lib.hid f4
      have hints := OwnP.ints hown f2 (Nat.le_refl _)
      obtain ⟨a1, n1, c1, rfl, hn1, -⟩ := OwnP.shape hown
      have hhit := HHit.out wr hb _ _ c hints
      have HD := Lib.hid (HDone.out c hst)
      have HN := Lib.hid (HNext.out c hst)
      have HPc := Lib.hid (HP.out c)
      have Hn1 := Lib.hid hn1
      clear hst f2 f3 f4 hn1 HP
      cases hq : hitsB xss c with
      | true =>
        have HE := Lib.hid (HD.out hq)
        rw [hq] at hhit
        clear hq HD HN HNext HDone HHit Hel
        go_wp2_with fail
        refine Calls.mono hhit ?_
        rintro e w2 hr2
        obtain ⟨u2, rfl, rfl, b2⟩ := ret_ext hr2
        clear hr2
        have hb2 := hb.trans b2
        have hown2 := hown.ext b2
        have hcall := SortInts_c w2 _ w.heap.size hb2.size c hown2 (by omega)
        have HS : Hid ((c.mergeSort fun x y => decide (x ≤ y)) = upto (has c) m) := sort_upto F4.out F3.out
        clear hhit
        go_wp2_with fail
        refine Calls.mono hcall ?_
        rintro e w3 ⟨rfl, hown3, hb3⟩
        clear hcall
        have HR : Hid (IntsR (.new w w3) w3 (.slice a1 n1 c1) (greedyL m xss)) := by
          have := OwnP.ints hown3 (fun x hx => by rw [HS.out] at hx; exact upto_i64 (by omega) x hx) (Nat.le_refl _)
          rw [HS.out, ← HE.out] at this
          exact this
        clear hown3 hown2 hown hints
        go_wp2_with fail
        go_ret2
        exact ⟨_, rfl, IntsCode_mk HH.out HR.out, hb2.to' hb3⟩
      | false =>
        have HM := Lib.hid (HN.out hq)
        rw [hq] at hhit
        clear hq HD HN HDone HHit
        go_wp2_with fail
        refine Calls.mono hhit ?_
        rintro e w2 hr2
        obtain ⟨u2, rfl, rfl, b2⟩ := ret_ext hr2
        clear hr2
        have hb2 := hb.trans b2
        have hown2 := hown.ext b2
        have hints2 := stable_ints.ext hints b2
        clear hhit hown hints
        go_wp2_with (at_make; refine wpList_makeP rfl _ _ 25 rfl 2 w2.heap.size (Value.int .i64) 0 8 Try.underlying25 Try.infoI64 rfl m rfl rfl (by omega) (by omega) (Nat.le_refl _) ?_)
        intro w3 hown3 hb3 hsz3
        have Hown3 : Hid (OwnP (Value.int .i64) 2 w2.heap.size w3 (.slice (some ⟨w2.heap.size, 0, none⟩) m m) (cntI (xss.take 0) c m)) := by
          have e : cntI (xss.take 0) c m = List.replicate m 0 := cntI_zero c m
          rw [e]; exact Lib.hid hown3
        clear hown3
        go_wp2_with fail
        go_loopw [28] (fun si wi => ∃ i : Nat, i ≤ len ∧ si = .int .i64 i ∧ OwnP (Value.int .i64) 2 w2.heap.size wi (.slice (some ⟨w2.heap.size, 0, none⟩) m m) (cntI (xss.take i) c m) ∧ Ext w2 wi) (fun si _ => len - (intOf si).toNat)
        case atStart => exact ⟨0, Nat.zero_le _, rfl, Hown3.out, hb3⟩
        case round =>
          obtain ⟨i, hi, rfl, hcnt, hbi⟩ := hrel
          clear Hown3 hb3 hsz3
          by_cases hlti : i < len
          · have l1 : i < xss.length := by rw [← Hlen.out]; exact hlti
            obtain ⟨bb, off, rfl, hb0, u, hc, hu⟩ := Hel.out i l1
            replace hc := (hb2.trans hbi).cell hc
            have HE := Lib.hid (midRow_end l1 c m)
            have HR := Lib.hid (HRis.out _ (List.getElem_mem l1))
            have hl60' : (xss.take i).length ≤ 60 := by rw [List.length_take]; omega
            generalize xss[i] = s at *
            have hu2 := stable_ints.ext hu hb2
            obtain ⟨au, nu, cu, rfl, hnu, hnm, -, -, -, hels⟩ := IntsR.shape hu
            have Hnu := Lib.hid hnu
            have Hels := Lib.hid hels
            rw [← midRow_zero (xss.take i) c m s] at hcnt
            have Hcnt := Lib.hid hcnt
            clear hu hnu hels hcnt
            go_wp2_with fail
            go_loopw [34] (fun sj wj => ∃ j : Nat, j ≤ nu ∧ sj = .int .i64 j ∧ OwnP (Value.int .i64) 2 w2.heap.size wj (.slice (some ⟨w2.heap.size, 0, none⟩) m m) (midRow (xss.take i) c m s j) ∧ Ext w2 wj) (fun sj _ => nu - (intOf sj).toNat)
            case atStart => exact ⟨0, Nat.zero_le _, rfl, Hcnt.out, hbi⟩
            case round =>
              obtain ⟨j, hj, rfl, hmid, hbj⟩ := hrel
              clear Hcnt
              by_cases hltj : j < nu
              · have l2 : j < s.length := by rw [← Hnu.out]; exact hltj
                obtain ⟨bs, os, rfl, hcs, ⟨hx1, hx2⟩, -⟩ := Hels.out j hltj
                replace hcs := (hb2.trans hbj).cell hcs
                obtain ⟨r1, r2⟩ := rising_ge HR.out j l2
                obtain ⟨k, hk⟩ : ∃ k : Nat, s.getD j 0 = k := ⟨(s.getD j 0).toNat, by omega⟩
                have hcall := meets_c wr _ _ _ _ s c (stable_ints.ext hu2 hbj) (stable_ints.ext hints2 hbj)
                have hkm : k < m := by omega
                rw [hk] at hcs
                cases hq3 : common s c with
                | true =>
                  have HT := Lib.hid (midRow_no (xss := xss.take i) (m := m) (j := j) hq3)
                  rw [hq3] at hcall
                  have Hmid := Lib.hid hmid
                  clear hq3 r1 r2 hk hmid hx1 hx2
                  go_wp2_with fail
                  refine Calls.mono hcall ?_
                  rintro e w5 hr5
                  obtain ⟨u5, rfl, rfl, b5⟩ := ret_ext hr5
                  clear hr5 hcall
                  go_wp2_with fail
                  go_roundw
                  case rel => exact ⟨j + 1, by omega, by go_num, by rw [HT.out]; exact Hmid.out.ext b5, hbj.trans b5⟩
                  case measure => simp [intOf]; omega
                | false =>
                  obtain ⟨hkl, he⟩ := midRow_yes (xss := xss.take i) (c := c) (m := m) hq3 HR.out l2 hk
                  have hbd := midRow_bound hkl hl60'
                  have HT := Lib.hid he
                  rw [hq3] at hcall
                  obtain ⟨q1, hc2, -⟩ := OwnP.at hmid hkm
                  have Hmid := Lib.hid hmid
                  have HST := Lib.hid (fun (wq : World) (he : Ext wr wq) => OwnP.store (hmid.ext he) k ((midRow (xss.take i) c m s j)[k] + 1))
                  clear hq3 r1 r2 hk he hmid hx1 hx2
                  generalize (midRow (xss.take i) c m s j)[k] = y at *
                  generalize midRow (xss.take i) c m s j = row at *
                  obtain ⟨y1, y2⟩ := hbd
                  go_wp2_with fail
                  refine Calls.mono hcall ?_
                  rintro e w5 hr5
                  obtain ⟨u5, rfl, rfl, b5⟩ := ret_ext hr5
                  clear hr5 hcall
                  replace hc2 := b5.cell hc2
                  obtain ⟨-, -, hf5⟩ := OwnP.at (Hmid.out.ext b5) hkm
                  have hb5 := hbj.trans b5
                  have HV := Lib.hid (HST.out _ b5)
                  clear HST
                  go_wp2_with fail
                  go_roundw
                  case rel => exact ⟨j + 1, by omega, by go_num, by rw [HT.out]; exact HV.out, Below.setCell hb5 (p := ⟨w2.heap.size, k, none⟩) (Nat.le_refl _) (.int .i64 (y + 1))⟩
                  case measure => simp [intOf]; omega
              · have hjn : j = nu := by omega
                have Hmid : Hid (OwnP (Value.int .i64) 2 w2.heap.size wr (.slice (some ⟨w2.heap.size, 0, none⟩) m m) (cntI (xss.take (i+1)) c m)) := by
                  have := hmid
                  rw [hjn, Hnu.out, HE.out] at this
                  exact this
                clear hmid
                go_wp2_with fail
                go_roundw
                case rel => exact ⟨i + 1, by omega, by go_num, Hmid.out, hbj⟩
                case measure => simp [intOf]; omega
          · have hin : i = len := by omega
            rw [hin, Hlen.out, List.take_length] at hcnt
            have hci : ∀ x ∈ cntI xss c m, I64 x := fun x hx => by
              obtain ⟨y, -, rfl⟩ := List.mem_map.1 hx
              have := cntL_le xss c (y : Int)
              have := Hlen.out
              unfold I64; omega
            have hcr := OwnP.ints hcnt hci (Nat.le_refl _)
            obtain ⟨hst', hpl⟩ := HM.out
            have Hst' := Lib.hid hst'
            have hl' := (HFacts.out _ hst').1
            have HL5 := Lib.hid hl'
            have hmx : I64 (maxAt (cntI xss c m) (cntI xss c m).length) := by
              obtain ⟨j, hj, e⟩ := maxAt_mem (cntI xss c m) (cntI xss c m).length (by rw [cntI_length]; omega) (Nat.le_refl _)
              rw [e]; exact hci _ (by simp [hj])
            have hcm := MaxInts_c wr _ _ _ hcr (by rw [cntI_length]; omega)
            have hci2 := fun (wq : World) (hd : Drew wr wq) => Index_c wq _ _ _ _ (stable_ints.drew hcr hd) hmx
            rw [HPc.out] at hci2
            have HI2 := Lib.hid hci2
            clear hci2 hcr hci hmx hcnt hst' hl' HPc HM hin
            generalize maxAt (cntI xss c m) (cntI xss c m).length = mx at *
            generalize pickX m xss c = b at *
            have hbr := hb2.trans hbi
            have hsz := hbr.size
            go_wp2_with fail
            refine Calls.mono hcm ?_
            rintro e w5 ⟨rfl, d5⟩
            go_wp2_with fail
            refine Calls.mono (HI2.out _ d5) ?_
            rintro e w6 ⟨rfl, d6⟩
            have hown6 := hown2.ext (hbi.trans (Ext.ofDrew (d5.trans d6)))
            have hb6 := hbr.trans (Ext.ofDrew (d5.trans d6))
            have hsz6 := hb6.size
            clear HI2 hcm
            go_wp2_with (at_builtin; (refine wpList_append1 (f := Value.int .i64) (e := 2) (B := w.heap.size) (xs := c) rfl _ _ 25 rfl 0 8 Try.underlying25 Try.infoI64 rfl (fun _ => rfl) rfl hown6 (b : Int) rfl (by omega) (by omega) hsz6 ?_); intro v7 w7 hown7 hg7 hb7)
            have hl7 := hown7
            obtain ⟨a7, n7, c7, rfl, hn7, -⟩ := OwnP.shape hl7
            go_roundw
            case rel => exact ⟨_, Hst'.out, hown7, hb6.to' hb7⟩
            case measure => have g1 := Hn1.out; have g2 := HL5.out; simp only [slLen]; rw [List.length_append, List.length_singleton] at g2; rw [hn7, List.length_append, List.length_singleton]; omega
end Go.Proofs.Ytaogpbhgoeepbaa
