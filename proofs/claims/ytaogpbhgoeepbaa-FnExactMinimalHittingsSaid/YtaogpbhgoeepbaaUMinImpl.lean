/- Proved: MinimalHittings as the program computes it. -/
import Derived.Test.YtaogpbhgoeepbaaChecked
import Derived.Test.YtaogpbhgoeepbaaUMinSpec
import Derived.Test.YtaogpbhgoeepbaaUSortRows
import Derived.Test.YtaogpbhgoeepbaaULeastImpl
namespace Go.Proofs.Ytaogpbhgoeepbaa
open Go.ChangeShapes Go.WideShapes Go.ChangeAt Go.RowKit
set_option linter.unusedVariables false

theorem SliceR.takeN {α : Type} {E : Repr α} {z : Zone} {w : World} {a : Option Addr} {n cap : Nat} {xs : List α} (h : SliceR E z w (.slice a n cap) xs) {k : Nat} (hk : k ≤ xs.length) : SliceR E z w (.slice a k cap) (xs.take k) := by
  obtain ⟨a', cap', he, g1, g2, g3, g4⟩ := h
  injection he with e1 e2 e3
  subst e1; subst e3
  have hl : (xs.take k).length = k := by rw [List.length_take]; omega
  refine ⟨a, cap, by rw [hl], by omega, g2, fun e => ⟨by rw [(g3 e).1]; simp, (g3 e).2⟩, fun ad had hp => ?_⟩
  obtain ⟨k1, k2, k3, k4, Z, k5, k6, k7⟩ := g4 ad had (by omega)
  refine ⟨k1, k2, k3, fun ho i hi => k4 ho i (by omega), Z, fun i hi => k5 i (by omega), fun ho => ⟨fun i hi => (k6 ho).1 i (by omega), fun i j hij hj => (k6 ho).2 i j hij (by omega)⟩, fun i hi => ?_⟩
  obtain ⟨u, c1, c2⟩ := k7 i (by omega)
  exact ⟨u, c1, by rw [List.getElem_take]; exact c2⟩
def selTo (p : List Int → Bool) (n s : Nat) : List (List Int) := ((List.range s).map (bitsL n)).filter p
theorem selTo_succ (p : List Int → Bool) (n s : Nat) : selTo p n (s+1) = selTo p n s ++ if p (bitsL n s) = true then [bitsL n s] else [] := by
  unfold selTo
  rw [List.range_succ, List.map_append, List.filter_append]
  congr 1
  simp only [List.map_cons, List.map_nil, List.filter_cons, List.filter_nil]
theorem selTo_length (p : List Int → Bool) (n s : Nat) : (selTo p n s).length ≤ s := by
  unfold selTo
  have := List.length_filter_le p ((List.range s).map (bitsL n))
  simpa using this

set_option maxRecDepth 20000 in
set_option maxHeartbeats 1000000 in
theorem MinimalHittings_c (w : World) (v : Value) (z : Zone) (xss : List (List Int)) (n most : Int) (hn : I64 n) (hm : I64 most) (h : RowsR z w v xss) :
    Calls Try.prog 26 #[.int .i64 n, v, .int .i64 most] w (Ret w fun r w' => RowsCode w (minimalHits n xss most) r w') := by
  have hcall := setsCode_c w v (.slice none 0 0) z z xss [] n hn h (SliceR.nil _ _ _)
  rw [setsCode_nil] at hcall
  cases hA : areSets n xss with
  | false =>
    have HH := Lib.hid (minimalHits_no (most := most) hA)
    rw [hA] at hcall
    clear hA
    go_enter Try.func26, Try.ntmps26
    go_wp2_with fail
    refine Calls.mono hcall ?_
    rintro e w1 hr1
    obtain ⟨u1, rfl, rfl, b1⟩ := ret_ext hr1
    go_wp2_with fail
    go_ret2
    exact ⟨_, rfl, RowsCode_nil HH.out, b1⟩
  | true =>
    have hcall2 := fun (wq : World) => within_c wq most 0 60
    cases hB : inB most 0 60 with
    | false =>
      have HH := Lib.hid (minimalHits_two hA hB)
      rw [hA] at hcall
      rw [hB] at hcall2
      have HC2 := Lib.hid hcall2
      clear hA hB hcall2
      go_enter Try.func26, Try.ntmps26
      go_wp2_with fail
      refine Calls.mono hcall ?_
      rintro e w1 hr1
      obtain ⟨u1, rfl, rfl, b1⟩ := ret_ext hr1
      go_wp2_with fail
      refine Calls.mono (HC2.out _) ?_
      rintro e w2 ⟨rfl, d2⟩
      go_wp2_with fail
      go_ret2
      exact ⟨_, rfl, RowsCode_nil HH.out, b1.trans (Ext.ofDrew d2)⟩
    | true =>
      have HH := Lib.hid (minimalHits_ok hA hB)
      obtain ⟨h1, h12, -⟩ := areSets_mem hA
      have hmm : 0 ≤ most ∧ most ≤ 60 := by simpa [inB] using hB
      obtain ⟨m, rfl⟩ : ∃ m : Nat, n = m := ⟨n.toNat, by omega⟩
      obtain ⟨M, rfl⟩ : ∃ M : Nat, most = M := ⟨most.toNat, by omega⟩
      have hM : M ≤ 60 := by omega
      have hm12 : m ≤ 12 := by omega
      rw [hA] at hcall
      rw [hB] at hcall2
      have HC2 := Lib.hid hcall2
      rw [Int.toNat_natCast, Int.toNat_natCast] at HH
      clear hA hB hcall2 hmm h1 h12 hn hm
      have HMin := Lib.hid (fun (wq : World) (hb : Ext w wq) (u : Value) (q : Zone) (l : List Int) (hl : IntsR q wq u l) (hll : l.length ≤ 1099511627776) => isMinimal_c wq v u z q xss l (stable_rows.ext h hb) hl hll)
      generalize minimalB xss = p at *
      have hsh := shl_run m hm12
      have HRes : Hid ((allSets m).filter p = selTo p m (2 ^ m)) := rfl
      obtain ⟨N, hN⟩ : ∃ N, 2 ^ m = N := ⟨_, rfl⟩
      have hN2 : N ≤ 4096 := by rw [← hN]; exact Nat.le_trans (Nat.pow_le_pow_right (by omega) hm12) (by decide)
      have HN := Lib.hid hN
      rw [hN] at hsh HRes
      clear hN
      obtain ⟨av, nv, cv, rfl, -⟩ := SliceR.shape h
      clear h
      go_enter Try.func26, Try.ntmps26
      go_wp2_with fail
      refine Calls.mono hcall ?_
      rintro e w1 hr1
      obtain ⟨u1, rfl, rfl, b1⟩ := ret_ext hr1
      clear hr1
      go_wp2_with fail
      refine Calls.mono (HC2.out _) ?_
      rintro e w2 ⟨rfl, d2⟩
      have b2 := b1.trans (Ext.ofDrew d2)
      clear hcall HC2
      go_wp2_with fail
      generalize hw0 : World.alloc _ _ = w0
      have o0 : OwnR true w.heap.size IntsR 25 w.heap.size w0 (.slice (some ⟨w2.heap.size, 0, none⟩) 0 0) [] := by rw [← hw0]; exact OwnR.empty b2.size
      have b0 : Ext w w0 := by rw [← hw0]; exact b2.trans (Ext.alloc _ _)
      clear hw0 b2 b1 d2
      generalize wrap64 (2 ^ m) = MM at *
      subst hsh
      go_loopw [9, 24] (fun o t wr => ∃ s : Nat, s ≤ N ∧ t = .int .i64 s ∧ OwnR true w.heap.size IntsR 25 w.heap.size wr o (selTo p m s) ∧ Ext w wr) (fun _ t _ => N - (intOf t).toNat)
      case atStart => exact ⟨0, Nat.zero_le _, rfl, o0, b0⟩
      case round =>
        obtain ⟨s, hs, rfl, hown, hb⟩ := hrel
        clear o0 b0
        have hbs := hb.size
        have HSL : Hid ((selTo p m s).length ≤ 4096) := Nat.le_trans (selTo_length p m s) (by omega)
        by_cases hlt : s < N
        · have hmc := members_c wr m s (by omega) (by rw [HN.out]; exact hlt)
          have HS := Lib.hid (selTo_succ p m s)
          have HM : Hid (∀ x ∈ bitsL m s, I64 x) := bitsL_i64 (by omega)
          have HBL : Hid ((bitsL m s).length ≤ 12) := Nat.le_trans (upto_length _ _) hm12
          generalize bitsL m s = x at *
          generalize selTo p m s = sel at *
          obtain ⟨ao, no, co, rfl, -⟩ := OwnA.shape hown
          have Hown := Lib.hid hown
          clear hown
          go_wp2_with fail
          refine Calls.mono hmc ?_
          rintro e w3 hr3
          obtain ⟨u3, rfl, ⟨o3, g3, m3, c3, rfl⟩, b3⟩ := ret_ext hr3
          clear hr3 hmc
          have i3 := OwnP.ints o3 HM.out (Nat.le_refl _)
          have hmin := HMin.out _ (hb.trans b3) _ _ x i3 (by have := HBL.out; omega)
          have I3 := Lib.hid i3
          clear o3 i3
          cases hq : p x with
          | false =>
            have HT : Hid (selTo p m (s+1) = sel) := Lib.hid (by rw [HS.out, hq]; simp)
            rw [hq] at hmin
            clear hq HS
            go_wp2_with fail
            refine Calls.mono hmin ?_
            rintro e w4 hr4
            obtain ⟨u4, rfl, rfl, b4⟩ := ret_ext hr4
            clear hr4 hmin
            go_wp2_with fail
            go_roundw
            case rel => exact ⟨s + 1, by omega, by go_num, by rw [HT.out]; exact OwnR.below stable_ints Hown.out (b3.trans b4), (hb.trans b3).trans b4⟩
            case measure => simp [intOf]; omega
          | true =>
            have HT : Hid (selTo p m (s+1) = sel ++ [x]) := Lib.hid (by rw [HS.out, hq]; simp)
            rw [hq] at hmin
            clear hq HS
            go_wp2_with fail
            refine Calls.mono hmin ?_
            rintro e w4 hr4
            obtain ⟨u4, rfl, rfl, b4⟩ := ret_ext hr4
            clear hr4 hmin
            have hbw4 : Below wr.heap.size wr w4 := b3.trans b4
            have hi4 : IntsR (.new wr w4) w4 (slV (some ⟨g3, 0, none⟩, m3, c3)) x := stable_ints.grow I3.out (Ext.refl _) b4
            have hown := Hown.out
            have hl1 : sel.length + 1 ≤ 1099511627776 := by have := HSL.out; omega
            go_wp2_with (at_builtin; (refine wpList_appendRow (b := true) (L := w.heap.size) (B := w.heap.size) (E := IntsR) (e := 25) stable_ints slRepr_slice rfl _ _ 22 rfl Try.underlying22 Try.infoInts rfl hown hbw4 (some ⟨g3, 0, none⟩, m3, c3) x hi4 rfl hl1 hbs hbs ?_); intro v7 w7 hown7 hb7 hz7 hg7 hat7)
            go_roundw
            case rel => exact ⟨s + 1, by omega, by go_num, by rw [HT.out]; exact hown7, Below.trans hb hb7⟩
            case measure => simp [intOf]; omega
        · obtain rfl : s = N := by omega
          obtain ⟨ao, no, co, rfl, -⟩ := OwnA.shape hown
          have hcall := SortRows_c wr _ w.heap.size w.heap.size hbs _ hown (by have := HSL.out; omega)
          rw [← HRes.out] at hcall HSL
          clear hown
          go_wp2_with fail
          refine Calls.mono hcall ?_
          rintro e w3 ⟨rfl, ys, hp, hso, hown3, hb3⟩
          have HYs := Lib.hid (sorted_choices' hp hso)
          have hyl : ys.length ≤ 4096 := by rw [hp.length_eq]; exact HSL.out
          have hno := OwnA.len hown3
          have hr := OwnR.reads hown3 (Nat.le_refl _)
          obtain ⟨_, _, _, he, -, -, hcap, hmax, -⟩ := SliceR.shape hr
          injection he with he1 he2 he3
          subst he1; subst he2; subst he3
          have HR := Lib.hid (fun k hk => SliceR.takeN hr (k := k) hk)
          have hno4 : no ≤ 4096 := by omega
          have Hno := Lib.hid hno
          have hbE := hb.to' hb3
          unfold maxLen at hmax
          clear hcall hown3 hr hp hso hno hyl
          by_cases hMn : M ≤ no
          · have e1 : min (M : Int) (no : Int) = (M : Int) := by omega
            have e2 : ys.take M = ((allChoices m).filter p).take M := by rw [HYs.out]
            have HQ := Lib.hid (HR.out M (by rw [← Hno.out]; exact hMn))
            have E2 := Lib.hid e2
            clear e2 HR
            go_wp2_with fail
            go_ret2
            exact ⟨_, rfl, RowsCode_of (HH.out.trans (by rw [← E2.out])) HQ.out, hbE⟩
          · have e1 : min (M : Int) (no : Int) = (no : Int) := by omega
            have e2 : ys.take no = ((allChoices m).filter p).take M := by
              rw [← HYs.out, List.take_of_length_le (by rw [Hno.out]; exact Nat.le_refl _), List.take_of_length_le (by rw [← Hno.out]; omega)]
            have HQ := Lib.hid (HR.out no (by rw [← Hno.out]; exact Nat.le_refl _))
            have E2 := Lib.hid e2
            clear e2 HR
            go_wp2_with fail
            go_ret2
            exact ⟨_, rfl, RowsCode_of (HH.out.trans (by rw [← E2.out])) HQ.out, hbE⟩
end Go.Proofs.Ytaogpbhgoeepbaa
