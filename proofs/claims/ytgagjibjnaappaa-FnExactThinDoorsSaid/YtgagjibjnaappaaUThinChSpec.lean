/- Proved: the chambers with a thin wafer, as the reference tells them. -/
import Derived.Test.YtgagjibjnaappaaChecked
import Derived.Test.YtgagjibjnaappaaUThinCh
namespace Go.Proofs.Ytgagjibjnaappaa
open Go.ChangeShapes Go.WideShapes Go.ChangeAt Go.RowKit
set_option linter.unusedVariables false

theorem thinSet_one (set : List Int) (least : Int) : thinSet set least 1 = false := rfl

set_option maxRecDepth 20000 in
set_option maxHeartbeats 1000000 in
theorem ThinChambersSpec_c (w : World) (mk : MK) (v : Value) (z : Zone) (l : List (List Int)) (h : RowsR z w v l) (hok : LockOk mk l) (least : Int) :
    Calls Try.prog 84 #[mk.v, .agg #[v], .int .i64 least] w (Ret w (IntsCode w (thinOf mk l least))) := by
  have H1 : Hid (inB least 1 mk.d = false → thinOf mk l least = ([], 2)) := fun h => by unfold thinOf; rw [if_neg (by rw [h]; decide)]
  have H2 : Hid (inB least 1 mk.d = true → thinOf mk l least = (thinList l least, 0)) := fun h => by unfold thinOf; rw [if_pos h]
  have HC1 := Lib.hid (fun (w' : World) (e : Ext w w') => l05Code_c w' mk v z l (stable_rows.ext h e) hok least)
  have HP : Hid (∀ i : Nat, thinP l least (i : Int) = thinSet (l.getD i []) least (l.getD i []).length) := fun i => rfl
  have HTS := Lib.hid (fun (i k : Nat) => thinSet_succ (l.getD i []) least k)
  have HGA : Hid (∀ i k : Nat, 0 < k → gapAt (l.getD i []) least k = decide ((l.getD i []).getD k 0 - (l.getD i []).getD (k-1) 0 < least)) := fun i k hk => by unfold gapAt; rw [decide_eq_true hk, Bool.true_and]
  have HT1 : Hid (∀ i : Nat, thinSet (l.getD i []) least 1 = false) := fun i => rfl
  have HSO : Hid (∀ i, i < l.length → SetOk mk.d (l.getD i [])) := fun i hi => hok.set hi
  have HU1 := Lib.hid (fun (k : Nat) (h : thinP l least k = true) => upto_yes h)
  have HU2 := Lib.hid (fun (k : Nat) (h : thinP l least k = false) => upto_no h)
  have HUL := Lib.hid (fun (k : Nat) => upto_length (thinP l least) k)
  have H0 : Hid (upto (thinP l least) 0 = []) := rfl
  have HE : Hid (thinList l least = upto (thinP l least) l.length) := rfl
  have hm := isMaker_iff.1 hok.maker
  have hl6 : l.length ≤ 6 := by have := hok.len; omega
  have HI64 : Hid (∀ x ∈ thinList l least, I64 x) := upto_i64 (by omega)
  generalize thinOf mk l least = res at *
  generalize thinList l least = tl at *
  generalize upto (thinP l least) = uT at *
  generalize thinP l least = p at *
  obtain ⟨a, n, cap, rfl, hn, hmaxn, -⟩ := SliceR.shape h
  have HT := Lib.hid (fun (k : Nat) (hk : k < n) => rows_at h hk)
  rw [← hn] at hl6
  have Hn : Hid (n = l.length) := hn
  clear hn h hok hm
  unfold MK.v at *
  go_enter Try.func84, Try.ntmps84
  go_wp2_with fail
  generalize hwb : World.alloc _ _ = wb
  have eb : Ext w wb := by rw [← hwb]; exact (Ext.alloc _ _).trans (Ext.alloc _ _)
  have d0 : wb.cell? ⟨w.heap.size + 1, 0, none⟩ = some (.slice a n cap) := by rw [← hwb]; clear hwb; go_simp
  have hbs : wb.heap.size = w.heap.size + 2 := by rw [← hwb]; simp
  have Hbs := Lib.hid hbs
  clear hwb hbs
  refine Calls.mono (HC1.out wb eb) ?_
  rintro e w1 hr
  obtain ⟨r, rfl, rfl, e1⟩ := ret_ext hr
  clear hr
  have et := eb.trans e1
  replace d0 := e1.cell d0
  cases hq : inB least 1 mk.d with
  | false =>
    have HH := Lib.hid (H1.out hq)
    have hf : (if (false : Bool) = true then (0 : Int) else 2) = 2 := rfl
    rw [hf]
    clear hq hf
    go_wp2_with fail
    go_ret2
    exact ⟨_, rfl, IntsCode_nil HH.out, et⟩
  | true =>
    have HH := Lib.hid (H2.out hq)
    have hf : (if (true : Bool) = true then (0 : Int) else 2) = 0 := rfl
    have hli := inB_iff.1 hq
    rw [hf]
    clear hq hf
    go_wp2_with fail
    generalize hwx : World.alloc _ _ = wx
    obtain ⟨ex, ox⟩ : Ext w1 wx ∧ OwnP (Value.int .i64) 2 w1.heap.size wx (.slice (some ⟨w1.heap.size, 0, none⟩) 0 0) [] := by
      subst hwx
      exact ⟨Ext.alloc _ _, OwnP.empty (Nat.le_refl _)⟩
    clear hwx
    have D0 := Lib.hid d0
    clear d0
    go_loopw [9, 10, 11, 12] (fun s9 s10 _ _ wr => ∃ k : Nat, k ≤ n ∧ s10 = .int .i64 k ∧ OwnP (Value.int .i64) 2 w1.heap.size wr s9 (uT k) ∧ Ext w1 wr) (fun _ s10 _ _ _ => n - (intOf s10).toNat)
    case atStart => exact ⟨0, Nat.zero_le _, rfl, by rw [H0.out]; exact ox, ex⟩
    case round =>
      obtain ⟨k, hk, rfl, own, ew⟩ := hrel
      have eW := et.trans ew
      have hsz := ew.size
      have d0 := Ext.cell ew D0.out
      by_cases hlt : k < n
      · obtain ⟨b, off, rfl, a1, n1, k1, hn1, hm1, -, hc, -, hel⟩ := HT.out k hlt
        have hkl : k < l.length := by rw [← Hn.out]; exact hlt
        have so := HSO.out k hkl
        have hne := so.ne
        have hl8 := so.len
        have hd8 := so.d8
        have HCut : Hid (∀ i, i < (l.getD k []).length → 0 ≤ (l.getD k []).getD i 0 ∧ (l.getD k []).getD i 0 < mk.d) := fun i hi => so.cut hi
        have HPk := Lib.hid (HP.out k)
        have HTk := Lib.hid (HTS.out k)
        have HGk := Lib.hid (HGA.out k)
        have HT1k := Lib.hid (HT1.out k)
        have HU1k := Lib.hid (HU1.out k)
        have HU2k := Lib.hid (HU2.out k)
        have hul := HUL.out k
        rw [← hn1] at hne hl8
        have Hn1 := Lib.hid hn1
        have Hc := Lib.hid hc
        have Hel := Lib.hid hel
        generalize l.getD k [] = set at *
        generalize hup : uT k = up at *
        clear hup so hn1 hc hel
        go_wp2_with fail
        obtain ⟨wo, rfl⟩ : ∃ wo, wo = wr := ⟨_, rfl⟩
        have D0' := Lib.hid d0
        clear d0
        go_loopw [11, 12] (fun s11 s12 wr => ∃ j : Nat, 1 ≤ j ∧ j ≤ n1 ∧ s12 = .int .i64 j ∧ s11 = .bool (thinSet set least j) ∧ Drew wo wr) (fun _ s12 _ => n1 - (intOf s12).toNat)
        case atStart => exact ⟨1, Nat.le_refl _, hne, rfl, by rw [HT1k.out], Drew.refl _⟩
        case round =>
          obtain ⟨j, hj1, hj, rfl, rfl, hd⟩ := hrel
          have eWr := eW.trans (Ext.ofDrew hd)
          have d0 := (hd.cell _).trans D0'.out
          have hc := Hc.out wr eWr
          by_cases hltj : j < n1
          · obtain ⟨b1, o1, rfl, -, hcj⟩ := Hel.out j hltj
            obtain ⟨_, _, he, -, hcp⟩ := Hel.out (j-1) (by omega)
            injection he with he; injection he with he1 he2 _
            subst he1; subst he2
            replace hcj := hcj wr eWr
            replace hcp := hcp wr eWr
            have q1 := HCut.out j (by rw [← Hn1.out]; exact hltj)
            have q2 := HCut.out (j-1) (by rw [← Hn1.out]; omega)
            have HTj := Lib.hid (HTk.out j)
            have HGj := Lib.hid (HGk.out j (by omega))
            have hwj : IntKind.i64.wrap ((j : Int) - 1) = ((j - 1 : Nat) : Int) := by rw [IntWalk.i64_in _ (by omega)]; omega
            have hj1n : j - 1 < n1 := by omega
            have hkn : k < n := hlt
            generalize set.getD j 0 = x at *
            generalize set.getD (j-1) 0 = y at *
            have hwxy : IntKind.i64.wrap (x - y) = x - y := IntWalk.i64_in _ (by omega)
            generalize thinSet set least j = q at *
            cases q with
            | true =>
              have HV : Hid (thinSet set least (j+1) = true) := by show _ = _; rw [HTj.out]; rfl
              go_wp2_with fail
              go_quiet (fail)
              go_wp2_with fail
              go_roundw
              case rel => exact ⟨j+1, by omega, by omega, by go_num, by rw [HV.out], hd.drewN _⟩
              case measure => simp [intOf]; omega
            | false =>
              by_cases hxy : x - y < least
              · have HV : Hid (thinSet set least (j+1) = true) := by show _ = _; rw [HTj.out, HGj.out, decide_eq_true hxy]; rfl
                go_wp2_with fail
                go_quiet (fail)
                go_wp2_with fail
                go_roundw
                case rel => exact ⟨j+1, by omega, by omega, by go_num, by rw [HV.out] <;> simp [hxy], hd.drewN _⟩
                case measure => simp [intOf]; omega
              · have HV : Hid (thinSet set least (j+1) = false) := by show _ = _; rw [HTj.out, HGj.out, decide_eq_false hxy]; rfl
                go_wp2_with fail
                go_quiet (fail)
                go_wp2_with fail
                go_roundw
                case rel => exact ⟨j+1, by omega, by omega, by go_num, by rw [HV.out] <;> simp [hxy], hd.drewN _⟩
                case measure => simp [intOf]; omega
          · have HQ : Hid (p (k : Int) = thinSet set least j) := by show _ = _; rw [HPk.out, ← Hn1.out]; congr 1; omega
            generalize thinSet set least j = q at *
            have own3 := own.ext (Ext.ofDrew hd)
            have hdr : w1.heap.size ≤ wr.heap.size := by have := hd.size; omega
            have ew3 := ew.trans (Ext.ofDrew hd)
            have hnl : ¬ (j < n1) := hltj
            cases q with
            | true =>
              have HV := Lib.hid (HU1k.out HQ.out)
              go_wp2_with (at_builtin; (refine wpList_append1 (f := Value.int .i64) (e := 2) (B := w1.heap.size) (xs := up) rfl _ _ 27 rfl 0 8 Try.underlying27 Try.infoI64 rfl (fun _ => rfl) rfl own3 (k : Int) rfl (by omega) (by omega) (by omega) ?_); intro v8 w8 hown8 hg8 hb8)
              go_roundw
              case rel => exact ⟨k+1, by omega, by go_num, by rw [HV.out]; exact hown8, Ext.to' ew3 hb8⟩
              case measure => simp [intOf]; omega
            | false =>
              have HV := Lib.hid (HU2k.out HQ.out)
              go_wp2_with fail
              go_roundw
              case rel => exact ⟨k+1, by omega, by go_num, by rw [HV.out]; exact own3, ew3⟩
              case measure => simp [intOf]; omega
      · have hkn : k = l.length := by have := Hn.out; omega
        have HR : Hid (res = (uT k, 0)) := by show _ = _; rw [HH.out, hkn, HE.out]
        have HI : Hid (∀ x ∈ uT k, I64 x) := by show ∀ x ∈ _, _; rw [hkn, ← HE.out]; exact HI64.out
        obtain ⟨oa, on, oc, rfl, -⟩ := own.shape
        go_wp2_with fail
        go_ret2
        exact ⟨_, rfl, IntsCode_own HR.out (own.lower et.size) HI.out, eW⟩
end Go.Proofs.Ytgagjibjnaappaa
