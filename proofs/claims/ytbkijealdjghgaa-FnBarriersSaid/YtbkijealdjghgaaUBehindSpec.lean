/- Proved: RoomsBehind, as the reference computes it. -/
import Derived.Test.YtbkijealdjghgaaChecked
import Derived.Deep.RegionHeld3
import Derived.Deep.DeepCutAuto
import Derived.Test.YtbkijealdjghgaaUBehindLaw
namespace Go.Proofs.Ytbkijealdjghgaa
open Go.ChangeShapes Go.WideShapes Go.ChangeAt Go.RowKit
set_option linter.unusedVariables false

set_option maxRecDepth 100000 in
set_option maxHeartbeats 4000000 in
theorem RoomsBehindSpec_c (w : World) (v : Value) (z : Zone) (x : Int × List (List Int)) (f d : Int) (hd : I64 d) (h : RoomsR z w v x) :
    Calls Try.prog 8 #[v, .int .i64 f, .int .i64 d] w (Ret w fun r w' => IntsCode w (roomsBehind x f d) r w') := by
  have hC := fun (wq : World) (hb : Ext w wq) => l25Code_c wq v (.slice none 0 0) z z x f [] (stable_Rooms.ext h hb) (SliceR.nil _ _ _)
  have hO0 := fun (h12 : x.2.length ≤ 12) (wq : World) (hb : Ext w wq) => l25But_c wq v (.slice none 0 0) z z x [] (stable_Rooms.ext h hb) (SliceR.nil _ _ _) h12
  have hO1 := fun (h12 : x.2.length ≤ 12) (wq : World) (hb : Ext w wq) (vo : Value) (q : Zone) (ho : IntsR q wq vo [d]) => l25But_c wq v vo z q x [d] (stable_Rooms.ext h hb) ho h12
  have hR := fun (hok : roomsOk x.1 x.2 = true) (hf : 0 ≤ f) (hf' : f < x.1) (s : List Int) (wq : World) (hb : Ext w wq) (vo : Value) (q : Zone) (ho : IntsR q wq vo (otherDoors x.2.length s)) => l25Reach_c wq v vo z q x (otherDoors x.2.length s) f (stable_Rooms.ext h hb) ho hok (otherDoors_rising _ _) hf hf'
  obtain ⟨c, ds⟩ := x
  obtain ⟨u, rfl, hc, hrr⟩ := h
  obtain ⟨a, n, cap, rfl, hn, hmn, -⟩ := SliceR.shape hrr
  simp only at hn
  by_cases hk : roomsCode c ds [] [f] = 0
  · have hB := fun (wq : World) => l01In_c wq d 0 ((n : Int) - 1)
    have hn12 : n ≤ 12 := by have := (roomsOk_sides (roomsCode_ok hk).1).2.1; omega
    cases hq : inB d 0 ((ds.length : Int) - 1) with
    | false =>
      have hcode : roomsCode c ds [d] [f] = 2 := by rw [roomsCode_door, if_pos hk, hq]; rfl
      have HH := Lib.hid (roomsBehind_no (x := (c, ds)) (f := f) (d := d) (by simp only; rw [hcode]; decide))
      simp only at hC HH ⊢
      rw [hcode] at HH
      rw [hk] at hC
      rw [← hn] at hq
      rw [hq] at hB
      generalize roomsBehind (c, ds) f d = res at *
      clear hk hR hO0 hO1 hrr hc hcode hq hn
      go_enter Try.func8, Try.ntmps8
      go_wp2_with fail
      generalize hw0 : World.alloc w _ = w0
      have b0 : Below w.heap.size w w0 := by rw [← hw0]; exact (Below.refl _ _).alloc (Nat.le_refl _) _
      have q1 : w0.cell? ⟨w.heap.size, 1, none⟩ = some (.slice a n cap) := by rw [← hw0]; simp
      have hsz : w.heap.size < w0.heap.size := by rw [← hw0]; simp
      clear hw0
      refine Calls.mono (hC _ b0) ?_
      rintro e w1 ⟨r, rfl, rfl, b1⟩
      replace q1 := (b1.cell (p := ⟨w.heap.size, 1, none⟩) hsz).trans q1
      have b1' := b0.trans (b1.mono b0.size)
      go_wp2_with fail
      refine Calls.mono (hB _) ?_
      rintro e w2 ⟨rfl, d2⟩
      go_wp2_with fail
      go_ret2
      exact ⟨_, rfl, IntsCode_nil HH.out, b1'.trans (d2.below _)⟩
    | true =>
      have hcode : roomsCode c ds [d] [f] = 0 := by rw [roomsCode_door, if_pos hk, hq]; rfl
      have HH := Lib.hid (roomsBehind_ok (x := (c, ds)) (f := f) (d := d) hcode)
      have HE := Lib.hid (behind_eq (c := c) (ds := ds) (f := f) (d := d))
      obtain ⟨k1, -, k3⟩ := roomsCode_ok hk
      have k4 := k3 f (List.mem_singleton.2 rfl)
      have hc8 := (roomsOk_sides k1).1
      replace hO0 := hO0 (roomsOk_sides k1).2.1
      replace hO1 := hO1 (roomsOk_sides k1).2.1
      have hR0 := hR k1 k4.1 k4.2 []
      have hR1 := hR k1 k4.1 k4.2 [d]
      have hA8 : (reachInts c ds f (otherDoors ds.length [])).length ≤ 8 := by
        have := upto_length (fun i => (reachL c ds f (otherDoors ds.length [])).getD i.toNat false) c.toNat
        unfold reachInts; omega
      simp only at hC hO0 hO1 hR0 hR1 HH HE ⊢
      rw [hk] at hC
      rw [← hn] at hq
      rw [hq] at hB
      generalize roomsBehind (c, ds) f d = res at *
      generalize upto (behindB c ds f d) c.toNat = out at *
      generalize reachInts c ds f (otherDoors ds.length []) = all at *
      generalize reachInts c ds f (otherDoors ds.length [d]) = less at *
      generalize otherDoors ds.length [] = od0 at *
      generalize otherDoors ds.length [d] = od1 at *
      clear hk hR hrr hc hcode hq k1 k3 k4 hc8 hn
      go_enter Try.func8, Try.ntmps8
      go_wp2_with fail
      generalize hw0 : World.alloc w _ = w0
      have b0 : Below w.heap.size w w0 := by rw [← hw0]; exact (Below.refl _ _).alloc (Nat.le_refl _) _
      have q0 : w0.cell? ⟨w.heap.size, 0, none⟩ = some (.int .i64 c) := by rw [← hw0]; simp
      have q1 : w0.cell? ⟨w.heap.size, 1, none⟩ = some (.slice a n cap) := by rw [← hw0]; simp
      have hsz : w.heap.size < w0.heap.size := by rw [← hw0]; simp
      clear hw0
      refine Calls.mono (hC _ b0) ?_
      rintro e w1 ⟨r, rfl, rfl, b1⟩
      replace q0 := (b1.cell (p := ⟨w.heap.size, 0, none⟩) hsz).trans q0
      replace q1 := (b1.cell (p := ⟨w.heap.size, 1, none⟩) hsz).trans q1
      have b1' := b0.trans (b1.mono b0.size)
      have hsz1 : w.heap.size < w1.heap.size := Nat.lt_of_lt_of_le hsz b1.size
      go_wp2_with fail
      refine Calls.mono (hB _) ?_
      rintro e w2 ⟨rfl, d2⟩
      replace q0 := (d2.cell _).trans q0
      replace q1 := (d2.cell _).trans q1
      replace b1' := b1'.trans (d2.below w.heap.size)
      rw [← d2.size] at hsz1
      clear d2 b1 b0 hsz
      have b1x := Ext.of b1'
      have HK : Hid (∀ w', Ext w2 w' → w'.cell? ⟨w.heap.size, 0, none⟩ = some (.int .i64 c) ∧ w'.cell? ⟨w.heap.size, 1, none⟩ = some (.slice a n cap)) := fun w' hb => ⟨hb.cell q0, hb.cell q1⟩
      have HO0 := Lib.hid hO0
      have HO1 := Lib.hid hO1
      have HR0 := Lib.hid hR0
      have HR1 := Lib.hid hR1
      clear hO0 hO1 hR0 hR1 hC hB
      go_upto_region 6 with fail
      go_cut [9, 10] (fun s9 s10 wx => IntsR (.new w2 wx) wx s9 all ∧ IntsR (.new w2 wx) wx s10 less ∧ Ext w2 wx)
      case first =>
        go_region_held3 (fun w' => w'.cell? ⟨w.heap.size, 0, none⟩ = some (.int .i64 c) ∧ w'.cell? ⟨w.heap.size, 1, none⟩ = some (.slice a n cap)) (exact HK.out _ (by repeat (first | exact Ext.refl _ | assumption | (refine Ext.trans ?_ (Ext.alloc _ _)) | (refine Ext.trans ?_ (Ext.drew _)) | (refine Ext.trans ?_ (by assumption)))))
          (first | (go_at_call 34; (with_reducible refine (HO0.out _ (by repeat (first | exact Ext.refl _ | assumption | (refine Ext.trans ?_ (Ext.alloc _ _)) | (refine Ext.trans ?_ (Ext.drew _)) | (refine Ext.trans ?_ (by assumption))))).mono ?_); rintro e w7 hr7; obtain ⟨u7, rfl, r7, b7⟩ := ret_ext hr7; clear hr7) | (go_at_call 34; (with_reducible refine (HO1.out _ (by repeat (first | exact Ext.refl _ | assumption | (refine Ext.trans ?_ (Ext.alloc _ _)) | (refine Ext.trans ?_ (Ext.drew _)) | (refine Ext.trans ?_ (by assumption)))) _ _ (stable_ints.ext (ints_one _ d 2 hd) (by repeat (first | exact Ext.refl _ | assumption | (refine Ext.trans ?_ (Ext.alloc _ _)) | (refine Ext.trans ?_ (Ext.drew _)) | (refine Ext.trans ?_ (by assumption)))))).mono ?_); rintro e w9 hr9; obtain ⟨u9, rfl, r9, b9⟩ := ret_ext hr9; clear hr9) | (go_at_call 33; (with_reducible refine (HR0.out _ (by repeat (first | exact Ext.refl _ | assumption | (refine Ext.trans ?_ (Ext.alloc _ _)) | (refine Ext.trans ?_ (Ext.drew _)) | (refine Ext.trans ?_ (by assumption)))) _ _ (stable_ints.ext r7 (by repeat (first | exact Ext.refl _ | assumption | (refine Ext.trans ?_ (Ext.alloc _ _)) | (refine Ext.trans ?_ (Ext.drew _)) | (refine Ext.trans ?_ (by assumption)))))).mono ?_); rintro e w8 hr8; obtain ⟨u8, rfl, r8, b8⟩ := ret_ext hr8; clear hr8) | (go_at_call 33; (with_reducible refine (HR1.out _ (by repeat (first | exact Ext.refl _ | assumption | (refine Ext.trans ?_ (Ext.alloc _ _)) | (refine Ext.trans ?_ (Ext.drew _)) | (refine Ext.trans ?_ (by assumption)))) _ _ (stable_ints.ext r9 (by repeat (first | exact Ext.refl _ | assumption | (refine Ext.trans ?_ (Ext.alloc _ _)) | (refine Ext.trans ?_ (Ext.drew _)) | (refine Ext.trans ?_ (by assumption)))))).mono ?_); rintro e w10 hr10; obtain ⟨u10, rfl, r10, b10⟩ := ret_ext hr10; clear hr10))
        all_goals (go_wp2_with fail; go_meet; exact ⟨stable_ints.grow r8 (by repeat (first | exact Ext.refl _ | assumption | (refine Ext.trans ?_ (Ext.alloc _ _)) | (refine Ext.trans ?_ (Ext.drew _)) | (refine Ext.trans ?_ (by assumption)))) (by repeat (first | exact Ext.refl _ | assumption | (refine Ext.trans ?_ (Ext.alloc _ _)) | (refine Ext.trans ?_ (Ext.drew _)) | (refine Ext.trans ?_ (by assumption)))), stable_ints.grow r10 (by repeat (first | exact Ext.refl _ | assumption | (refine Ext.trans ?_ (Ext.alloc _ _)) | (refine Ext.trans ?_ (Ext.drew _)) | (refine Ext.trans ?_ (by assumption)))) (by repeat (first | exact Ext.refl _ | assumption | (refine Ext.trans ?_ (Ext.alloc _ _)) | (refine Ext.trans ?_ (Ext.drew _)) | (refine Ext.trans ?_ (by assumption)))), (by repeat (first | exact Ext.refl _ | assumption | (refine Ext.trans ?_ (Ext.alloc _ _)) | (refine Ext.trans ?_ (Ext.drew _)) | (refine Ext.trans ?_ (by assumption))))⟩)
      case rest =>
        obtain ⟨hall, hless, hbx⟩ := hcut
        have hbw := b1x.trans hbx
        have Hout : Hid (keptUpto (fun i => !has less i) all all.length = out) := Lib.hid (keptUpto_all.trans HE.out)
        clear HK HO0 HO1 HR0 HR1 HE q0 q1 b1'
        obtain ⟨aa, na, ca, rfl, hna, -, -, -, -, hael⟩ := IntsR.shape hall
        have Hna := Lib.hid hna; clear hna
        have Hael := Lib.hid hael; clear hael
        have hmem := Lib.hid (IntsR.mem hall); clear hall
        have hna8 : na ≤ 8 := by rw [Hna.out]; exact hA8
        clear hA8
        go_wp2_with fail
        generalize hw3 : World.alloc _ _ = w3
        have b3 : Ext wc w3 := by rw [← hw3]; exact Ext.alloc _ _
        have o3 : OwnP (Value.int .i64) 2 wc.heap.size w3 (.slice (some ⟨wc.heap.size, 0, none⟩) 0 0) [] := by rw [← hw3]; exact OwnP.empty (Nat.le_refl _)
        clear hw3
        go_loopw [11, 12] (fun o s wr => ∃ k : Nat, k ≤ na ∧ s = .int .i64 k ∧ OwnP (Value.int .i64) 2 wc.heap.size wr o (keptUpto (fun i => !has less i) all k) ∧ Ext wc wr) (fun _ s _ => na - (intOf s).toNat)
        case atStart => exact ⟨0, Nat.zero_le _, rfl, o3, b3⟩
        case round =>
          clear o3 b3
          obtain ⟨k, hk, rfl, hown, hbk⟩ := hrel
          have hbs := hbk.size
          by_cases hlt : k < na
          · have l1 : k < all.length := by rw [← Hna.out]; exact hlt
            obtain ⟨bb, oo, rfl, hcc, hy, -⟩ := Hael.out k hlt
            replace hcc := hbk.cell hcc
            have ek : all.getD k 0 = all[k] := by simp [l1]
            rw [ek] at hcc hy
            have HY := Lib.hid (keptUpto_yes (q := fun i => !has less i) l1)
            have HN := Lib.hid (keptUpto_no (q := fun i => !has less i) l1)
            have HL := Lib.hid (keptUpto_length (fun i => !has less i) all k)
            have hcall := Has_c wr u10 _ less all[k] (stable_ints.ext hless hbk) hy
            generalize keptUpto (fun i => !has less i) all k = up at *
            generalize has less all[k] = q at *
            generalize all[k] = yk at *
            go_wp2_with fail
            refine Calls.mono hcall ?_
            rintro e w5 ⟨rfl, hd5⟩
            clear hcall
            have hown5 := hown.below (hd5.below _)
            have hb5 := hbk.trans (Ext.ofDrew hd5)
            have hcc5 := (hd5.cell _).trans hcc
            have hz5 := hb5.size
            cases q with
            | false =>
              go_wp2_with (at_builtin; (refine wpList_append1 (f := Value.int .i64) (e := 2) (B := wc.heap.size) (xs := up) rfl _ _ 29 rfl 0 8 Try.underlying29 Try.infoI64 rfl (fun _ => rfl) rfl hown5 yk rfl (by have := HL.out; omega) (by omega) hz5 ?_); intro v6 w6 hown6 hg6 hb6)
              go_roundw
              case rel => exact ⟨k + 1, by omega, by go_num, by rw [HY.out rfl]; exact hown6, Below.trans hb5 hb6⟩
              case measure => simp [intOf]; omega
            | true =>
              go_wp2_with fail
              go_roundw
              case rel => exact ⟨k + 1, by omega, by go_num, by rw [HN.out rfl]; exact hown5, hb5⟩
              case measure => simp [intOf]; omega
          · obtain rfl : k = na := by omega
            have hm : ∀ x ∈ keptUpto (fun i => !has less i) all k, I64 x := fun x hx => hmem.out x (keptUpto_mem hx)
            rw [Hna.out, Hout.out] at hown hm
            clear Hout hmem Hael
            go_wp2_with fail
            go_ret2
            exact ⟨_, rfl, IntsCode_mk HH.out (stable_ints.grow (OwnP.ints hown hm (Nat.le_refl _)) hbw (Ext.refl _)), hbw.trans hbk⟩
  · have hcode : roomsCode c ds [d] [f] = roomsCode c ds [] [f] := by rw [roomsCode_door, if_neg hk]
    have HH := Lib.hid (roomsBehind_no (x := (c, ds)) (f := f) (d := d) (by simp only; rw [hcode]; exact hk))
    have hb : (roomsCode c ds [] [f] != 0) = true := by rw [bne_iff_ne]; exact hk
    have hb2 : (roomsCode c ds [] [f] == 0) = false := by rw [beq_eq_false_iff_ne]; exact hk
    simp only at hC HH ⊢
    rw [hcode] at HH
    generalize roomsBehind (c, ds) f d = res at *
    generalize roomsCode c ds [] [f] = k at *
    clear hk hR hO0 hO1 hcode hrr hc hn
    go_enter Try.func8, Try.ntmps8
    go_wp2_with fail
    generalize hw0 : World.alloc w _ = w0
    have hb0 : Below w.heap.size w w0 := by rw [← hw0]; exact (Below.refl _ _).alloc (Nat.le_refl _) _
    clear hw0
    refine Calls.mono (hC _ hb0) ?_
    rintro e w1 ⟨r, rfl, rfl, b1⟩
    go_wp2_with fail
    go_ret2
    exact ⟨_, rfl, IntsCode_nil HH.out, hb0.trans (b1.mono hb0.size)⟩
end Go.Proofs.Ytbkijealdjghgaa
