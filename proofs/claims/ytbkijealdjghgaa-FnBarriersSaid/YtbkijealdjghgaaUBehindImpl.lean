/- Proved: RoomsBehind, as the program computes it. -/
import Derived.Test.YtbkijealdjghgaaChecked
import Derived.Deep.RegionHeld3
import Derived.Deep.DeepCutAuto
import Derived.Test.YtbkijealdjghgaaUBehindLaw
namespace Go.Proofs.Ytbkijealdjghgaa
open Go.ChangeShapes Go.WideShapes Go.ChangeAt Go.RowKit
set_option linter.unusedVariables false

set_option maxRecDepth 100000 in
set_option maxHeartbeats 4000000 in
theorem RoomsBehind_c (w : World) (v : Value) (z : Zone) (x : Int × List (List Int)) (f d : Int) (hf : I64 f) (hd : I64 d) (h : RoomsR z w v x) :
    Calls Try.prog 7 #[v, .int .i64 f, .int .i64 d] w (Ret w fun r w' => IntsCode w (roomsBehind x f d) r w') := by
  have hC := fun (wq : World) (hb : Ext w wq) (vd vr : Value) (y q : Zone) (hy : IntsR y wq vd [d]) (hq : IntsR q wq vr [f]) => roomsCode_c wq v vd vr z y q x [d] [f] (stable_Rooms.ext h hb) hy hq
  have hO0 := fun (h12 : x.2.length ≤ 12) (wq : World) (hb : Ext w wq) => otherDoors_c wq v (.slice none 0 0) z z x [] (stable_Rooms.ext h hb) (SliceR.nil _ _ _) h12
  have hO1 := fun (h12 : x.2.length ≤ 12) (wq : World) (hb : Ext w wq) (vo : Value) (q : Zone) (ho : IntsR q wq vo [d]) => otherDoors_c wq v vo z q x [d] (stable_Rooms.ext h hb) ho h12
  have hR := fun (hok : roomsOk x.1 x.2 = true) (hf : 0 ≤ f) (hf' : f < x.1) (s : List Int) (wq : World) (hb : Ext w wq) (vo : Value) (q : Zone) (ho : IntsR q wq vo (otherDoors x.2.length s)) => reach_c wq v vo z q x (otherDoors x.2.length s) f (stable_Rooms.ext h hb) ho hok (otherDoors_rising _ _) hf hf'
  obtain ⟨c, ds⟩ := x
  obtain ⟨u, rfl, hc, hrr⟩ := h
  obtain ⟨a, n, cap, rfl, hn, hmn, -⟩ := SliceR.shape hrr
  simp only at hn
  by_cases hk : roomsCode c ds [d] [f] = 0
  · have HH := Lib.hid (roomsBehind_ok (x := (c, ds)) hk)
    obtain ⟨k1, -, k3⟩ := roomsCode_ok hk
    have k4 := k3 f (List.mem_singleton.2 rfl)
    have hc8 := (roomsOk_sides k1).1
    replace hO0 := hO0 (roomsOk_sides k1).2.1
    replace hO1 := hO1 (roomsOk_sides k1).2.1
    have hR0 := hR k1 k4.1 k4.2 []
    have hR1 := hR k1 k4.1 k4.2 [d]
    have hl0 : (reachL c ds f (otherDoors ds.length [])).length = c.toNat := reachL_length ..
    have hl1 : (reachL c ds f (otherDoors ds.length [d])).length = c.toNat := reachL_length ..
    have HB : Hid (∀ i : Nat, behindB c ds f d i = ((reachL c ds f (otherDoors ds.length [])).getD i false && !(reachL c ds f (otherDoors ds.length [d])).getD i false)) := fun i => by show behindB c ds f d i = _; unfold behindB; rw [Int.toNat_natCast]
    simp only at hC hO0 hO1 hR0 hR1 HH ⊢
    rw [hk] at hC
    obtain ⟨nc, hnc⟩ : ∃ nc, c.toNat = nc := ⟨_, rfl⟩
    have hnc8 : nc ≤ 8 := by omega
    rw [hnc] at hl0 hl1 HH
    generalize roomsBehind (c, ds) f d = res at *
    generalize behindB c ds f d = p at *
    generalize reachL c ds f (otherDoors ds.length []) = all at *
    generalize reachL c ds f (otherDoors ds.length [d]) = less at *
    generalize otherDoors ds.length [] = od0 at *
    generalize otherDoors ds.length [d] = od1 at *
    have HL0 := Lib.hid hl0
    have HL1 := Lib.hid hl1
    clear hk hR hrr hc k1 k3 k4 hc8 hn hnc hl0 hl1
    go_enter Try.func7, Try.ntmps7
    go_wp2_with fail
    have hbx := box2 w (.int .i64 c) (.slice a n cap) 26
    generalize hwa : World.alloc w (.cells #[.int .i64 c, .slice a n cap] 26) = wa at *
    obtain ⟨b0, q0, q1, hsz⟩ := hbx
    have HZ := Lib.hid hsz; clear hsz
    clear hwa
    refine Calls.mono (hC _ (b0.trans ((Ext.alloc _ _).trans (Ext.alloc _ _))) _ _ _ _ (stable_ints.ext (ints_one_at (w := wa) HZ.out d 2 hd) (Ext.alloc _ _)) (ints_one_at (w := wa.alloc (.cells #[.int .i64 d] 2)) (by simp [HZ.out]) f 2 hf)) ?_
    rintro e w1 hr1
    obtain ⟨r, rfl, rfl, b1⟩ := ret_ext hr1
    clear hr1
    have b2 : Ext wa w1 := (Ext.alloc _ _).trans ((Ext.alloc _ _).trans b1)
    clear b1
    replace q0 := b2.cell q0
    replace q1 := b2.cell q1
    have b1x := b0.trans b2
    clear b2 b0
    have HK : Hid (∀ w', Ext w1 w' → w'.cell? ⟨w.heap.size, 0, none⟩ = some (.int .i64 c) ∧ w'.cell? ⟨w.heap.size, 1, none⟩ = some (.slice a n cap)) := fun w' hb => ⟨hb.cell q0, hb.cell q1⟩
    have HO0 := Lib.hid hO0
    have HO1 := Lib.hid hO1
    have HR0 := Lib.hid hR0
    have HR1 := Lib.hid hR1
    clear hO0 hO1 hR0 hR1 hC
    go_upto_region 4 with fail
    go_cut [9, 10] (fun s9 s10 wx => OwnP Value.bool 4 w1.heap.size wx s9 all ∧ OwnP Value.bool 4 w1.heap.size wx s10 less ∧ Ext w1 wx)
    case first =>
      go_region_held3 (fun w' => w'.cell? ⟨w.heap.size, 0, none⟩ = some (.int .i64 c) ∧ w'.cell? ⟨w.heap.size, 1, none⟩ = some (.slice a n cap)) (exact HK.out _ (by repeat (first | exact Ext.refl _ | assumption | (refine Ext.trans ?_ (Ext.alloc _ _)) | (refine Ext.trans ?_ (Ext.drew _)) | (refine Ext.trans ?_ (by assumption)))))
        (first | (go_at_call 30; (with_reducible refine (HO0.out _ (by repeat (first | exact Ext.refl _ | assumption | (refine Ext.trans ?_ (Ext.alloc _ _)) | (refine Ext.trans ?_ (Ext.drew _)) | (refine Ext.trans ?_ (by assumption))))).mono ?_); rintro e w7 hr7; obtain ⟨u7, rfl, r7, b7⟩ := ret_ext hr7; clear hr7) | (go_at_call 30; (with_reducible refine (HO1.out _ (by repeat (first | exact Ext.refl _ | assumption | (refine Ext.trans ?_ (Ext.alloc _ _)) | (refine Ext.trans ?_ (Ext.drew _)) | (refine Ext.trans ?_ (by assumption)))) _ _ (stable_ints.ext (ints_one _ d 2 hd) (by repeat (first | exact Ext.refl _ | assumption | (refine Ext.trans ?_ (Ext.alloc _ _)) | (refine Ext.trans ?_ (Ext.drew _)) | (refine Ext.trans ?_ (by assumption)))))).mono ?_); rintro e w9 hr9; obtain ⟨u9, rfl, r9, b9⟩ := ret_ext hr9; clear hr9) | (go_at_call 29; (with_reducible refine (HR0.out _ (by repeat (first | exact Ext.refl _ | assumption | (refine Ext.trans ?_ (Ext.alloc _ _)) | (refine Ext.trans ?_ (Ext.drew _)) | (refine Ext.trans ?_ (by assumption)))) _ _ (stable_ints.ext r7 (by repeat (first | exact Ext.refl _ | assumption | (refine Ext.trans ?_ (Ext.alloc _ _)) | (refine Ext.trans ?_ (Ext.drew _)) | (refine Ext.trans ?_ (by assumption)))))).mono ?_); rintro e w8 hr8; obtain ⟨u8, rfl, r8, b8⟩ := ret_ext hr8; clear hr8) | (go_at_call 29; (with_reducible refine (HR1.out _ (by repeat (first | exact Ext.refl _ | assumption | (refine Ext.trans ?_ (Ext.alloc _ _)) | (refine Ext.trans ?_ (Ext.drew _)) | (refine Ext.trans ?_ (by assumption)))) _ _ (stable_ints.ext r9 (by repeat (first | exact Ext.refl _ | assumption | (refine Ext.trans ?_ (Ext.alloc _ _)) | (refine Ext.trans ?_ (Ext.drew _)) | (refine Ext.trans ?_ (by assumption)))))).mono ?_); rintro e w10 hr10; obtain ⟨u10, rfl, r10, b10⟩ := ret_ext hr10; clear hr10))
      all_goals (go_wp2_with fail; go_meet; exact ⟨OwnP.grow r8 (by repeat (first | exact Ext.refl _ | assumption | (refine Ext.trans ?_ (Ext.alloc _ _)) | (refine Ext.trans ?_ (Ext.drew _)) | (refine Ext.trans ?_ (by assumption)))) (by repeat (first | exact Ext.refl _ | assumption | (refine Ext.trans ?_ (Ext.alloc _ _)) | (refine Ext.trans ?_ (Ext.drew _)) | (refine Ext.trans ?_ (by assumption)))), OwnP.grow r10 (by repeat (first | exact Ext.refl _ | assumption | (refine Ext.trans ?_ (Ext.alloc _ _)) | (refine Ext.trans ?_ (Ext.drew _)) | (refine Ext.trans ?_ (by assumption)))) (by repeat (first | exact Ext.refl _ | assumption | (refine Ext.trans ?_ (Ext.alloc _ _)) | (refine Ext.trans ?_ (Ext.drew _)) | (refine Ext.trans ?_ (by assumption)))), (by repeat (first | exact Ext.refl _ | assumption | (refine Ext.trans ?_ (Ext.alloc _ _)) | (refine Ext.trans ?_ (Ext.drew _)) | (refine Ext.trans ?_ (by assumption))))⟩)
    case rest =>
      obtain ⟨hall, hless, hbx⟩ := hcut
      have hbw := b1x.trans hbx
      clear HK HO0 HO1 HR0 HR1 q0 q1
      obtain ⟨aa, na, ca, rfl, hna, -, -⟩ := hall.shape
      obtain ⟨ab, nb, cb, rfl, hnb, -, -⟩ := hless.shape
      obtain rfl : na = nc := by rw [hna]; exact HL0.out
      obtain rfl : nb = na := by rw [hnb]; exact HL1.out
      clear hna hnb
      go_wp2_with fail
      generalize hw3 : World.alloc _ _ = w3
      have b3 : Ext wc w3 := by rw [← hw3]; exact Ext.alloc _ _
      have o3 : OwnP (Value.int .i64) 2 wc.heap.size w3 (.slice (some ⟨wc.heap.size, 0, none⟩) 0 0) [] := by rw [← hw3]; exact OwnP.empty (Nat.le_refl _)
      clear hw3
      go_loopw [11, 37] (fun o s wr => ∃ k : Nat, k ≤ nb ∧ s = .int .i64 k ∧ OwnP (Value.int .i64) 2 wc.heap.size wr o (upto p k) ∧ Ext wc wr) (fun _ s _ => nb - (intOf s).toNat)
      case atStart => exact ⟨0, Nat.zero_le _, rfl, o3, b3⟩
      case round =>
        clear o3 b3
        obtain ⟨k, hk, rfl, hown, hbk⟩ := hrel
        have hbs := hbk.size
        by_cases hlt : k < nb
        · obtain ⟨ga, rfl, -, -, hc8, -⟩ := hall.elem false k hlt
          obtain ⟨gb, rfl, -, -, hc10, -⟩ := hless.elem false k hlt
          replace hc8 := hbk.cell hc8
          replace hc10 := hbk.cell hc10
          have HY := Lib.hid (upto_yes (p := p) (k := k))
          have HN := Lib.hid (upto_no (p := p) (k := k))
          have HL := Lib.hid (upto_length p k)
          have HBk : Hid (p (k : Int) = (all.getD k false && !less.getD k false)) := HB.out k
          generalize upto p k = up at *
          generalize all.getD k false = q8 at *
          generalize less.getD k false = q10 at *
          cases q8 with
          | false =>
            have HH2 := Lib.hid (HN.out (by rw [HBk.out]; rfl))
            clear HY HN HBk
            go_wp2_with fail
            go_roundw
            case rel => exact ⟨k + 1, by omega, by go_num, by rw [HH2.out]; exact hown, hbk⟩
            case measure => simp [intOf]; omega
          | true =>
            cases q10 with
            | true =>
              have HH2 := Lib.hid (HN.out (by rw [HBk.out]; rfl))
              clear HY HN HBk
              go_wp2_with fail
              go_roundw
              case rel => exact ⟨k + 1, by omega, by go_num, by rw [HH2.out]; exact hown, hbk⟩
              case measure => simp [intOf]; omega
            | false =>
              have HH2 := Lib.hid (HY.out (by rw [HBk.out]; rfl))
              clear HY HN HBk
              go_wp2_with (at_builtin; (refine wpList_append1 (f := Value.int .i64) (e := 2) (B := wc.heap.size) (xs := up) rfl _ _ 29 rfl 0 8 Try.underlying29 Try.infoI64 rfl (fun _ => rfl) rfl hown (k : Int) rfl (by have := HL.out; omega) (by omega) hbs ?_); intro v6 w6 hown6 hg6 hb6)
              go_roundw
              case rel => exact ⟨k + 1, by omega, by go_num, by rw [HH2.out]; exact hown6, Below.trans hbk hb6⟩
              case measure => simp [intOf]; omega
        · obtain rfl : k = nb := by omega
          have hm : ∀ x ∈ upto p k, I64 x := upto_i64 (by omega)
          go_wp2_with fail
          go_ret2
          exact ⟨_, rfl, IntsCode_mk HH.out (stable_ints.grow (OwnP.ints hown hm (Nat.le_refl _)) hbw (Ext.refl _)), hbw.trans hbk⟩
  · have HH := Lib.hid (roomsBehind_no (x := (c, ds)) hk)
    have hb : (roomsCode c ds [d] [f] != 0) = true := by rw [bne_iff_ne]; exact hk
    simp only at hC HH ⊢
    generalize roomsBehind (c, ds) f d = res at *
    generalize roomsCode c ds [d] [f] = k at *
    clear hk hR hO0 hO1 hrr hc hn
    go_enter Try.func7, Try.ntmps7
    go_wp2_with fail
    have hbx := box2 w (.int .i64 c) (.slice a n cap) 26
    generalize hwa : World.alloc w (.cells #[.int .i64 c, .slice a n cap] 26) = wa at *
    obtain ⟨b0, q0, q1, hsz⟩ := hbx
    have HZ := Lib.hid hsz; clear hsz
    clear hwa
    refine Calls.mono (hC _ (b0.trans ((Ext.alloc _ _).trans (Ext.alloc _ _))) _ _ _ _ (stable_ints.ext (ints_one_at (w := wa) HZ.out d 2 hd) (Ext.alloc _ _)) (ints_one_at (w := wa.alloc (.cells #[.int .i64 d] 2)) (by simp [HZ.out]) f 2 hf)) ?_
    rintro e w1 hr1
    obtain ⟨r, rfl, rfl, b1⟩ := ret_ext hr1
    clear hr1
    have b1x := b0.trans ((Ext.alloc _ _).trans ((Ext.alloc _ _).trans b1))
    clear b1
    go_wp2_with fail
    go_ret2
    exact ⟨_, rfl, IntsCode_nil HH.out, b1x⟩
end Go.Proofs.Ytbkijealdjghgaa
