/- Proved: for every plan of rooms, laws.FnExactIsRooms returns true and changes nothing that was there; no condition. -/
import Derived.Test.YthipagefapkpdaaRows
import Derived.Deep.RegionHeld3
import Derived.Test.YthipagefapkpdaaUOpen
import Derived.Test.YthipagefapkpdaaULawRooms
namespace Go.Proofs.Ythipagefapkpdaa
open Go.ChangeShapes Go.WideShapes Go.ChangeAt Go.RowKit
set_option linter.unusedVariables false
namespace fnExactIsRooms

set_option maxHeartbeats 1000000 in
theorem walk (w : World) (c : Int) (hc : I64 c) (v : Value) (ds : List (List Int)) (h : RowsR (.old w) w v ds) :
    Calls Try.prog 5 #[.agg #[.int .i64 c, v]] w (Ret w fun r _ => r = .bool true) := by
  obtain ⟨a, n, cap, rfl, -⟩ := SliceR.shape h
  have hR : RoomsR (.old w) w (.agg #[.int .i64 c, .slice a n cap]) (c, ds) := ⟨_, rfl, hc, h⟩
  go_enter Try.func5, Try.ntmps5
  go_wp2_with fail
  generalize hw0 : World.alloc _ _ = w0
  have b0 : Below w.heap.size w w0 := by rw [← hw0]; exact (Below.refl _ _).alloc (Nat.le_refl _) _
  have s0 : w0.heap.size = w.heap.size + 1 := by rw [← hw0]; simp
  have q0 : w0.cell? ⟨w.heap.size, 0, none⟩ = some (.int .i64 c) := by rw [← hw0]; clear hw0; go_simp
  have q1 : w0.cell? ⟨w.heap.size, 1, none⟩ = some (.slice a n cap) := by rw [← hw0]; clear hw0; go_simp
  clear hw0
  by_cases hb : bulk ds ≤ 1048576
  · have hs := szRooms_c w0 _ _ (c, ds) 1048576 (stable_Rooms.below hR b0) (by omega) (by omega)
    rw [szLeft_pos (by simp only; omega)] at hs
    have hge : (0 : Int) ≤ 1048576 - (bulk (c, ds).2 : Int) := by simp only; omega
    generalize (1048576 : Int) - (bulk (c, ds).2 : Int) = l at *
    refine Calls.mono hs ?_
    rintro e w1 ⟨r, rfl, rfl, b1⟩
    clear hs
    replace q0 := (b1.cell (p := ⟨w.heap.size, 0, none⟩) (by simp; omega)).trans q0
    replace q1 := (b1.cell (p := ⟨w.heap.size, 1, none⟩) (by simp; omega)).trans q1
    have b1' := b0.trans (b1.mono b0.size)
    go_wp2_with fail
    refine Calls.mono (toRooms_c w1 _ _ (c, ds) (stable_Rooms.below hR b1') hb) ?_
    rintro e w2 ⟨u2, rfl, r2, b2⟩
    have b2' := b1'.trans (b2.mono b1'.size)
    replace q0 := (b2.cell (p := ⟨w.heap.size, 0, none⟩) (by have := b1.size; simp; omega)).trans q0
    replace q1 := (b2.cell (p := ⟨w.heap.size, 1, none⟩) (by have := b1.size; simp; omega)).trans q1
    go_wp2_with fail
    refine Calls.mono (IsRoomsSpec_c w2 u2 _ _ r2) ?_
    rintro e w3 ⟨r, rfl, rfl, b3⟩
    have b3' := b2'.trans (b3.mono b2'.size)
    replace q0 := (b3.cell (p := ⟨w.heap.size, 0, none⟩) (by have := b1.size; have := b2.size; simp; omega)).trans q0
    replace q1 := (b3.cell (p := ⟨w.heap.size, 1, none⟩) (by have := b1.size; have := b2.size; simp; omega)).trans q1
    go_wp2_with fail
    refine Calls.mono (toRooms_c w3 _ _ (c, ds) (stable_Rooms.below hR b3') hb) ?_
    rintro e w4 ⟨u4, rfl, r4, b4⟩
    have b4' := b3'.trans (b4.mono b3'.size)
    replace q0 := (b4.cell (p := ⟨w.heap.size, 0, none⟩) (by have := b1.size; have := b2.size; have := b3.size; simp; omega)).trans q0
    replace q1 := (b4.cell (p := ⟨w.heap.size, 1, none⟩) (by have := b1.size; have := b2.size; have := b3.size; simp; omega)).trans q1
    obtain ⟨u4', rfl, -, r4'⟩ := r4
    obtain ⟨a4, n4, k4, rfl, -⟩ := SliceR.shape r4'
    go_wp2_with fail
    generalize hw5 : World.alloc _ _ = w5
    have b5 : Below w4.heap.size w4 w5 := by rw [← hw5]; exact (Below.refl _ _).alloc (Nat.le_refl _) _
    have s5 : w5.heap.size = w4.heap.size + 1 := by rw [← hw5]; simp
    have p0 : w5.cell? ⟨w4.heap.size, 0, none⟩ = some (.int .i64 c) := by rw [← hw5]; clear hw5; go_simp
    have p1 : w5.cell? ⟨w4.heap.size, 1, none⟩ = some (.slice a4 n4 k4) := by rw [← hw5]; clear hw5; go_simp
    clear hw5
    have z4 : w.heap.size < w4.heap.size := by have := b1.size; have := b2.size; have := b3.size; have := b4.size; omega
    have b5' := b4'.trans (b5.mono b4'.size)
    replace q0 := (b5.cell (p := ⟨w.heap.size, 0, none⟩) (by simp; omega)).trans q0
    replace q1 := (b5.cell (p := ⟨w.heap.size, 1, none⟩) (by simp; omega)).trans q1
    have r5 : RoomsR (.new w3 w4) w5 (.agg #[.int .i64 c, .slice a4 n4 k4]) (c, ds) := stable_Rooms.below ⟨_, rfl, hc, r4'⟩ b5
    refine Calls.mono (IsRooms_c w5 _ _ _ r5) ?_
    rintro e w6 ⟨r, rfl, rfl, b6⟩
    have b6' := b5'.trans (b6.mono b5'.size)
    replace q0 := (b6.cell (p := ⟨w.heap.size, 0, none⟩) (by simp; omega)).trans q0
    replace q1 := (b6.cell (p := ⟨w.heap.size, 1, none⟩) (by simp; omega)).trans q1
    replace p0 := (b6.cell (p := ⟨w4.heap.size, 0, none⟩) (by simp; omega)).trans p0
    replace p1 := (b6.cell (p := ⟨w4.heap.size, 1, none⟩) (by simp; omega)).trans p1
    replace r5 := stable_Rooms.below r5 b6
    have hR6 := stable_Rooms.below hR b6'
    have z6 : w4.heap.size < w6.heap.size := by have := b6.size; omega
    have HR := Lib.hid hR6
    have HR5 := Lib.hid r5
    clear hR hR6 r5 h r2 r4' b0 b1 b2 b3 b4 b5 b6 b1' b2' b3' b4' b5' s0 s5
    go_wp2_with fail
    have HK : Hid (∀ w', Below w6.heap.size w6 w' → w'.cell? ⟨w.heap.size, 0, none⟩ = some (.int .i64 c) ∧ w'.cell? ⟨w.heap.size, 1, none⟩ = some (.slice a n cap) ∧ w'.cell? ⟨w4.heap.size, 0, none⟩ = some (.int .i64 c) ∧ w'.cell? ⟨w4.heap.size, 1, none⟩ = some (.slice a4 n4 k4)) := fun w' hb => ⟨(hb.cell (by simp; omega)).trans q0, (hb.cell (by simp; omega)).trans q1, (hb.cell (by simp; omega)).trans p0, (hb.cell (by simp; omega)).trans p1⟩
    go_region_held3 (fun w' => w'.cell? ⟨w.heap.size, 0, none⟩ = some (.int .i64 c) ∧ w'.cell? ⟨w.heap.size, 1, none⟩ = some (.slice a n cap) ∧ w'.cell? ⟨w4.heap.size, 0, none⟩ = some (.int .i64 c) ∧ w'.cell? ⟨w4.heap.size, 1, none⟩ = some (.slice a4 n4 k4)) (first | exact HK.out _ (Below.refl _ _).drew | exact HK.out _ ((Below.refl _ _).drew.trans b7) | exact HK.out _ (((Below.refl _ _).drew.trans b7).trans (b8.mono b7.size)))
      (first | (go_at_call 18; refine (toRooms_c _ _ _ (c, ds) (stable_Rooms.below HR.out ((Below.refl _ _).drew)) hb).mono ?_; rintro e w7 ⟨u7, rfl, r7, b7⟩) | (go_at_call 20; refine (eqRooms_c _ _ _ _ _ (c, ds) (c, ds) (stable_Rooms.below HR5.out ((Below.refl _ _).drew.trans b7)) r7).mono ?_; rintro e w8 ⟨u8, rfl, rfl, b8⟩))
    go_wp2_with fail
    go_ret
    exact ⟨_, rfl, rfl, b6'.trans ((((Below.refl _ _).drew.trans b7).trans (b8.mono b7.size)).mono b6'.size)⟩
  · have hs := szRooms_c w0 _ _ (c, ds) 1048576 (stable_Rooms.below hR b0) (by omega) (by omega)
    rw [szLeft_neg (by simp only; omega)] at hs
    refine Calls.mono hs ?_
    rintro e w1 ⟨r, rfl, rfl, b1⟩
    clear hs
    go_wp2_with fail
    go_ret
    exact ⟨_, rfl, rfl, b0.trans (b1.mono b0.size)⟩


/-! ### the row -/
theorem own : ownKnob Try.prog.godebug = none := by kernel_rfl
theorem laidOut : laidOutB Try.prog = true := by kernel_rfl
set_option maxRecDepth 100000 in
theorem lifted (os : Os) (started : os.Started) (H : Type) (enc : TypeId × Value → H) :
    ReturnsInHanded {} Try.checked os 5 .any (Rows.fnExactIsRoomsSpec.pre6 enc Try.prog Try.f5 Rows.fnExactIsRoomsRow.domain false) (Rows.fnExactIsRoomsSpec.post enc Try.prog Try.f5 false true false false) := by
  refine returnsInHanded_of_change (C := Try.checked) own started (by kernel_rfl) Try.func5
    (ChangeSpec.witness6 (enc := enc) (C := Try.checked) false ⟨#[], #[.agg #[.int .i64 0, .slice none 0 0]], []⟩ 8 (by kernel_rfl) (by kernel_rfl) (by kernel_rfl) (by kernel_rfl)) ?_
  intro W base args ds gs before hval0 hW hcnd _
  have hval : ∀ (j : Nat) t v, Try.f5.params[j]? = some t → args[j]? = some v → Value.okWide Try.prog W .any base t v := hval0
  have hW' := hW
  obtain ⟨p, q, hA0, hV, rfl, hfz, hnd⟩ := hW
  have hA : DataW.TrodAll enc Try.prog W 0 (fun _ => true) true Try.f5.params.toList args.toList ds p := hA0
  rw [Try.params5] at hA hval
  obtain ⟨v0, vs0, d0, ds0, p0, q0, hargs, rfl, rfl, h0, r0⟩ := trodAll_cons hA
  obtain ⟨rfl, rfl, rfl⟩ := trodAll_nil r0
  obtain rfl : args = #[v0] := by cases args; simp_all
  obtain ⟨rfl, rfl⟩ := trodVars_none hV
  have k0 := h0
  have lt0 : ∀ x ∈ p0, x.block < W.heap.size := by obtain ⟨m, hm⟩ := k0; exact DataW.trod_lt m _ _ _ hm
  obtain ⟨c0, u0, y0, z0, m0, rfl, -, -, hc0, hu0⟩ := Joins.open_agg2 Try.underlying31 (by kernel_rfl) (by kernel_rfl) (hval 0 31 v0 rfl rfl) h0
  obtain ⟨a0, rfl, w0⟩ := open_I64 Try.underlying2 hc0
  obtain ⟨x0, b0⟩ := open_RowsR Try.underlying25 Try.underlying39 Try.underlying2 (by kernel_rfl) (by kernel_rfl) hu0
  clear hA0 hval0
  refine (walk W a0 w0 _ x0 b0).mono fun e W' hret => ?_
  obtain ⟨r, rfl, rfl, bel⟩ := hret
  exact ⟨_, rfl, _, _, _, [], _, [], hW', trodAll_mk1 (shut_bool Try.underlying4 _), (trodAll_cons_mk (Below.trod laidOut (by kernel_rfl) (of_decide_eq_true (by kernel_rfl)) k0 bel lt0) trodAll_mk0), rfl, bel.frame _, fun h => by cases h⟩

theorem over : Rows.fnExactIsRoomsRow.holds Try.pinned (OpenSpec.ofChange Rows.fnExactIsRoomsSpec) :=
  OpenClaim.holds_of_wide 5 Try.f5 rfl rfl rfl rfl rfl rfl rfl ⟨rfl, rfl, rfl, rfl, rfl⟩ rfl rfl rfl rfl rfl (by kernel_rfl) Try.func5 (by kernel_rfl)
    (of_decide_eq_true (by kernel_rfl)) (by unfold Func.isWrapper; first | (rw [if_pos (by decide +kernel)]; kernel_rfl) | (rw [if_neg (by decide +kernel)]; exact ⟨rfl, rfl⟩))
    (fun os started H enc _ => lifted os started H enc)

theorem proved : Rows.FnExactIsRoomsSaid := over

end fnExactIsRooms
end Go.Proofs.Ythipagefapkpdaa
