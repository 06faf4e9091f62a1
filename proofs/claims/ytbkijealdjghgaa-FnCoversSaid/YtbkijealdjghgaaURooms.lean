/- Proved: IsRooms: program and reference compute the same, for every plan of rooms. -/
import Derived.Test.YtbkijealdjghgaaChecked
import Derived.Deep.RegionWith
import Derived.Test.YtbkijealdjghgaaUPkA
namespace Go.Proofs.Ytbkijealdjghgaa
open Go.ChangeShapes Go.WideShapes Go.ChangeAt Go.RowKit
set_option linter.unusedVariables false

/-- a door: two rooms, the smaller one first -/
def badDoor (c : Int) (p : List Int) : Bool := decide (p.length ≠ 2) || !rising p c
def roomsOk (c : Int) (ds : List (List Int)) : Bool := !ds.any (badDoor c) && (inB c 2 8 && decide (ds.length ≤ 12))

/-- a plan of rooms by value -/
def RoomsR : Repr (Int × List (List Int)) := fun z w v x => ∃ u, v = .agg #[.int .i64 x.1, u] ∧ I64 x.1 ∧ RowsR z w u x.2
theorem stable_Rooms : Stable RoomsR := ⟨fun ⟨u, h1, h2, h3⟩ hs => ⟨u, h1, h2, stable_rows.keep h3 hs⟩, fun ⟨u, h1, h2, h3⟩ hs => ⟨u, h1, h2, stable_rows.sub h3 hs⟩⟩

theorem roomsOk_bad {c : Int} {ds : List (List Int)} (k : Nat) (hk : k < ds.length) (h : badDoor c ds[k] = true) : roomsOk c ds = false := by
  have : ds.any (badDoor c) = true := by rw [List.any_eq_true]; exact ⟨_, List.getElem_mem hk, h⟩
  unfold roomsOk; rw [this]; rfl
theorem roomsOk_good {c : Int} {ds : List (List Int)} (h : ∀ k (hk : k < ds.length), badDoor c ds[k] = false) : roomsOk c ds = (inB c 2 8 && decide (ds.length ≤ 12)) := by
  have : ds.any (badDoor c) = false := by
    rw [List.any_eq_false]; intro y hy
    obtain ⟨i, hi, rfl⟩ := List.getElem_of_mem hy
    simp [h i hi]
  unfold roomsOk; rw [this]; rfl

set_option maxHeartbeats 400000 in
theorem IsRooms_c (w : World) (v : Value) (z : Zone) (x : Int × List (List Int)) (h : RoomsR z w v x) :
    Calls Try.prog 56 #[v] w (Ret w fun r _ => r = .bool (roomsOk x.1 x.2)) := by
  obtain ⟨c, ds⟩ := x
  obtain ⟨u, rfl, hc, hr⟩ := h
  simp only at hc hr ⊢
  obtain ⟨a, len, cap, rfl, hlen, hmax, hel⟩ := SliceR.elem stable_ints hr
  have Hlen := Lib.hid hlen; clear hlen hr
  have Hel := Lib.hid hel; clear hel
  have Hc := Lib.hid hc
  obtain ⟨n1, n2⟩ := hc
  go_enter Try.func56, Try.ntmps56
  go_wp2
  generalize hw0 : w.alloc _ = w0
  have hb0 : Below w.heap.size w w0 := by rw [← hw0]; exact (Below.refl _ _).alloc (Nat.le_refl _) _
  have q0 : w0.cell? ⟨w.heap.size, 0, none⟩ = some (.int .i64 c) := by rw [← hw0]; simp
  have q1 : w0.cell? ⟨w.heap.size, 1, none⟩ = some (.slice a len cap) := by rw [← hw0]; simp
  have hsz : w.heap.size < w0.heap.size := by rw [← hw0]; simp
  have Hel0 : Hid (∀ i (hi : i < ds.length), ∃ b off, a = some ⟨b, off, none⟩ ∧ b < w0.heap.size ∧ ∃ u, w0.cell? ⟨b, off + i, none⟩ = some u ∧ IntsR ⟨z.lo, z.hi, false⟩ w0 u ds[i]) := fun i hi => by
    obtain ⟨b, off, e1, e2, u, e3, e4⟩ := Hel.out i hi
    exact ⟨b, off, e1, by omega, u, (hb0.cell e2).trans e3, stable_ints.below e4 hb0⟩
  clear hw0 Hel
  go_loopw [8] (fun t wr => ∃ k : Nat, k ≤ len ∧ t = .int .i64 k ∧ (∀ j (hj : j < ds.length), j < k → badDoor c ds[j] = false) ∧ Drew w0 wr) (fun t _ => len - (intOf t).toNat)
  case atStart => exact ⟨0, Nat.zero_le _, rfl, by simp, Drew.refl _⟩
  case round =>
    obtain ⟨k, hk, rfl, hall, hd⟩ := hrel
    have Hall := Lib.hid hall; clear hall
    have p0 := (hd.cell _).trans q0
    have p1 := (hd.cell _).trans q1
    clear q0 q1
    by_cases hlt : k < len
    · have l1 : k < ds.length := by rw [← Hlen.out]; exact hlt
      obtain ⟨b, off, rfl, -, u, hcu, hu⟩ := Hel0.out k l1
      replace hcu := (hd.cell _).trans hcu
      have Hgo : Hid (badDoor c ds[k] = false → ∀ j (hj : j < ds.length), j < k + 1 → badDoor c ds[j] = false) := fun h j hj hjk => by
        by_cases e : j = k
        · subst e; exact h
        · exact Hall.out j hj (by omega)
      have Hbad : Hid (badDoor c ds[k] = true → roomsOk c ds = false) := fun h => roomsOk_bad k l1 h
      generalize ds[k] = s at *
      have hcall := IsRising_c wr u _ s c (stable_ints.drew hu hd) Hc.out
      obtain ⟨ad, ls, cs, rfl, hls, hsm, -⟩ := IntsR.shape hu
      clear hu
      by_cases h0 : ls = 2
      · have HP : Hid (badDoor c s = !rising s c) := by show _ = _; simp [badDoor, ← hls, h0]
        subst h0
        clear hls
        generalize rising s c = q at *
        go_wp2_with fail
        refine Calls.mono hcall ?_
        rintro e w2 ⟨rfl, hd2⟩
        clear hcall
        cases q with
        | true =>
          go_wp2_with fail
          go_roundw
          case rel => exact ⟨k + 1, by omega, by go_num, Hgo.out HP.out, hd.trans hd2⟩
          case measure => simp [intOf]; omega
        | false =>
          go_wp2_with fail
          go_ret
          exact ⟨_, rfl, congrArg Value.bool (Hbad.out HP.out).symm, hb0.trans ((hd.trans hd2).below _)⟩
      · have hb1 : ((ls : Int) != 2) = true := by rw [bne_iff_ne]; omega
        have HH := Lib.hid (Hbad.out (by simp [badDoor, ← hls, h0]))
        clear hcall hls h0
        go_wp2_with fail
        go_ret
        exact ⟨_, rfl, congrArg Value.bool HH.out.symm, hb0.trans (hd.below _)⟩
    · have HG := Lib.hid (roomsOk_good (fun j hj => Hall.out j hj (by have := Hlen.out; omega)))
      have Hl := Hlen.out
      clear Hall
      have hcall := within_c wr c 2 8
      by_cases hin : inB c 2 8 = true
      · rw [hin] at hcall
        have HE : Hid (roomsOk c ds = decide ((len : Int) ≤ 12)) := by
          show _ = _; rw [HG.out, hin, ← Hl]; simp; omega
        clear hin Hl
        go_wp2_with fail
        refine Calls.mono hcall ?_
        rintro e w2 ⟨rfl, hd2⟩
        replace p1 := (hd2.cell _).trans p1
        go_wp2_with fail
        go_ret
        exact ⟨_, rfl, congrArg Value.bool HE.out.symm, hb0.trans ((hd.trans hd2).below _)⟩
      · rw [Bool.not_eq_true] at hin
        rw [hin] at hcall
        have HE : Hid (roomsOk c ds = false) := by show _ = _; rw [HG.out, hin]; rfl
        clear hin Hl
        go_wp2_with fail
        refine Calls.mono hcall ?_
        rintro e w2 ⟨rfl, hd2⟩
        go_wp2_with fail
        go_ret
        exact ⟨_, rfl, congrArg Value.bool HE.out.symm, hb0.trans ((hd.trans hd2).below _)⟩

/-! ### the reference's -/
/-- a pair as the reference looks at it, wraps and all -/
def specBad (c : Int) (p : List Int) : Bool := decide (p.length ≠ 2) || (!inB (p.getD 0 0) 0 (wrap64 (p.getD 1 0 - 1)) || !inB (p.getD 1 0) 1 (wrap64 (c - 1)))
theorem wrap_sub {x : Int} (h : I64 x) : wrap64 (x - 1) = if x = -9223372036854775808 then 9223372036854775807 else x - 1 := by
  obtain ⟨h1, h2⟩ := h
  unfold wrap64
  split <;> omega
theorem specBad_eq {c : Int} {p : List Int} (hp : ∀ x ∈ p, I64 x) (hc : 2 ≤ c ∧ c ≤ 8) : specBad c p = badDoor c p := by
  unfold specBad badDoor
  by_cases hl : p.length = 2
  · match p, hl with
    | [x, y], _ =>
      have hx := hp x (by simp)
      have hy := hp y (by simp)
      simp only [List.getD_cons_zero, List.getD_cons_succ]
      have hcw : wrap64 (c - 1) = c - 1 := by
        rw [wrap_sub (x := c) ⟨by omega, by omega⟩]
        split <;> omega
      rw [wrap_sub hy, hcw]
      have hr : rising [x, y] c = (decide (0 ≤ x ∧ x < c) && decide (0 ≤ y ∧ y < c ∧ x < y)) := by
        simp [rising, List.range_succ, risingAt]
      rw [hr]
      obtain ⟨g1, g2⟩ := hx
      obtain ⟨g3, g4⟩ := hy
      simp only [inB]
      rw [Bool.eq_iff_iff]
      by_cases e : y = -9223372036854775808
      · rw [if_pos e]; simp; omega
      · rw [if_neg e]; simp; omega
  · simp [hl]
theorem roomsOk_spec {c : Int} {ds : List (List Int)} (hds : ∀ p ∈ ds, ∀ x ∈ p, I64 x) : roomsOk c ds = (!ds.any (specBad c) && (inB c 2 8 && decide (ds.length ≤ 12))) := by
  unfold roomsOk
  by_cases hc : 2 ≤ c ∧ c ≤ 8
  · have : ds.any (badDoor c) = ds.any (specBad c) := by
      rw [Bool.eq_iff_iff, List.any_eq_true, List.any_eq_true]
      constructor
      · rintro ⟨p, hp, h⟩; exact ⟨p, hp, by rw [specBad_eq (hds p hp) hc]; exact h⟩
      · rintro ⟨p, hp, h⟩; exact ⟨p, hp, by rw [← specBad_eq (hds p hp) hc]; exact h⟩
    rw [this]
  · have : inB c 2 8 = false := by simp only [inB, Bool.and_eq_false_iff, decide_eq_false_iff_not]; omega
    rw [this]; simp

theorem specBad_len {c : Int} {p : List Int} (h : p.length ≠ 2) : specBad c p = true := by simp [specBad, h]
theorem specBad_in {c : Int} {p : List Int} (h : p.length = 2) : specBad c p = (!inB (p.getD 0 0) 0 (wrap64 (p.getD 1 0 - 1)) || !inB (p.getD 1 0) 1 (wrap64 (c - 1))) := by simp [specBad, h]

set_option maxRecDepth 20000 in
set_option maxHeartbeats 1000000 in
theorem IsRoomsSpec_c (w : World) (v : Value) (z : Zone) (x : Int × List (List Int)) (h : RoomsR z w v x) :
    Calls Try.prog 58 #[v] w (Ret w fun r _ => r = .bool (roomsOk x.1 x.2)) := by
  obtain ⟨c, ds⟩ := x
  obtain ⟨u, rfl, hc, hr⟩ := h
  simp only at hc hr ⊢
  obtain ⟨a, len, cap, rfl, hlen, hmax, hel⟩ := SliceR.elem stable_ints hr
  have Hds : Hid (roomsOk c ds = (!ds.any (specBad c) && (inB c 2 8 && decide (ds.length ≤ 12)))) := roomsOk_spec (fun p hp => by
    obtain ⟨i, hi, rfl⟩ := List.getElem_of_mem hp
    obtain ⟨_, _, _, _, _, _, hu⟩ := hel i hi
    exact IntsR.mem hu)
  have Hlen := Lib.hid hlen; clear hlen hr
  have Hel := Lib.hid hel; clear hel
  obtain ⟨n1, n2⟩ := hc
  go_enter Try.func58, Try.ntmps58
  go_wp2
  generalize hw0 : w.alloc _ = w0
  have hb0 : Below w.heap.size w w0 := by rw [← hw0]; exact (Below.refl _ _).alloc (Nat.le_refl _) _
  have q0 : w0.cell? ⟨w.heap.size, 0, none⟩ = some (.int .i64 c) := by rw [← hw0]; simp
  have q1 : w0.cell? ⟨w.heap.size, 1, none⟩ = some (.slice a len cap) := by rw [← hw0]; simp
  have hsz : w.heap.size < w0.heap.size := by rw [← hw0]; simp
  have Hel0 : Hid (∀ i (hi : i < ds.length), ∃ b off, a = some ⟨b, off, none⟩ ∧ b < w0.heap.size ∧ ∃ u, w0.cell? ⟨b, off + i, none⟩ = some u ∧ IntsR ⟨z.lo, z.hi, false⟩ w0 u ds[i]) := fun i hi => by
    obtain ⟨b, off, e1, e2, u, e3, e4⟩ := Hel.out i hi
    exact ⟨b, off, e1, by omega, u, (hb0.cell e2).trans e3, stable_ints.below e4 hb0⟩
  clear hw0 Hel
  go_loopw [3] (fun t wr => ∃ k : Nat, k ≤ len ∧ t = .int .i64 k ∧ (∀ j (hj : j < ds.length), j < k → specBad c ds[j] = false) ∧ Drew w0 wr) (fun t _ => len - (intOf t).toNat)
  case atStart => exact ⟨0, Nat.zero_le _, rfl, by simp, Drew.refl _⟩
  case round =>
    obtain ⟨k, hk, rfl, hall, hd⟩ := hrel
    have Hall := Lib.hid hall; clear hall
    have p0 := (hd.cell _).trans q0
    have p1 := (hd.cell _).trans q1
    clear q0 q1
    by_cases hlt : k < len
    · have l1 : k < ds.length := by rw [← Hlen.out]; exact hlt
      obtain ⟨b, off, rfl, -, u, hcu, hu⟩ := Hel0.out k l1
      replace hcu := (hd.cell _).trans hcu
      have Hgo : Hid (specBad c ds[k] = false → ∀ j (hj : j < ds.length), j < k + 1 → specBad c ds[j] = false) := fun h j hj hjk => by
        by_cases e : j = k
        · subst e; exact h
        · exact Hall.out j hj (by omega)
      have Hbad : Hid (specBad c ds[k] = true → roomsOk c ds = false) := fun h => by
        rw [Hds.out]
        have : ds.any (specBad c) = true := by rw [List.any_eq_true]; exact ⟨_, List.getElem_mem l1, h⟩
        rw [this]; rfl
      generalize ds[k] = s at *
      obtain ⟨ad, ls, cs, rfl, hls, hsm, -, -, -, hsel⟩ := IntsR.shape (stable_ints.drew hu hd)
      clear hu
      by_cases h0 : ls = 2
      · have HP := Lib.hid (specBad_in (c := c) (p := s) (by omega))
        subst h0
        obtain ⟨b2, o2, rfl, e0, ⟨g1, g2⟩, -⟩ := hsel 0 (by omega)
        obtain ⟨_, _, he, e1, ⟨g3, g4⟩, -⟩ := hsel 1 (by omega)
        injection he with he; injection he with he1 he2 _
        subst he1; subst he2
        clear hls hsel
        rw [Nat.add_zero] at e0
        generalize s.getD 0 0 = x at *
        generalize s.getD 1 0 = y at *
        have hneq : ((2 : Int) != 2) = false := rfl
        cases hA : inB x 0 (wrap64 (y - 1)) with
        | false =>
          have HH := Lib.hid (Hbad.out (by rw [HP.out, hA]; rfl))
          have HA := Lib.hid hA
          clear hA HP Hgo Hbad
          go_wp2_with fail
          go_quiet ((go_at_call 32; exact RetQ.quiet (Calls.vq (l01In_c _ _ _ _) (congrArg Value.bool HA.out))))
          go_wp2_with fail
          go_ret
          exact ⟨_, rfl, congrArg Value.bool HH.out.symm, hb0.trans ((hd.drewN _).below _)⟩
        | true =>
          have HA := Lib.hid hA
          clear hA
          cases hB : inB y 1 (wrap64 (c - 1)) with
          | false =>
            have HH := Lib.hid (Hbad.out (by rw [HP.out, HA.out, hB]; rfl))
            have HB := Lib.hid hB
            clear hB HP Hgo Hbad
            go_wp2_with fail
            go_quiet ((first | (go_at_call_of 32 (Value.int .i64 x); exact RetQ.quiet (Calls.vq (l01In_c _ x _ _) (congrArg Value.bool HA.out))) | (go_at_call 32; exact RetQ.quiet (Calls.vq (l01In_c _ y _ _) (congrArg Value.bool HB.out)))))
            go_wp2_with fail
            go_ret
            exact ⟨_, rfl, congrArg Value.bool HH.out.symm, hb0.trans ((hd.drewN _).below _)⟩
          | true =>
            have HH := Lib.hid (Hgo.out (by rw [HP.out, HA.out, hB]; rfl))
            have HB := Lib.hid hB
            clear hB HP Hgo Hbad
            go_wp2_with fail
            go_quiet ((first | (go_at_call_of 32 (Value.int .i64 x); exact RetQ.quiet (Calls.vq (l01In_c _ x _ _) (congrArg Value.bool HA.out))) | (go_at_call 32; exact RetQ.quiet (Calls.vq (l01In_c _ y _ _) (congrArg Value.bool HB.out)))))
            go_wp2_with fail
            go_roundw
            case rel => exact ⟨k + 1, by omega, by go_num, HH.out, hd.drewN _⟩
            case measure => simp [intOf]; omega
      · have hb1 : ((ls : Int) != 2) = true := by rw [bne_iff_ne]; omega
        have HH := Lib.hid (Hbad.out (specBad_len (by omega)))
        clear hsel hls h0 Hgo Hbad
        go_wp2_with fail
        go_quiet (fail)
        go_wp2_with fail
        go_ret
        exact ⟨_, rfl, congrArg Value.bool HH.out.symm, hb0.trans ((hd.drewN _).below _)⟩
    · have HG : Hid (roomsOk c ds = (inB c 2 8 && decide (ds.length ≤ 12))) := by
        show _ = _
        have : ds.any (specBad c) = false := by
          rw [List.any_eq_false]; intro y hy
          obtain ⟨i, hi, rfl⟩ := List.getElem_of_mem hy
          simp [Hall.out i hi (by have := Hlen.out; omega)]
        rw [Hds.out, this]; rfl
      have Hl := Hlen.out
      clear Hall Hds
      have hcall := l01In_c wr c 2 8
      by_cases hin : inB c 2 8 = true
      · rw [hin] at hcall
        have HE : Hid (roomsOk c ds = decide ((len : Int) ≤ 12)) := by
          show _ = _; rw [HG.out, hin, ← Hl]; simp; omega
        clear hin Hl
        go_wp2_with fail
        refine Calls.mono hcall ?_
        rintro e w2 ⟨rfl, hd2⟩
        replace p1 := (hd2.cell _).trans p1
        go_wp2_with fail
        go_ret
        exact ⟨_, rfl, congrArg Value.bool HE.out.symm, hb0.trans ((hd.trans hd2).below _)⟩
      · rw [Bool.not_eq_true] at hin
        rw [hin] at hcall
        have HE : Hid (roomsOk c ds = false) := by show _ = _; rw [HG.out, hin]; rfl
        clear hin Hl
        go_wp2_with fail
        refine Calls.mono hcall ?_
        rintro e w2 ⟨rfl, hd2⟩
        go_wp2_with fail
        go_ret
        exact ⟨_, rfl, congrArg Value.bool HE.out.symm, hb0.trans ((hd.trans hd2).below _)⟩
end Go.Proofs.Ytbkijealdjghgaa
