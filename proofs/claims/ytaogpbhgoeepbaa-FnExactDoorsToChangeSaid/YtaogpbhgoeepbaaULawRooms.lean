/- Proved: the laws' own helpers for a plan of rooms (size, copy, equality) do what their names say. -/
import Derived.Test.YtaogpbhgoeepbaaChecked
import Derived.Test.YtaogpbhgoeepbaaURooms
import Derived.Test.YtaogpbhgoeepbaaULawRows
namespace Go.Proofs.Ytaogpbhgoeepbaa
open Go.ChangeShapes Go.WideShapes Go.ChangeAt Go.RowKit
set_option linter.unusedVariables false

set_option maxHeartbeats 400000 in
theorem szRooms_c (w : World) (v : Value) (z : Zone) (x : Int × List (List Int)) (l : Int) (h : RoomsR z w v x) (h0 : 0 ≤ l) (h1 : l ≤ 1048576) :
    Calls Try.prog 9 #[v, .int .i64 l] w (Ret w fun r _ => r = .int .i64 (szLeft l (bulk x.2))) := by
  obtain ⟨c, ds⟩ := x
  obtain ⟨u, rfl, hc, hr⟩ := h
  simp only at hc hr ⊢
  obtain ⟨a, len, cap, rfl, -⟩ := SliceR.shape hr
  go_enter Try.func9, Try.ntmps9
  go_wp2_with fail
  have hcall := szInt64SS_c (w.alloc (.cells #[.int .i64 c, .slice a len cap] 24)) (.slice a len cap) z ds l (stable_rows.below hr ((Below.refl _ _).alloc (Nat.le_refl _) _)) h0 h1
  have hb : Below w.heap.size w (w.alloc (.cells #[.int .i64 c, .slice a len cap] 24)) := (Below.refl _ _).alloc (Nat.le_refl _) _
  by_cases hs : l < bulk ds
  · have HS := Lib.hid (szLeft_neg hs)
    rw [HS.out] at hcall
    refine Calls.mono hcall ?_
    rintro e w2 ⟨rfl, hd⟩
    go_wp2_with fail
    go_ret
    exact ⟨_, rfl, congrArg (Value.int .i64) HS.out.symm, hb.trans (hd.below _)⟩
  · have HS := Lib.hid (szLeft_pos hs)
    rw [HS.out] at hcall
    have hge : 0 ≤ l - (bulk ds : Int) := by omega
    generalize l - (bulk ds : Int) = m at *
    refine Calls.mono hcall ?_
    rintro e w2 ⟨rfl, hd⟩
    go_wp2_with fail
    go_ret
    exact ⟨_, rfl, congrArg (Value.int .i64) HS.out.symm, hb.trans (hd.below _)⟩

set_option maxHeartbeats 400000 in
theorem toRooms_c (w : World) (v : Value) (z : Zone) (x : Int × List (List Int)) (h : RoomsR z w v x) (hs : bulk x.2 ≤ 1048576) :
    Calls Try.prog 11 #[v] w (Ret w fun r w' => RoomsR (.new w w') w' r x) := by
  obtain ⟨c, ds⟩ := x
  obtain ⟨u, rfl, hc, hr⟩ := h
  simp only at hc hr hs ⊢
  obtain ⟨a, len, cap, rfl, -⟩ := SliceR.shape hr
  go_enter Try.func11, Try.ntmps11
  go_wp2_with fail
  generalize hw1 : World.alloc _ _ = w1
  have hb1 : Below w.heap.size w w1 := by
    rw [← hw1]; exact (((Below.refl _ _).alloc (Nat.le_refl _) _).alloc (by simp) _).alloc (by simp; omega) _
  have hsz : w1.heap.size = w.heap.size + 1 + 1 + 1 := by rw [← hw1]; simp
  have c10 : w1.cell? ⟨w.heap.size + 1, 0, none⟩ = some (.int .i64 0) := by rw [← hw1]; clear hw1; go_simp
  have c11 : w1.cell? ⟨w.heap.size + 1, 1, none⟩ = some (.slice none 0 0) := by rw [← hw1]; clear hw1; go_simp
  have c20 : w1.cell? ⟨w.heap.size + 1 + 1, 0, none⟩ = some (.int .i64 c) := by rw [← hw1]; clear hw1; go_simp
  have c21 : w1.cell? ⟨w.heap.size + 1 + 1, 1, none⟩ = some (.slice none 0 0) := by rw [← hw1]; clear hw1; go_simp
  have f10 : w1.frozen? ⟨w.heap.size + 1, 0, none⟩ = false := by rw [← hw1]; clear hw1; go_simp
  have f11 : w1.frozen? ⟨w.heap.size + 1, 1, none⟩ = false := by rw [← hw1]; clear hw1; go_simp
  have f21 : w1.frozen? ⟨w.heap.size + 1 + 1, 1, none⟩ = false := by rw [← hw1]; clear hw1; go_simp
  clear hw1
  refine Calls.mono (toInt64SS_c w1 _ z ds (stable_rows.below hr hb1) hs) ?_
  rintro e w2 ⟨r, rfl, hr2, hb2⟩
  obtain ⟨ra, rn, rc, rfl, -⟩ := SliceR.shape hr2
  replace c10 := (hb2.cell (p := ⟨w.heap.size + 1, 0, none⟩) (by simp; omega)).trans c10
  replace c11 := (hb2.cell (p := ⟨w.heap.size + 1, 1, none⟩) (by simp; omega)).trans c11
  replace c20 := (hb2.cell (p := ⟨w.heap.size + 1 + 1, 0, none⟩) (by simp; omega)).trans c20
  replace c21 := (hb2.cell (p := ⟨w.heap.size + 1 + 1, 1, none⟩) (by simp; omega)).trans c21
  replace f10 := (hb2.frozen (p := ⟨w.heap.size + 1, 0, none⟩) (by simp; omega)).trans f10
  replace f11 := (hb2.frozen (p := ⟨w.heap.size + 1, 1, none⟩) (by simp; omega)).trans f11
  replace f21 := (hb2.frozen (p := ⟨w.heap.size + 1 + 1, 1, none⟩) (by simp; omega)).trans f21
  have hb3 : Below w.heap.size w w2 := hb1.trans (hb2.mono (by omega))
  have Hr2 := Lib.hid hr2
  clear hr2 hr
  go_wp2_with fail
  refine bodyPost_ret (v := .agg #[.int .i64 c, .slice ra rn rc]) (by simp [results, Try.results11, go_sem, c10, c11]) rfl ⟨_, rfl, ⟨_, rfl, hc, ?_⟩, ?_⟩
  · have hw : Within ⟨w.heap.size, w1.heap.size, true⟩ w2 _ := (((Within.refl _ w2).setCell (p := ⟨w.heap.size + 1 + 1, 1, none⟩) ⟨by simp; omega, by simp; omega⟩ (.slice ra rn rc)).setCell (p := ⟨w.heap.size + 1, 0, none⟩) ⟨by simp, by simp; omega⟩ (.int .i64 c)).setCell (p := ⟨w.heap.size + 1, 1, none⟩) ⟨by simp, by simp; omega⟩ (.slice ra rn rc)
    have h := stable_rows.within Hr2.out hw (fun k h1 h2 => by have := h1.1; have := h2.2; simp [Zone.new] at *; omega)
    refine stable_rows.sub h ⟨fun k hk => ⟨by have := hk.1; simp [Zone.new] at *; omega, by have := hk.2; simp [Zone.new, World.setCell] at *; omega⟩, fun _ => rfl⟩
  · exact ((hb3.setCell (by simp; omega) _).setCell (by simp) _).setCell (by simp) _

theorem ne_rooms1 {x y : Int × List (List Int)} (h : x.1 ≠ y.1) : decide (x = y) = false := by rw [decide_eq_false_iff_not]; rintro rfl; exact h rfl
theorem ne_rooms2 {x y : Int × List (List Int)} (h : x.1 = y.1) : decide (x = y) = decide (x.2 = y.2) := by
  obtain ⟨a, b⟩ := x; obtain ⟨c, d⟩ := y
  simp only at h; subst h
  simp

set_option maxHeartbeats 400000 in
theorem eqRooms_c (w : World) (u v : Value) (y z : Zone) (x1 x2 : Int × List (List Int)) (h1 : RoomsR y w u x1) (h2 : RoomsR z w v x2) :
    Calls Try.prog 15 #[u, v] w (Ret w fun r _ => r = .bool (decide (x1 = x2))) := by
  have HN : Hid (x1.1 ≠ x2.1 → decide (x1 = x2) = false) := ne_rooms1
  have HE : Hid (x1.1 = x2.1 → decide (x1 = x2) = decide (x1.2 = x2.2)) := ne_rooms2
  obtain ⟨c1, d1⟩ := x1
  obtain ⟨u1, rfl, hc1, hr1⟩ := h1
  obtain ⟨c2, d2⟩ := x2
  obtain ⟨u2, rfl, hc2, hr2⟩ := h2
  simp only at hc1 hr1 hc2 hr2 HN HE
  generalize decide ((c1, d1) = (c2, d2)) = q at *
  obtain ⟨a1, n1, k1, rfl, -⟩ := SliceR.shape hr1
  obtain ⟨a2, n2, k2, rfl, -⟩ := SliceR.shape hr2
  by_cases hcc : c1 = c2
  · have HH := Lib.hid (HE.out hcc)
    subst hcc
    clear HN HE
    have hb : Below w.heap.size w ((w.alloc (.cells #[.int .i64 c1, .slice a1 n1 k1] 29)).alloc (.cells #[.int .i64 c1, .slice a2 n2 k2] 29)) := ((Below.refl _ _).alloc (Nat.le_refl _) _).alloc (by simp) _
    have hcall := eqInt64SS_c _ (.slice a1 n1 k1) (.slice a2 n2 k2) y z d1 d2 (stable_rows.below hr1 hb) (stable_rows.below hr2 hb)
    generalize decide (d1 = d2) = p at *
    go_enter Try.func15, Try.ntmps15
    go_wp2_with fail
    refine Calls.mono hcall ?_
    rintro e w2 ⟨rfl, hd⟩
    clear hcall
    cases p with
    | true =>
      go_wp2_with fail
      go_ret
      exact ⟨_, rfl, congrArg Value.bool HH.out.symm, hb.trans (hd.below _)⟩
    | false =>
      go_wp2_with fail
      go_ret
      exact ⟨_, rfl, congrArg Value.bool HH.out.symm, hb.trans (hd.below _)⟩
  · have HH := Lib.hid (HN.out hcc)
    have hb1 : (c1 != c2) = true := by rw [bne_iff_ne]; exact hcc
    clear HN HE hcc
    go_enter Try.func15, Try.ntmps15
    go_wp2_with fail
    go_ret
    exact ⟨_, rfl, congrArg Value.bool HH.out.symm, ((Below.refl _ _).alloc (Nat.le_refl _) _).alloc (by simp) _⟩
end Go.Proofs.Ytaogpbhgoeepbaa
