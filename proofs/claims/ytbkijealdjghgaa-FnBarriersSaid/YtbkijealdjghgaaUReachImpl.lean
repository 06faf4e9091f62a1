/- Proved: ReachWith as the program computes it. -/
import Derived.Test.YtbkijealdjghgaaChecked
import Derived.Test.YtbkijealdjghgaaURoomsCode
import Derived.Test.YtbkijealdjghgaaUReach
import Derived.Test.YtbkijealdjghgaaUReachDef
namespace Go.Proofs.Ytbkijealdjghgaa
open Go.ChangeShapes Go.WideShapes Go.ChangeAt Go.RowKit
set_option linter.unusedVariables false

set_option maxRecDepth 20000 in
set_option maxHeartbeats 1000000 in
theorem ReachWith_c (w : World) (v vd : Value) (z y : Zone) (x : Int × List (List Int)) (f : Int) (hfi : I64 f) (op : List Int) (h : RoomsR z w v x) (hd : IntsR y w vd op) :
    Calls Try.prog 17 #[v, .int .i64 f, vd] w (Ret w fun r w' => IntsCode w (reachWith x f op) r w') := by
  have hC := fun (wq : World) (hb : Below w.heap.size w wq) (vr : Value) (q : Zone) (hr : IntsR q wq vr [f]) => roomsCode_c wq v vd vr z y q x op [f] (stable_Rooms.below h hb) (stable_ints.below hd hb) hr
  have hR := fun (hok : roomsOk x.1 x.2 = true) (hop : rising op x.2.length = true) (hf : 0 ≤ f) (hf' : f < x.1) (wq : World) (hb : Below w.heap.size w wq) => reach_c wq v vd z y x op f (stable_Rooms.below h hb) (stable_ints.below hd hb) hok hop hf hf'
  obtain ⟨c, ds⟩ := x
  obtain ⟨u, rfl, hc, hrr⟩ := h
  obtain ⟨a, n, cap, rfl, -⟩ := SliceR.shape hrr
  by_cases hk : roomsCode c ds op [f] = 0
  · have HH := Lib.hid (reachWith_ok (x := (c, ds)) hk)
    obtain ⟨k1, k2, k3⟩ := roomsCode_ok hk
    have k4 := k3 f (List.mem_singleton.2 rfl)
    have hcc := (roomsOk_sides k1).1
    replace hR := hR k1 k2 k4.1 k4.2
    simp only at hC hR HH ⊢
    rw [hk] at hC
    have hlen := reachL_length c ds f op
    have HF : Hid (reachInts c ds f op = upto (fun i => (reachL c ds f op).getD i.toNat false) c.toNat) := rfl
    generalize reachWith (c, ds) f op = res at *
    generalize reachInts c ds f op = out at *
    generalize reachL c ds f op = seen at *
    clear hk k1 k2 k3 k4
    go_enter Try.func17, Try.ntmps17
    go_wp2_with fail
    generalize hw0 : World.alloc (World.alloc w _) _ = w0
    have hb0 : Below w.heap.size w w0 := by rw [← hw0]; exact ((Below.refl _ _).alloc (Nat.le_refl _) _).alloc (by simp) _
    have q0 : w0.cell? ⟨w.heap.size, 0, none⟩ = some (.int .i64 c) := by rw [← hw0]; clear hw0; go_simp
    have q1 : w0.cell? ⟨w.heap.size, 1, none⟩ = some (.slice a n cap) := by rw [← hw0]; clear hw0; go_simp
    have hsz : w.heap.size < w0.heap.size := by rw [← hw0]; simp; omega
    have o0 : OwnP (Value.int .i64) 2 (w.heap.size + 1) w0 (.slice (some ⟨w.heap.size + 1, 0, none⟩) 1 1) [f] := by
      rw [← hw0]
      have := OwnP.one (f := Value.int .i64) (e := 2) (w := w.alloc (Obj.cells #[Value.int .i64 c, Value.slice a n cap] 26)) (B := w.heap.size + 1) (by simp) f
      simpa using this
    clear hw0
    refine Calls.mono (hC _ hb0 _ _ (OwnP.ints o0 (by intro y hy; simp at hy; subst hy; exact hfi) (Nat.le_refl _))) ?_
    clear o0
    rintro e w1 ⟨r, rfl, rfl, b1⟩
    replace q0 := (b1.cell (p := ⟨w.heap.size, 0, none⟩) hsz).trans q0
    replace q1 := (b1.cell (p := ⟨w.heap.size, 1, none⟩) hsz).trans q1
    have b1' := hb0.trans (b1.mono hb0.size)
    have hsz1 : w.heap.size < w1.heap.size := Nat.lt_of_lt_of_le hsz b1.size
    clear hC b1 hb0
    go_wp2_with fail
    generalize hw2 : World.alloc w1 _ = w2
    have b2 : Below w1.heap.size w1 w2 := by rw [← hw2]; exact (Below.refl _ _).alloc (Nat.le_refl _) _
    have o2 : OwnP (Value.int .i64) 2 w1.heap.size w2 (.slice (some ⟨w1.heap.size, 0, none⟩) 0 0) [] := by rw [← hw2]; exact OwnP.empty (Nat.le_refl _)
    replace q0 := (b2.cell (p := ⟨w.heap.size, 0, none⟩) hsz1).trans q0
    replace q1 := (b2.cell (p := ⟨w.heap.size, 1, none⟩) hsz1).trans q1
    have b2' := b1'.trans (b2.mono b1'.size)
    clear hw2
    go_wp2_with fail
    refine Calls.mono (hR _ b2') ?_
    rintro e w3 ⟨r, rfl, r3, b3⟩
    have b3' := b2'.trans (b3.mono b2'.size)
    replace o2 := o2.below b3
    have hs12 : w1.heap.size ≤ w2.heap.size := b2.size
    have hs23 : w2.heap.size ≤ w3.heap.size := b3.size
    obtain ⟨gs, ns, csn, rfl, hns, hms, -⟩ := r3.shape
    have hg : ∃ g, gs = some ⟨g, 0, none⟩ := by
      obtain ⟨_, _, _, he, _, _, hx⟩ := r3.shape
      injection he with he _ _
      obtain ⟨b, hb, _⟩ := hx 0 (by omega)
      exact ⟨b, he.trans hb⟩
    obtain ⟨g, rfl⟩ := hg
    have Hn : Hid (ns = c.toNat) := by show ns = _; omega
    have hn8 : ns ≤ 8 := by omega
    have B13 : Below w1.heap.size w1 w3 := b2.trans (b3.mono hs12)
    clear hR hns hlen q0 q1
    go_wp2_with fail
    go_loopw [9, 26] (fun o s wr => ∃ k : Nat, k ≤ ns ∧ s = .int .i64 k ∧ OwnP (Value.int .i64) 2 w1.heap.size wr o (upto (fun i => seen.getD i.toNat false) k) ∧ OwnP Value.bool 4 w2.heap.size wr (.slice (some ⟨g, 0, none⟩) ns csn) seen ∧ Below w1.heap.size w1 wr) (fun _ s _ => ns - (intOf s).toNat)
    case atStart => exact ⟨0, Nat.zero_le _, rfl, o2, r3, B13⟩
    case round =>
      clear o2 r3
      obtain ⟨k, hk, rfl, hown, hseen, hbk⟩ := hrel
      have hbs := hbk.size
      have hns := hseen.len
      by_cases hlt : k < ns
      · obtain ⟨h1, hc, -⟩ := hseen.at hlt
        have er : seen.getD (k : Int).toNat false = seen[k] := by simp [h1]
        have HY := Lib.hid (upto_yes (p := fun i : Int => seen.getD i.toNat false) (k := k))
        have HN := Lib.hid (upto_no (p := fun i : Int => seen.getD i.toNat false) (k := k))
        have HL := Lib.hid (upto_length (fun i : Int => seen.getD i.toNat false) k)
        rw [er] at HY HN
        clear er hns
        have HSE := Lib.hid hseen; clear hseen
        generalize upto (fun i : Int => seen.getD i.toNat false) k = up at *
        generalize seen[k] = q at *
        cases q with
        | true =>
          go_wp2_with (at_builtin; (refine wpList_append1 (f := Value.int .i64) (e := 2) (B := w1.heap.size) (xs := up) rfl _ _ 29 rfl 0 8 Try.underlying29 Try.infoI64 rfl (fun _ => rfl) rfl hown (k : Int) rfl (by have := HL.out; omega) (by omega) hbs ?_); intro v6 w6 hown6 hg6 hb6)
          go_roundw
          case rel => exact ⟨k + 1, by omega, by go_num, by rw [HY.out rfl]; exact hown6, HSE.out.kept hg6 (HSE.out.apart hown (by decide)), hbk.trans hb6⟩
          case measure => simp [intOf]; omega
        | false =>
          go_wp2_with fail
          go_roundw
          case rel => exact ⟨k + 1, by omega, by go_num, by rw [HN.out rfl]; exact hown, HSE.out, hbk⟩
          case measure => simp [intOf]; omega
      · obtain rfl : k = ns := by omega
        have hm : ∀ x ∈ out, I64 x := by rw [HF.out]; exact upto_i64 (by omega)
        rw [Hn.out, ← HF.out] at hown
        clear HF hseen hns
        go_wp2_with fail
        go_ret2
        exact ⟨_, rfl, IntsCode_mk HH.out (OwnP.ints hown hm b1'.size), b1'.trans (hbk.mono b1'.size)⟩
  · have HH := Lib.hid (reachWith_no (x := (c, ds)) hk)
    have hb : (roomsCode c ds op [f] != 0) = true := by rw [bne_iff_ne]; exact hk
    simp only at hC HH ⊢
    generalize reachWith (c, ds) f op = res at *
    generalize roomsCode c ds op [f] = k at *
    clear hk hR
    go_enter Try.func17, Try.ntmps17
    go_wp2_with fail
    generalize hw0 : World.alloc (World.alloc w _) _ = w0
    have hb0 : Below w.heap.size w w0 := by rw [← hw0]; exact ((Below.refl _ _).alloc (Nat.le_refl _) _).alloc (by simp) _
    have q0 : w0.cell? ⟨w.heap.size, 0, none⟩ = some (.int .i64 c) := by rw [← hw0]; clear hw0; go_simp
    have q1 : w0.cell? ⟨w.heap.size, 1, none⟩ = some (.slice a n cap) := by rw [← hw0]; clear hw0; go_simp
    have hsz : w.heap.size < w0.heap.size := by rw [← hw0]; simp; omega
    have o0 : OwnP (Value.int .i64) 2 (w.heap.size + 1) w0 (.slice (some ⟨w.heap.size + 1, 0, none⟩) 1 1) [f] := by
      rw [← hw0]
      have := OwnP.one (f := Value.int .i64) (e := 2) (w := w.alloc (Obj.cells #[Value.int .i64 c, Value.slice a n cap] 26)) (B := w.heap.size + 1) (by simp) f
      simpa using this
    clear hw0
    refine Calls.mono (hC _ hb0 _ _ (OwnP.ints o0 (by intro y hy; simp at hy; subst hy; exact hfi) (Nat.le_refl _))) ?_
    clear o0
    rintro e w1 ⟨r, rfl, rfl, b1⟩
    replace q0 := (b1.cell (p := ⟨w.heap.size, 0, none⟩) hsz).trans q0
    replace q1 := (b1.cell (p := ⟨w.heap.size, 1, none⟩) hsz).trans q1
    have b1' := hb0.trans (b1.mono hb0.size)
    have hsz1 : w.heap.size < w1.heap.size := Nat.lt_of_lt_of_le hsz b1.size
    go_wp2_with fail
    go_ret2
    exact ⟨_, rfl, IntsCode_nil HH.out, b1'⟩
end Go.Proofs.Ytbkijealdjghgaa
