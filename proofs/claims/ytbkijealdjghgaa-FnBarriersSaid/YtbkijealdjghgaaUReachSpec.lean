/- Proved: the rooms that can be reached, as the reference finds them. -/
import Derived.Test.YtbkijealdjghgaaChecked
import Derived.Test.YtbkijealdjghgaaUReach
import Derived.Test.YtbkijealdjghgaaUReachDef
namespace Go.Proofs.Ytbkijealdjghgaa
open Go.ChangeShapes Go.WideShapes Go.ChangeAt Go.RowKit
set_option linter.unusedVariables false

set_option maxRecDepth 20000 in
set_option maxHeartbeats 1000000 in
theorem l25Reach_c (w : World) (v vo : Value) (z y : Zone) (x : Int × List (List Int)) (op : List Int) (f : Int) (h : RoomsR z w v x) (ho : IntsR y w vo op)
    (hok : roomsOk x.1 x.2 = true) (hop : rising op x.2.length = true) (hf : 0 ≤ f) (hf' : f < x.1) :
    Calls Try.prog 33 #[v, .int .i64 f, vo] w (Ret w fun r w' => IntsR (.new w w') w' r (reachInts x.1 x.2 f op)) := by
  obtain ⟨c, ds⟩ := x
  obtain ⟨u, rfl, hc, hr⟩ := h
  simp only at hc hr hok hop hf' ⊢
  have HE : Hid (reachL c ds f op = roundsE (op.map (sides ds)) (reach0 c f) c.toNat) := rfl
  have HF : Hid (reachInts c ds f op = upto (fun i => (reachL c ds f op).getD i.toNat false) c.toNat) := rfl
  have Hdoor : Hid (∀ k, k < op.length → ∃ m x y : Nat, op.getD k 0 = (m : Int) ∧ ∃ hm : m < ds.length, ds[m].getD 0 0 = (x : Int) ∧ ds[m].getD 1 0 = (y : Int) ∧ ds[m].length = 2 ∧ x < y ∧ (y : Int) < c ∧ (op.map (sides ds))[k]? = some (x, y)) := fun k hk => door_at hok hop hk
  obtain ⟨nc, rfl⟩ : ∃ nc : Nat, c = nc := ⟨c.toNat, by omega⟩
  obtain ⟨nf, rfl⟩ : ∃ nf : Nat, f = nf := ⟨f.toNat, by omega⟩
  have hnc : nc ≤ 8 := by have := (roomsOk_sides hok).1; omega
  have hnf : nf < nc := by omega
  have Hstart : Hid (reach0 nc nf = (List.replicate nc false).set nf true) := rfl
  have Hes : Hid ((op.map (sides ds)).length = op.length) := by show _ = _; simp
  generalize op.map (sides ds) = es at *
  rw [Int.toNat_natCast] at HE HF
  generalize reachInts nc ds nf op = out at *
  generalize reachL nc ds nf op = res at *
  generalize reach0 nc nf = s0 at *
  clear hok hop hf hf' hc
  obtain ⟨a, len, cap, rfl, hlen, hmax, hel⟩ := SliceR.elem stable_ints hr
  obtain ⟨ao, no, co, rfl, hlo, hmo, -, -, -, hoel⟩ := IntsR.shape ho
  have Hlen := Lib.hid hlen; clear hlen hr
  have Hel := Lib.hid hel; clear hel
  have Hlo := Lib.hid hlo; clear hlo ho
  have Hoel := Lib.hid hoel; clear hoel
  go_enter Try.func33, Try.ntmps33
  go_wp2_with (at_make; generalize hw0 : World.alloc w _ = w0; refine wpList_makeP rfl _ _ 50 rfl 4 w0.heap.size Value.bool false 1 Try.underlying50 Try.infoBool rfl nc rfl rfl (by omega) (by omega) (Nat.le_refl _) ?_)
  intro w1 hown hb1 _
  have hb0 : Below w.heap.size w w0 := by rw [← hw0]; exact (Below.refl _ _).alloc (Nat.le_refl _) _
  have q0 : w0.cell? ⟨w.heap.size, 0, none⟩ = some (.int .i64 nc) := by rw [← hw0]; simp
  have q1 : w0.cell? ⟨w.heap.size, 1, none⟩ = some (.slice a len cap) := by rw [← hw0]; simp
  have hsz : w.heap.size < w0.heap.size := by rw [← hw0]; simp
  clear hw0
  have hst : OwnP Value.bool 4 w0.heap.size (w1.setCell ⟨w0.heap.size, nf, none⟩ (.bool true)) (.slice (some ⟨w0.heap.size, 0, none⟩) nc nc) s0 := by
    rw [Hstart.out]; exact OwnP.store hown nf true
  have hb2 : Below w0.heap.size w0 (w1.setCell ⟨w0.heap.size, nf, none⟩ (.bool true)) := hb1.setCell (Nat.le_refl _) _
  obtain ⟨_, hcf, hff⟩ := hown.at hnf
  clear Hstart hown hb1
  go_wp2_with fail
  go_loopw [8] (fun t wr => ∃ n : Nat, n ≤ nc ∧ t = .int .i64 n ∧ OwnP Value.bool 4 w0.heap.size wr (.slice (some ⟨w0.heap.size, 0, none⟩) nc nc) (roundsE es s0 n) ∧ Below w0.heap.size w0 wr) (fun t wr => nc - (intOf t).toNat)
  case atStart => exact ⟨0, Nat.zero_le _, rfl, hst, hb2⟩
  case round =>
    obtain ⟨n, hn, rfl, hs, hb⟩ := hrel
    clear hst hb2 hcf hff
    have q0' := (hb.cell hsz).trans q0
    have q1' := (hb.cell hsz).trans q1
    by_cases hnl : n < nc
    · have HN : Hid (roundsE es s0 (n + 1) = passE es (roundsE es s0 n)) := rfl
      generalize roundsE es s0 n = s at *
      go_wp2_with fail
      generalize wr = wo at *
      go_loopw [9] (fun i wi => ∃ k : Nat, k ≤ no ∧ i = .int .i64 k ∧ OwnP Value.bool 4 w0.heap.size wi (.slice (some ⟨w0.heap.size, 0, none⟩) nc nc) (passE (es.take k) s) ∧ Below w0.heap.size w0 wi) (fun i _ => no - (intOf i).toNat)
      case atStart => exact ⟨0, Nat.zero_le _, rfl, by simpa [passE] using hs, hb⟩
      case round =>
        generalize wr = wi at *
        obtain ⟨k, hk, rfl, hsi, hbi⟩ := hrel
        by_cases hlt : k < no
        · have hlo : no = op.length := Hlo.out
          obtain ⟨m, x, y, hm, hml, hx, hy, hl2, hxy, hyc, hes⟩ := Hdoor.out k (by omega)
          obtain ⟨bo, oo, rfl, hco, -, -⟩ := Hoel.out k hlt
          obtain ⟨b, off, rfl, hblt, u, hcu, hu⟩ := Hel.out m hml
          rw [hm] at hco
          obtain ⟨ad, l2, c2, rfl, hl, -, -, -, -, hrow⟩ := IntsR.shape hu
          obtain ⟨br, orr, rfl, hc0, -, -⟩ := hrow 0 (by omega)
          obtain ⟨_, _, he, hc1, -, -⟩ := hrow 1 (by omega)
          injection he with he; injection he with he1 he2 _
          subst he1; subst he2
          rw [hx, Nat.add_zero] at hc0
          rw [hy] at hc1
          obtain rfl : l2 = 2 := by omega
          have hml' : m < len := by rw [Hlen.out]; exact hml
          have hbw : Below w.heap.size w wi := hb0.trans (hbi.mono (by omega))
          replace hco := (hbw.cell (World.block_lt_of_cell? _ _ hco)).trans hco
          replace hcu := (hbw.cell (World.block_lt_of_cell? _ _ hcu)).trans hcu
          replace hc0 := (hbw.cell (World.block_lt_of_cell? _ _ hc0)).trans hc0
          replace hc1 := (hbw.cell (World.block_lt_of_cell? _ _ hc1)).trans hc1
          replace q0' := (hbi.cell hsz).trans q0
          replace q1' := (hbi.cell hsz).trans q1
          clear hu hrow hx hy hl2 hl hm hlo
          have hek : k < es.length := (List.getElem?_eq_some_iff.1 hes).1
          have HP : Hid (passE (es.take (k+1)) s = stepE (passE (es.take k) s) (x, y)) := by
            show _ = _
            rw [passE_take hek, (List.getElem?_eq_some_iff.1 hes).2]
          clear hes hek
          generalize passE (es.take k) s = s1 at *
          obtain ⟨hx1, hsx, hfx⟩ := hsi.at (k := x) (by omega)
          obtain ⟨hy1, hsy, hfy⟩ := hsi.at (k := y) (by omega)
          have hyn : y < nc := by omega
          have hxn : x < nc := by omega
          have ex : s1.getD x false = s1[x] := by simp [hx1]
          have ey : s1.getD y false = s1[y] := by simp [hy1]
          have HT : Hid ((s1[x] || s1[y]) = true → passE (es.take (k+1)) s = (s1.set x true).set y true) := fun h => by
            rw [HP.out]; unfold stepE; rw [if_pos (by rw [ex, ey]; exact h)]
          have HS : Hid ((s1[x] || s1[y]) = false → passE (es.take (k+1)) s = s1) := fun h => by
            rw [HP.out]; unfold stepE; rw [if_neg (by rw [ex, ey, h]; simp)]
          have HSI := Lib.hid hsi; clear hsi
          clear ex ey HP hs hb HE HF HN
          generalize s1[x] = p at *
          generalize s1[y] = q at *
          cases p <;> cases q
          case false.false =>
            have HH := Lib.hid (HS.out rfl)
            clear HS HT
            go_wp2_with fail
            go_quiet (fail)
            go_wp2_with fail
            go_roundw
            case rel => exact ⟨k + 1, by omega, by go_num, by rw [HH.out]; exact HSI.out.drewN _, hbi.drewN _⟩
            case measure => simp [intOf]; omega
          case true.true =>
            have HH := Lib.hid (HT.out (by simp))
            clear HS HT
            go_wp2_with fail
            go_quiet (fail)
            go_wp2_with fail
            go_roundw
            case rel => exact ⟨k + 1, by omega, by go_num, by rw [HH.out]; exact OwnP.store (OwnP.store (HSI.out.drewN _) x true) y true, ((hbi.drewN _).setCell (p := ⟨w0.heap.size, x, none⟩) (Nat.le_refl _) (.bool true)).setCell (p := ⟨w0.heap.size, y, none⟩) (Nat.le_refl _) (.bool true)⟩
            case measure => simp [intOf]; omega
          case false.true =>
            have HH := Lib.hid (HT.out (by simp))
            clear HS HT
            go_wp2_with fail
            go_quiet (fail)
            go_wp2_with fail
            go_roundw
            case rel => exact ⟨k + 1, by omega, by go_num, by rw [HH.out]; exact OwnP.store (OwnP.store (HSI.out.drewN _) x true) y true, ((hbi.drewN _).setCell (p := ⟨w0.heap.size, x, none⟩) (Nat.le_refl _) (.bool true)).setCell (p := ⟨w0.heap.size, y, none⟩) (Nat.le_refl _) (.bool true)⟩
            case measure => simp [intOf]; omega
          case true.false =>
            have HH := Lib.hid (HT.out (by simp))
            clear HS HT
            go_wp2_with fail
            go_quiet (fail)
            go_wp2_with fail
            go_roundw
            case rel => exact ⟨k + 1, by omega, by go_num, by rw [HH.out]; exact OwnP.store (OwnP.store (HSI.out.drewN _) x true) y true, ((hbi.drewN _).setCell (p := ⟨w0.heap.size, x, none⟩) (Nat.le_refl _) (.bool true)).setCell (p := ⟨w0.heap.size, y, none⟩) (Nat.le_refl _) (.bool true)⟩
            case measure => simp [intOf]; omega
        · have hall : es.take k = es := List.take_of_length_le (by have := Hes.out; have := Hlo.out; omega)
          rw [hall] at hsi
          have Hrel : Hid (OwnP Value.bool 4 w0.heap.size wi (.slice (some ⟨w0.heap.size, 0, none⟩) nc nc) (roundsE es s0 (n+1))) := by
            show OwnP _ _ _ _ _ _; rw [HN.out]; exact hsi
          clear hsi hs hb HE HF HN Hdoor
          go_wp2_with fail
          go_roundw
          case rel => exact ⟨n + 1, by omega, by go_num, Hrel.out, hbi⟩
          case measure => simp [intOf]; omega
    · obtain rfl : n = nc := by omega
      rw [← HE.out] at hs
      have hrl : res.length = n := hs.len.symm
      clear HE Hdoor Hes
      go_wp2_with fail
      generalize hw3 : World.alloc _ _ = w3
      have b3 : Below wr.heap.size wr w3 := by rw [← hw3]; exact (Below.refl _ _).alloc (Nat.le_refl _) _
      have o3 : OwnP (Value.int .i64) 2 wr.heap.size w3 (.slice (some ⟨wr.heap.size, 0, none⟩) 0 0) [] := by rw [← hw3]; exact OwnP.empty (Nat.le_refl _)
      clear hw3
      generalize wr = wb at *
      have hbs0 : w0.heap.size < wb.heap.size := (hs.block w0.heap.size rfl).2
      go_loopw [12, 13] (fun o s wr => ∃ k : Nat, k ≤ n ∧ s = .int .i64 k ∧ OwnP (Value.int .i64) 2 wb.heap.size wr o (upto (fun i => res.getD i.toNat false) k) ∧ Below wb.heap.size wb wr) (fun _ s _ => n - (intOf s).toNat)
      case atStart => exact ⟨0, Nat.zero_le _, rfl, o3, b3⟩
      case round =>
        clear q0' q1' o3 b3
        obtain ⟨k, hk, rfl, hown, hbk⟩ := hrel
        have hbs := hbk.size
        have q0' := (hbk.cell (p := ⟨w.heap.size, 0, none⟩) (by show w.heap.size < _; omega)).trans ((hb.cell hsz).trans q0)
        by_cases hlt : k < n
        · obtain ⟨h1, hc, -⟩ := hs.at hlt
          have hsk := (hbk.cell (p := ⟨w0.heap.size, k, none⟩) hbs0).trans hc
          have er : res.getD (k : Int).toNat false = res[k] := by simp [h1]
          have HY := Lib.hid (upto_yes (p := fun i : Int => res.getD i.toNat false) (k := k))
          have HN := Lib.hid (upto_no (p := fun i : Int => res.getD i.toNat false) (k := k))
          have HL := Lib.hid (upto_length (fun i : Int => res.getD i.toNat false) k)
          rw [er] at HY HN
          clear hc er
          generalize upto (fun i : Int => res.getD i.toNat false) k = up at *
          generalize res[k] = q at *
          cases q with
          | true =>
            go_wp2_with (at_builtin; (refine wpList_append1 (f := Value.int .i64) (e := 2) (B := wb.heap.size) (xs := up) rfl _ _ 29 rfl 0 8 Try.underlying29 Try.infoI64 rfl (fun _ => rfl) rfl hown (k : Int) rfl (by have := HL.out; omega) (by omega) hbs ?_); intro v6 w6 hown6 hg6 hb6)
            go_roundw
            case rel => exact ⟨k + 1, by omega, by go_num, by rw [HY.out rfl]; exact hown6, hbk.trans hb6⟩
            case measure => simp [intOf]; omega
          | false =>
            go_wp2_with fail
            go_roundw
            case rel => exact ⟨k + 1, by omega, by go_num, by rw [HN.out rfl]; exact hown, hbk⟩
            case measure => simp [intOf]; omega
        · obtain rfl : k = n := by omega
          rw [← HF.out] at hown
          have hm : ∀ x ∈ out, I64 x := by rw [HF.out]; exact upto_i64 (by omega)
          clear HF
          go_wp2_with fail
          go_ret
          exact ⟨_, rfl, OwnP.ints hown hm (by omega), hb0.trans ((hb.mono (by omega)).trans (hbk.mono (by omega)))⟩
end Go.Proofs.Ytbkijealdjghgaa
