/- Proved: the laws' own helpers for a list of lists of integers (size, copy, equality, mark, held) do what their names say. -/
import Derived.Test.YtgagjibjnaappaaChecked
import Derived.Test.YtgagjibjnaappaaULawInts
namespace Go.Proofs.Ytgagjibjnaappaa
open Go.ChangeShapes Go.WideShapes Go.ChangeAt Go.RowKit
set_option linter.unusedVariables false


/-- how many values: one for each row, one for each element -/
def bulk (xss : List (List Int)) : Nat := xss.length + (xss.map List.length).sum
theorem bulk_mem {xss : List (List Int)} {xs : List Int} (h : xs ∈ xss) : xs.length ≤ bulk xss := by
  unfold bulk
  have : xs.length ≤ (xss.map List.length).sum := by
    induction xss with
    | nil => cases h
    | cons a l ih =>
      simp only [List.map_cons, List.sum_cons]
      rcases List.mem_cons.1 h with rfl | h
      · omega
      · have := ih h; omega
  omega
def offs (xss : List (List Int)) (k : Nat) : Nat := ((xss.take k).map List.length).sum
theorem offs_succ {xss : List (List Int)} {k : Nat} (h : k < xss.length) : offs xss (k+1) = offs xss k + (xss[k]).length := by
  unfold offs
  rw [List.take_add_one, List.getElem?_eq_getElem h, List.map_append, List.sum_append]
  simp
theorem offs_le (xss : List (List Int)) : ∀ k, offs xss k ≤ offs xss xss.length := by
  intro k
  unfold offs
  rw [List.take_length]
  induction xss generalizing k with
  | nil => simp
  | cons a l ih => cases k with
    | zero => simp
    | succ k => have := ih k; simp only [List.take_succ_cons, List.map_cons, List.sum_cons]; omega
theorem offs_all (xss : List (List Int)) : xss.length + offs xss xss.length = bulk xss := by unfold offs bulk; rw [List.take_length]

set_option maxHeartbeats 400000 in
theorem szInt64SS_c (w : World) (v : Value) (z : Zone) (xss : List (List Int)) (l : Int) (h : RowsR z w v xss) (h0 : 0 ≤ l) (h1 : l ≤ 1048576) :
    Calls Try.prog 14 #[v, .int .i64 l] w (RetQ w (.int .i64 (szLeft l (bulk xss)))) := by
  obtain ⟨a, n, cap, rfl, hn, hmax, hel⟩ := SliceR.elem stable_ints h
  have Hel := Lib.hid hel; clear hel h
  have Hn := Lib.hid hn; clear hn
  by_cases hc : l < n
  · have Hbad : Hid (l < bulk xss) := by show _ < _; have := Hn.out; unfold bulk; omega
    rw [szLeft_neg Hbad.out]
    go_enter Try.func14, Try.ntmps14
    go_wp2
    go_ret
    exact ⟨rfl, Drew.refl _⟩
  · go_enter Try.func14, Try.ntmps14
    go_wp2
    go_loopw [1, 5] (fun s t wr => ∃ i : Nat, i ≤ n ∧ t = .int .i64 i ∧ s = .int .i64 (l - n - offs xss i) ∧ 0 ≤ l - n - offs xss i ∧ Drew w wr) (fun _ t _ => n - (intOf t).toNat)
    case atStart => exact ⟨0, Nat.zero_le _, rfl, by simp [offs], by simp [offs]; omega, Drew.refl _⟩
    case round =>
      obtain ⟨i, hi, rfl, rfl, hge, hd⟩ := hrel
      by_cases hlt : i < n
      · obtain ⟨b, off, rfl, hb, u, hcell, hu⟩ := Hel.out i (by rw [← Hn.out]; exact hlt)
        have Hs := Lib.hid (offs_succ (xss := xss) (k := i) (by rw [← Hn.out]; exact hlt))
        have Hle2 := offs_le xss (i+1)
        have Hall := offs_all xss
        rw [← Hn.out] at Hle2 Hall
        have Hall := Lib.hid Hall
        have Hle := Lib.hid Hle2
        clear Hle2
        have Hu := Lib.hid (IntsR.mem hu)
        generalize hxs : xss[i]'(by rw [← Hn.out]; exact hlt) = xs at *
        clear hxs
        have hle : l - n - offs xss i ≤ 1048576 := by omega
        generalize hoi : offs xss i = oi at *
        clear hoi
        replace hcell := (hd.cell _).trans hcell
        by_cases hc2 : l - n - oi < xs.length
        · have Hc := Lib.hid (szLeft_neg hc2)
          go_wp2_with (go_at_call 47; refine (szInt64S_c _ _ _ xs _ (stable_ints.drew hu hd) hge hle).mono ?_; rintro e w1 ⟨rfl, hd1⟩; rw [Hc.out])
          go_ret
          exact ⟨ret_int (by have := Hs.out; have := Hle.out; have := Hall.out; rw [szLeft_neg (by omega)]), hd.trans hd1⟩
        · have Hc := Lib.hid (szLeft_pos hc2)
          go_wp2_with (go_at_call 47; refine (szInt64S_c _ _ _ xs _ (stable_ints.drew hu hd) hge hle).mono ?_; rintro e w1 ⟨rfl, hd1⟩; rw [Hc.out])
          go_roundw
          case rel => exact ⟨i + 1, by omega, by go_num, by rw [Hs.out]; go_num, by rw [Hs.out]; omega, hd.trans hd1⟩
          case measure => simp [intOf]; omega
      · have hin : i = n := by omega
        go_wp2
        go_ret
        have hl := Hn.out
        have ha := offs_all xss
        rw [← hl] at ha
        rw [hin] at hge
        rw [hin]
        exact ⟨ret_int (by rw [szLeft_pos (by omega)]; omega), hd⟩

set_option maxHeartbeats 400000 in
theorem eqInt64SS_c (w : World) (u v : Value) (y z : Zone) (xs ys : List (List Int)) (hx : RowsR y w u xs) (hy : RowsR z w v ys) :
    Calls Try.prog 21 #[u, v] w (RetQ w (.bool (decide (xs = ys)))) := by
  obtain ⟨a, n, cap, rfl, hn, hmax, hel⟩ := SliceR.elem stable_ints hx
  obtain ⟨b, m, cap', rfl, hm, hmax', hel'⟩ := SliceR.elem stable_ints hy
  clear hx hy
  have Hn := Lib.hid hn; clear hn
  have Hm := Lib.hid hm; clear hm
  have Hel := Lib.hid hel; clear hel
  have Hel' := Lib.hid hel'; clear hel'
  by_cases hnm : n = m
  · subst hnm
    have Hend : Hid ((∀ k (h1 : k < xs.length) (h2 : k < ys.length), k < n → xs[k] = ys[k]) → decide (xs = ys) = true) := fun h => by
      have h1 := Hn.out; have h2 := Hm.out
      rw [decide_eq_true_iff]
      exact List.ext_getElem (by omega) (fun i g1 g2 => h i g1 g2 (by omega))
    have Hbad : Hid (∀ k (h1 : k < xs.length) (h2 : k < ys.length), xs[k] ≠ ys[k] → decide (xs = ys) = false) := fun k h1 h2 h => by
      rw [decide_eq_false_iff_not]; rintro rfl; exact h rfl
    go_enter Try.func21, Try.ntmps21
    go_wp2
    go_loopw [5] (fun t wr => ∃ k : Nat, k ≤ n ∧ t = .int .i64 k ∧ (∀ j (h1 : j < xs.length) (h2 : j < ys.length), j < k → xs[j] = ys[j]) ∧ Drew w wr) (fun t _ => n - (intOf t).toNat)
    case atStart => exact ⟨0, Nat.zero_le _, rfl, by simp, Drew.refl _⟩
    case round =>
      obtain ⟨k, hk, rfl, hall, hd⟩ := hrel
      have Hall := Lib.hid hall; clear hall
      by_cases hlt : k < n
      · have l1 : k < xs.length := by rw [← Hn.out]; exact hlt
        have l2 : k < ys.length := by rw [← Hm.out]; exact hlt
        obtain ⟨b1, o1, rfl, -, u1, hc1, hu1⟩ := Hel.out k l1
        obtain ⟨b2, o2, rfl, -, u2, hc2, hu2⟩ := Hel'.out k l2
        replace hc1 := (hd.cell _).trans hc1
        replace hc2 := (hd.cell _).trans hc2
        have Hgo : Hid (xs[k] = ys[k] → ∀ j (h1 : j < xs.length) (h2 : j < ys.length), j < k + 1 → xs[j] = ys[j]) := fun h j h1 h2 hj => by
          by_cases e : j = k
          · subst e; exact h
          · exact Hall.out j h1 h2 (by omega)
        have Hno := Lib.hid (Hbad.out k l1 l2)
        clear Hall Hbad Hend Hel Hel'
        generalize xs[k] = x at *
        generalize ys[k] = y at *
        by_cases hxy : x = y
        · have Hd : Hid (decide (x = y) = true) := by show _ = _; simpa using hxy
          have Hxy := Lib.hid hxy; clear hxy
          go_wp2
          go_quiet ((go_at_call 22; exact RetQ.quiet (Calls.vq (eqInt64S_c _ _ _ _ _ x y (stable_ints.drewN (stable_ints.drew hu1 hd) _) (stable_ints.drewN (stable_ints.drew hu2 hd) _)) (congrArg Value.bool Hd.out))))
          go_wp2
          go_roundw
          case rel => exact ⟨k + 1, by omega, by go_num, Hgo.out Hxy.out, hd.drewN _⟩
          case measure => simp [intOf]; omega
        · have Hd : Hid (decide (x = y) = false) := by show _ = _; simpa using hxy
          have Hxy := Lib.hid hxy; clear hxy
          go_wp2
          go_quiet ((go_at_call 22; exact RetQ.quiet (Calls.vq (eqInt64S_c _ _ _ _ _ x y (stable_ints.drewN (stable_ints.drew hu1 hd) _) (stable_ints.drewN (stable_ints.drew hu2 hd) _)) (congrArg Value.bool Hd.out))))
          go_wp2
          go_ret
          exact ⟨ret_bool' (Hno.out Hxy.out), hd.drewN _⟩
      · have hkn : k = n := by omega
        go_wp2
        go_ret
        exact ⟨ret_bool' (Hend.out (fun j h1 h2 hj => Hall.out j h1 h2 (by omega))), hd⟩
  · have hd : ((n : Int) == (m : Int)) = false := by rw [beq_eq_false_iff_ne]; omega
    have Hne : Hid (decide (xs = ys) = false) := by
      show decide (xs = ys) = false
      rw [decide_eq_false_iff_not]; rintro rfl; exact hnm (Hn.out.trans Hm.out.symm)
    clear hnm
    go_enter Try.func21, Try.ntmps21
    go_wp2
    go_ret
    exact ⟨ret_bool' Hne.out, Drew.refl _⟩

set_option maxHeartbeats 400000 in
theorem toInt64SS_c (w : World) (v : Value) (z : Zone) (xss : List (List Int)) (h : RowsR z w v xss) (hs : bulk xss ≤ 1048576) :
    Calls Try.prog 17 #[v] w (Ret w fun r w' => RowsR (.new w w') w' r xss) := by
  obtain ⟨a, len, cap, rfl, hlen, hmax, hel⟩ := SliceR.elem stable_ints h
  have hs' : len ≤ 1048576 := by unfold bulk at hs; omega
  have Hmem : Hid (∀ xs ∈ xss, xs.length ≤ 1048576) := fun xs hxs => Nat.le_trans (bulk_mem hxs) hs
  have Hlen := Lib.hid hlen; clear hlen hs h
  have Hel := Lib.hid hel; clear hel
  go_enter Try.func17, Try.ntmps17
  go_wp2_with (at_make; refine wpList_makeP rfl _ _ 24 rfl 27 w.heap.size (fun (_ : List Int) => Value.slice none 0 0) [] 24 Try.underlying24 Try.infoInts rfl len rfl rfl (by omega) (by omega) (Nat.le_refl _) ?_)
  intro w1 hown hb1 hsz
  have hr1 : RowsR ⟨w.heap.size, w1.heap.size, true⟩ w1 (.slice (some ⟨w.heap.size, 0, none⟩) len len) (xss.take 0 ++ List.replicate (len - 0) []) :=
    OwnP.reads hown (fun z x hx => by rw [List.eq_of_mem_replicate hx]; exact SliceR.nil _ _ _) (Nat.le_refl _) (Nat.le_refl _)
  have Hr1 := Lib.hid hr1
  clear hr1 hown hsz
  go_wp2
  go_loopw [4] (fun t wr => ∃ k : Nat, k ≤ len ∧ t = .int .i64 k ∧ RowsR ⟨w.heap.size, wr.heap.size, true⟩ wr (.slice (some ⟨w.heap.size, 0, none⟩) len len) (xss.take k ++ List.replicate (len - k) []) ∧ Below w.heap.size w wr) (fun t _ => len - (intOf t).toNat)
  case atStart => exact ⟨0, Nat.zero_le _, rfl, Hr1.out, hb1⟩
  case round =>
    obtain ⟨k, hk, rfl, hrk, hbk⟩ := hrel
    clear hb1
    by_cases hlt : k < len
    · have l1 : k < xss.length := by rw [← Hlen.out]; exact hlt
      obtain ⟨b, off, rfl, hb0, u, hc, hu⟩ := Hel.out k l1
      have hc' : wr.cell? ⟨b, off + k, none⟩ = some u := (hbk.cell hb0).trans hc
      have Hx : Hid (xss[k]? = some xss[k]) := List.getElem?_eq_getElem l1
      have hxl := Hmem.out _ (List.getElem_mem l1)
      generalize xss[k] = x at *
      obtain ⟨-, -, g1, g2, d, g3⟩ := SliceR.slot hrk rfl hlt
      simp only [Nat.zero_add] at g2 g3
      have Hrk := Lib.hid hrk; clear hrk hc
      go_wp2_with (go_at_call 18; refine (toInt64S_c _ _ _ x (stable_ints.below hu hbk) hxl).mono ?_; rintro e w2 ⟨r, rfl, hr, hb2⟩; obtain ⟨ra, rn, rc, rfl, -⟩ := SliceR.shape hr; have q2 := (hb2.frozen (p := ⟨w.heap.size, k, none⟩) g1).trans g2; have q3 := (hb2.cell (p := ⟨w.heap.size, k, none⟩) g1).trans g3)
      go_roundw
      case rel =>
        refine ⟨k + 1, by omega, by go_num, ?_, (hbk.trans (hb2.mono (Nat.le_of_lt g1))).setCell (Nat.le_refl _) _⟩
        have hst := SliceR.storeNew stable_ints Hrk.out rfl (Nat.le_refl _) k hlt _ x hb2 hr
        rw [Nat.zero_add] at hst
        rw [World.size_setCell]
        have e := take_set xss [] k len hlt Hlen.out x Hx.out
        rw [← e]; exact hst
      case measure => simp [intOf]; omega
    · have hke : k = len := by omega
      go_wp2
      go_ret
      refine ⟨_, rfl, ?_, hbk⟩
      have hl := Hlen.out
      rw [hke, Nat.sub_self, List.replicate_zero, List.append_nil, List.take_of_length_le (by omega)] at hrk
      exact hrk
end Go.Proofs.Ytgagjibjnaappaa
