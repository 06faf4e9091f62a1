/- Proved: the laws' own helpers for a list of integers (size, copy, equality, mark, held) do what their names say. -/
import Derived.Test.YtgagjibjnaappaaChecked
import Derived.Test.YtgagjibjnaappaaUInfo
namespace Go.Proofs.Ytgagjibjnaappaa
open Go.ChangeShapes Go.WideShapes Go.ChangeAt Go.RowKit
set_option linter.unusedVariables false


theorem take_set {α : Type} (xs : List α) (d : α) (k len : Nat) (hk : k < len) (hl : len = xs.length) (x : α) (hx : xs[k]? = some x) :
    (xs.take k ++ List.replicate (len - k) d).set k x = xs.take (k+1) ++ List.replicate (len - (k+1)) d := by
  rw [List.take_add_one, hx]
  obtain ⟨m, hm⟩ : ∃ m, len - k = m + 1 := ⟨len - k - 1, by omega⟩
  rw [hm, show len - (k+1) = m by omega, List.set_append_right _ _ (by simp; omega)]
  simp [show min k xs.length = k by omega, List.replicate_succ]

theorem getElem?_of_getD {xs : List Int} {k : Nat} (h : k < xs.length) {x : Int} (hx : xs.getD k 0 = x) : xs[k]? = some x := by
  subst hx; simp [h]

set_option maxHeartbeats 400000 in
theorem toInt64S_c (w : World) (v : Value) (z : Zone) (xs : List Int) (h : IntsR z w v xs) (hs : xs.length ≤ 1048576) :
    Calls Try.prog 18 #[v] w (Ret w fun r w' => IntsR (.new w w') w' r xs) := by
  obtain ⟨a, len, cap, rfl, hlen, hmax, -, -, -, hel⟩ := IntsR.shape h
  have hmem := IntsR.mem h
  have hs' : len ≤ 1048576 := by omega
  have Hlen := Lib.hid hlen; clear hlen hs h
  have Hel := Lib.hid hel; clear hel
  have Hmem := Lib.hid hmem; clear hmem
  go_enter Try.func18, Try.ntmps18
  go_wp2_with (at_make; refine wpList_makeP rfl _ _ 27 rfl 2 w.heap.size (Value.int .i64) 0 8 Try.underlying27 Try.infoI64 rfl len rfl rfl (by omega) (by omega) (Nat.le_refl _) ?_)
  intro w1 hown hb1 _
  go_wp2
  go_loopw [4] (fun t wr => ∃ k : Nat, k ≤ len ∧ t = .int .i64 k ∧ OwnP (Value.int .i64) 2 w.heap.size wr (.slice (some ⟨w.heap.size, 0, none⟩) len len) (xs.take k ++ List.replicate (len - k) 0) ∧ Below w.heap.size w wr) (fun t _ => len - (intOf t).toNat)
  case atStart => exact ⟨0, Nat.zero_le _, rfl, hown, hb1⟩
  case round =>
    obtain ⟨k, hk, rfl, hownk, hbk⟩ := hrel
    clear hown hb1
    by_cases hlt : k < len
    · obtain ⟨b, off, rfl, hc, ⟨hx1, hx2⟩, -⟩ := Hel.out k hlt
      have hc' : wr.cell? ⟨b, off + k, none⟩ = some (.int .i64 (xs.getD k 0)) := by rw [hbk.cell (World.block_lt_of_cell? _ _ hc)]; exact hc
      obtain ⟨_, hd, hf⟩ := hownk.at hlt
      have Hst := Lib.hid (OwnP.store hownk k (xs.getD k 0))
      have hbk' : Below w.heap.size w (wr.setCell ⟨w.heap.size, k, none⟩ (.int .i64 (xs.getD k 0))) := hbk.setCell (Nat.le_refl _) _
      generalize hx : xs.getD k 0 = x at *
      have Hx := Lib.hid hx; clear hx hc hownk
      go_wp2
      go_roundw
      case rel =>
        refine ⟨k + 1, by omega, by go_num, ?_, hbk'⟩
        have hl := Hlen.out
        have e := take_set xs 0 k len hlt hl x (getElem?_of_getD (by omega) Hx.out)
        rw [← e]; exact Hst.out
      case measure => simp [intOf]; omega
    · have hke : k = len := by omega
      go_wp2
      go_ret
      have hl := Hlen.out
      refine ⟨_, rfl, ?_, hbk⟩
      rw [hke, Nat.sub_self, List.replicate_zero, List.append_nil, List.take_of_length_le (by omega)] at hownk
      exact OwnP.ints hownk Hmem.out (Nat.le_refl _)

/-- lists are equal, told element by element -/
theorem ints_ne {xs ys : List Int} (k : Nat) (h1 : k < xs.length) (h2 : k < ys.length) (h : xs.getD k 0 ≠ ys.getD k 0) : decide (xs = ys) = false := by
  rw [decide_eq_false_iff_not]; rintro rfl; exact h rfl
theorem ints_eq {xs ys : List Int} (hl : xs.length = ys.length) (h : ∀ k, k < xs.length → xs.getD k 0 = ys.getD k 0) : decide (xs = ys) = true := by
  rw [decide_eq_true_iff]
  apply List.ext_getElem hl
  intro i h1 h2
  have := h i h1
  simpa [h1, h2] using this

set_option maxHeartbeats 400000 in
theorem eqInt64S_c (w : World) (u v : Value) (y z : Zone) (xs ys : List Int) (hx : IntsR y w u xs) (hy : IntsR z w v ys) :
    Calls Try.prog 22 #[u, v] w (RetQ w (.bool (decide (xs = ys)))) := by
  obtain ⟨a, n, cap, rfl, hn, hmax, -, -, -, hel⟩ := IntsR.shape hx
  obtain ⟨b, m, cap', rfl, hm, hmax', -, -, -, hel'⟩ := IntsR.shape hy
  clear hx hy
  have Hn := Lib.hid hn; clear hn
  have Hm := Lib.hid hm; clear hm
  have Hel := Lib.hid hel; clear hel
  have Hel' := Lib.hid hel'; clear hel'
  by_cases hnm : n = m
  · subst hnm
    have Hend : Hid ((∀ k, k < n → xs.getD k 0 = ys.getD k 0) → decide (xs = ys) = true) := fun h => ints_eq (by rw [← Hn.out, ← Hm.out]) (fun k hk => h k (by rw [Hn.out]; exact hk))
    have Hbad : Hid (∀ k, k < n → xs.getD k 0 ≠ ys.getD k 0 → decide (xs = ys) = false) := fun k hk h => ints_ne k (by rw [← Hn.out]; exact hk) (by rw [← Hm.out]; exact hk) h
    clear Hn Hm
    go_enter Try.func22, Try.ntmps22
    go_wp2
    go_loopw [5] (fun t wr => ∃ k : Nat, k ≤ n ∧ t = .int .i64 k ∧ (∀ j, j < k → xs.getD j 0 = ys.getD j 0) ∧ Drew w wr) (fun t _ => n - (intOf t).toNat)
    case atStart => exact ⟨0, Nat.zero_le _, rfl, by simp, Drew.refl _⟩
    case round =>
      obtain ⟨k, hk, rfl, hall, hd⟩ := hrel
      have Hall := Lib.hid hall; clear hall
      by_cases hlt : k < n
      · obtain ⟨b1, o1, rfl, hc1, ⟨hx1, hx2⟩, -⟩ := Hel.out k hlt
        obtain ⟨b2, o2, rfl, hc2, ⟨hy1, hy2⟩, -⟩ := Hel'.out k hlt
        replace hc1 := (hd.cell _).trans hc1
        replace hc2 := (hd.cell _).trans hc2
        have Hgo : Hid (xs.getD k 0 = ys.getD k 0 → ∀ j, j < k + 1 → xs.getD j 0 = ys.getD j 0) := fun h j hj => by
          by_cases e : j = k
          · rw [e]; exact h
          · exact Hall.out j (by omega)
        have Hno := Lib.hid (Hbad.out k hlt)
        clear Hall Hbad Hend Hel Hel'
        generalize xs.getD k 0 = x at *
        generalize ys.getD k 0 = y at *
        by_cases hxy : x = y
        · subst hxy
          go_wp2
          go_quiet (fail)
          go_wp2
          go_roundw
          case rel => exact ⟨k + 1, by omega, by go_num, Hgo.out (by simp), hd.drewN _⟩
          case measure => simp [intOf]; omega
        · have hne : (x == y) = false := by simpa using hxy
          go_wp2
          go_quiet (fail)
          go_wp2
          go_ret
          exact ⟨ret_bool' (Hno.out hxy), hd.drewN _⟩
      · have hkn : k = n := by omega
        go_wp2
        go_ret
        exact ⟨ret_bool' (Hend.out (fun j hj => Hall.out j (by omega))), hd⟩
  · have hd : ((n : Int) == (m : Int)) = false := by rw [beq_eq_false_iff_ne]; omega
    have Hne : Hid (decide (xs = ys) = false) := by
      show decide (xs = ys) = false
      rw [decide_eq_false_iff_not]; rintro rfl; exact hnm (Hn.out.trans Hm.out.symm)
    clear hnm
    go_enter Try.func22, Try.ntmps22
    go_wp2
    go_ret
    exact ⟨ret_bool' Hne.out, Drew.refl _⟩

/-! ### sizes -/
def szLeft (l : Int) (b : Nat) : Int := if l < b then -1 else l - b
theorem szLeft_neg {l : Int} {b : Nat} (h : l < b) : szLeft l b = -1 := by unfold szLeft; rw [if_pos h]
theorem szLeft_pos {l : Int} {b : Nat} (h : ¬ l < b) : szLeft l b = l - b := by unfold szLeft; rw [if_neg h]
theorem szInt64S_c (w : World) (v : Value) (z : Zone) (xs : List Int) (l : Int) (h : IntsR z w v xs) (h0 : 0 ≤ l) (h1 : l ≤ 1048576) :
    Calls Try.prog 47 #[v, .int .i64 l] w (RetQ w (.int .i64 (szLeft l xs.length))) := by
  obtain ⟨a, n, cap, rfl, hn, hmax, -⟩ := IntsR.shape h
  rw [← hn]
  clear h hn
  by_cases hc : l < n
  · rw [szLeft_neg hc]
    go_enter Try.func47, Try.ntmps47
    go_wp2
    go_ret
    exact ⟨rfl, Drew.refl _⟩
  · rw [szLeft_pos hc]
    go_enter Try.func47, Try.ntmps47
    go_wp2
    go_ret
    exact ⟨rfl, Drew.refl _⟩
end Go.Proofs.Ytgagjibjnaappaa
