/- Proved: the different numbers of a list, ascending, as the reference finds them. -/
import Derived.Test.YtaogpbhgoeepbaaChecked
import Derived.Test.YtaogpbhgoeepbaaUMembers
import Derived.Test.YtaogpbhgoeepbaaUGreedyLaw
namespace Go.Proofs.Ytaogpbhgoeepbaa
open Go.ChangeShapes Go.WideShapes Go.ChangeAt Go.RowKit
set_option linter.unusedVariables false

/-- the least of the first i numbers that is at least k; none: -1 -/
def LeastTo (xs : List Int) (k : Nat) (i : Nat) (m : Int) : Prop :=
  (m = -1 ∧ ∀ j, j < i → xs.getD j 0 < k) ∨ (m ∈ xs ∧ (k : Int) ≤ m ∧ ∀ j, j < i → xs.getD j 0 < k ∨ m ≤ xs.getD j 0)
theorem leastTo_zero (xs : List Int) (k : Nat) : LeastTo xs k 0 (-1) := .inl ⟨rfl, fun _ h => by omega⟩
theorem leastTo_skip {xs : List Int} {k i : Nat} {m : Int} (h : LeastTo xs k i m) (hx : xs.getD i 0 < k ∨ (0 ≤ m ∧ m ≤ xs.getD i 0)) : LeastTo xs k (i+1) m := by
  rcases h with ⟨rfl, h⟩ | ⟨h1, h2, h3⟩
  · refine .inl ⟨rfl, fun j hj => ?_⟩
    by_cases e : j = i
    · subst e; rcases hx with hx | ⟨hx, _⟩
      · exact hx
      · omega
    · exact h j (by omega)
  · refine .inr ⟨h1, h2, fun j hj => ?_⟩
    by_cases e : j = i
    · subst e; rcases hx with hx | ⟨_, hx⟩
      · exact .inl hx
      · exact .inr hx
    · exact h3 j (by omega)
theorem leastTo_take {xs : List Int} {k i : Nat} {m : Int} (h : LeastTo xs k i m) (hi : i < xs.length) (hk : (k : Int) ≤ xs.getD i 0) (hx : m < 0 ∨ xs.getD i 0 < m) : LeastTo xs k (i+1) (xs.getD i 0) := by
  refine .inr ⟨by simp [hi], hk, fun j hj => ?_⟩
  by_cases e : j = i
  · subst e; exact .inr (Int.le_refl _)
  · rcases h with ⟨rfl, h⟩ | ⟨h1, h2, h3⟩
    · exact .inl (h j (by omega))
    · rcases h3 j (by omega) with h | h
      · exact .inl h
      · exact .inr (by omega)
theorem leastTo_end {xs : List Int} {k n : Nat} (h : LeastTo xs k xs.length (-1)) (hk : k ≤ n) : upto (has xs) k = upto (has xs) n := by
  have hs : ∀ x ∈ xs, x < (k : Int) := by
    rcases h with ⟨_, h⟩ | ⟨_, h, _⟩
    · intro x hx
      obtain ⟨j, hj, rfl⟩ := List.getElem_of_mem hx
      have := h j hj
      simpa [hj] using this
    · omega
  refine sorted_ext (upto_pairwise _ _) (upto_pairwise _ _) (fun x => ?_)
  rw [upto_mem, upto_mem]
  constructor
  · rintro ⟨a, b, c⟩; exact ⟨a, by omega, c⟩
  · rintro ⟨a, b, c⟩; exact ⟨a, hs x (has_iff.1 c), c⟩
theorem leastTo_next {xs : List Int} {k m : Nat} (h : LeastTo xs k xs.length (m : Int)) : k ≤ m ∧ has xs (m : Int) = true ∧ upto (has xs) (m+1) = upto (has xs) k ++ [(m : Int)] := by
  rcases h with ⟨h, _⟩ | ⟨h1, h2, h3⟩
  · omega
  · have hm := has_iff.2 h1
    refine ⟨by omega, hm, sorted_ext (upto_pairwise _ _) ?_ (fun x => ?_)⟩
    · rw [List.pairwise_append]
      refine ⟨upto_pairwise _ _, by simp, fun a ha b hb => ?_⟩
      obtain rfl := List.mem_singleton.1 hb
      have := upto_mem.1 ha
      omega
    · rw [List.mem_append, upto_mem, upto_mem, List.mem_singleton]
      constructor
      · rintro ⟨a, b, c⟩
        obtain ⟨j, hj, e⟩ := List.getElem_of_mem (has_iff.1 c)
        have e' : xs.getD j 0 = x := by rw [← e]; simp [hj]
        have := h3 j hj
        rw [e'] at this
        rcases this with h | h
        · exact .inl ⟨a, h, c⟩
        · exact .inr (by omega)
      · rintro (⟨a, b, c⟩ | rfl)
        · exact ⟨a, by omega, c⟩
        · exact ⟨by omega, by omega, hm⟩
theorem upto_last {p : Int → Bool} {j : Nat} (h : p j = true) : ∃ hl : (upto p (j+1)).length - 1 < (upto p (j+1)).length, 0 < (upto p (j+1)).length ∧ (upto p (j+1))[(upto p (j+1)).length - 1] = (j : Int) := by
  have e := upto_yes h
  have hl : (upto p (j+1)).length = (upto p j).length + 1 := by rw [e]; simp
  refine ⟨by omega, by omega, ?_⟩
  simp only [e]
  simp
def slLen : Value → Nat
  | .slice _ n _ => n
  | _ => 0

set_option maxRecDepth 20000 in
set_option maxHeartbeats 1000000 in
theorem l18Different_c (w : World) (v : Value) (z : Zone) (xs : List Int) (N : Nat) (hN : N ≤ 1048576) (hr : ∀ x ∈ xs, 0 ≤ x ∧ x < N) (h : IntsR z w v xs) :
    Calls Try.prog 64 #[v] w (Ret w fun r w' => IntsR (.new w w') w' r (upto (has xs) N)) := by
  obtain ⟨a, len, cap, rfl, hlen, hmax, -, -, -, hel⟩ := IntsR.shape h
  have Hlen := Lib.hid hlen; clear hlen h
  have Hel := Lib.hid hel; clear hel
  have Hr := Lib.hid hr; clear hr
  go_enter Try.func64, Try.ntmps64
  go_wp2_with fail
  generalize hw0 : World.alloc _ _ = w0
  have o0 : OwnP (Value.int .i64) 2 w.heap.size w0 (.slice (some ⟨w.heap.size, 0, none⟩) 0 0) [] := by rw [← hw0]; exact OwnP.empty (Nat.le_refl _)
  have b0 : Ext w w0 := by rw [← hw0]; exact Ext.alloc _ _
  clear hw0
  go_loopw [3] (fun o wr => ∃ k : Nat, k ≤ N ∧ (k = 0 ∨ ∃ j, k = j + 1 ∧ has xs (j : Int) = true) ∧ OwnP (Value.int .i64) 2 w.heap.size wr o (upto (has xs) k) ∧ Ext w wr) (fun o _ => N + 1 - slLen o)
  case atStart => exact ⟨0, Nat.zero_le _, .inl rfl, o0, b0⟩
  case round =>
    obtain ⟨k, hk, hlast, hown, hb⟩ := hrel
    clear o0 b0
    obtain ⟨a1, n1, c1, rfl, hn1, -⟩ := OwnP.shape hown
    have hlk := upto_length (has xs) k
    have F : (n1 = 0 ∧ k = 0) ∨ (0 < n1 ∧ ∃ g, a1 = some ⟨g, 0, none⟩ ∧ wr.cell? ⟨g, n1 - 1, none⟩ = some (.int .i64 ((k : Int) - 1))) := by
      rcases hlast with rfl | ⟨j, rfl, hj⟩
      · exact .inl ⟨by rw [hn1]; rfl, rfl⟩
      · obtain ⟨l1, l2, l3⟩ := upto_last hj
        obtain ⟨g, m, c, e⟩ := OwnP.some_of_ne hown l2
        injection e with e1 e2 e3
        subst e1
        refine .inr ⟨by omega, g, rfl, ?_⟩
        obtain ⟨q1, q2, -⟩ := OwnP.at hown (k := n1 - 1) (by omega)
        rw [q2]
        simp only [hn1, l3]
        congr 2
        omega
    have Hown := Lib.hid hown
    have Hn1 := Lib.hid hn1
    have Hend := Lib.hid (fun h => leastTo_end (xs := xs) (k := k) (n := N) h hk)
    have Hnext := Lib.hid (fun m => leastTo_next (xs := xs) (k := k) (m := m))
    clear hown hn1 hlast
    generalize upto (has xs) k = up at *
    have hn64 : n1 ≤ 1048576 := by have := Hn1.out; omega
    go_wp2_with fail
    go_loopw [4, 5] (fun m t wi => ∃ (i : Nat) (q : Int), i ≤ len ∧ t = .int .i64 i ∧ m = .int .i64 q ∧ LeastTo xs k i q ∧ -1 ≤ q ∧ q < N ∧ Drew wr wi) (fun _ t _ => len - (intOf t).toNat)
    case atStart => exact ⟨0, -1, Nat.zero_le _, rfl, rfl, leastTo_zero _ _, by omega, by omega, Drew.refl _⟩
    case round =>
      obtain ⟨i, q, hi, rfl, rfl, hle, hq1, hq2, hd⟩ := hrel
      have Hle := Lib.hid hle; clear hle
      by_cases hlt : i < len
      · obtain ⟨b, off, rfl, hc, ⟨hx1, hx2⟩, -⟩ := Hel.out i hlt
        have l1 : i < xs.length := by rw [← Hlen.out]; exact hlt
        have hrx := Hr.out (xs.getD i 0) (by simp [l1])
        replace hc := (hd.cell _).trans (hb.cell hc)
        have HS := Lib.hid (leastTo_skip Hle.out)
        have HT := Lib.hid (leastTo_take Hle.out l1)
        clear Hle
        generalize xs.getD i 0 = x at *
        obtain ⟨x0, xN⟩ := hrx
        rcases F with ⟨rfl, rfl⟩ | ⟨hpos, g, rfl, hcell⟩
        · have d1 : ((0 : Int) == 0) = true := rfl
          by_cases c3 : q < 0
          · have d3 : decide (q < 0) = true := by simpa using c3
            have HH := Lib.hid (HT.out (by omega) (.inl c3))
            clear HS HT c3
            go_wp2_with fail
            go_quiet (fail)
            go_wp2_with fail
            go_roundw
            case rel => exact ⟨i + 1, x, by omega, by go_num, rfl, HH.out, by omega, xN, hd.drewN _⟩
            case measure => simp [intOf]; omega
          · have d3 : decide (q < 0) = false := by simpa using c3
            by_cases c4 : x < q
            · have d4 : decide (x < q) = true := by simpa using c4
              have HH := Lib.hid (HT.out (by omega) (.inr c4))
              clear HS HT c4
              go_wp2_with fail
              go_quiet (fail)
              go_wp2_with fail
              go_roundw
              case rel => exact ⟨i + 1, x, by omega, by go_num, rfl, HH.out, by omega, xN, hd.drewN _⟩
              case measure => simp [intOf]; omega
            · have d4 : decide (x < q) = false := by simpa using c4
              have HH := Lib.hid (HS.out (.inr ⟨by omega, by omega⟩))
              clear HS HT c4
              go_wp2_with fail
              go_quiet (fail)
              go_wp2_with fail
              go_roundw
              case rel => exact ⟨i + 1, q, by omega, by go_num, rfl, HH.out, by omega, hq2, hd.drewN _⟩
              case measure => simp [intOf]; omega
        · have d1 : ((n1 : Int) == 0) = false := by simp; omega
          replace hcell := (hd.cell _).trans hcell
          by_cases c2 : (k : Int) - 1 < x
          · have d2 : decide ((k : Int) - 1 < x) = true := by simpa using c2
            by_cases c3 : q < 0
            · have d3 : decide (q < 0) = true := by simpa using c3
              have HH := Lib.hid (HT.out (by omega) (.inl c3))
              clear HS HT c3 c2
              go_wp2_with fail
              go_quiet (fail)
              go_wp2_with fail
              go_roundw
              case rel => exact ⟨i + 1, x, by omega, by go_num, rfl, HH.out, by omega, xN, hd.drewN _⟩
              case measure => simp [intOf]; omega
            · have d3 : decide (q < 0) = false := by simpa using c3
              by_cases c4 : x < q
              · have d4 : decide (x < q) = true := by simpa using c4
                have HH := Lib.hid (HT.out (by omega) (.inr c4))
                clear HS HT c4 c2
                go_wp2_with fail
                go_quiet (fail)
                go_wp2_with fail
                go_roundw
                case rel => exact ⟨i + 1, x, by omega, by go_num, rfl, HH.out, by omega, xN, hd.drewN _⟩
                case measure => simp [intOf]; omega
              · have d4 : decide (x < q) = false := by simpa using c4
                have HH := Lib.hid (HS.out (.inr ⟨by omega, by omega⟩))
                clear HS HT c4 c2
                go_wp2_with fail
                go_quiet (fail)
                go_wp2_with fail
                go_roundw
                case rel => exact ⟨i + 1, q, by omega, by go_num, rfl, HH.out, by omega, hq2, hd.drewN _⟩
                case measure => simp [intOf]; omega
          · have d2 : decide ((k : Int) - 1 < x) = false := by simpa using c2
            have HH := Lib.hid (HS.out (.inl (by omega)))
            clear HS HT c2
            go_wp2_with fail
            go_quiet (fail)
            go_wp2_with fail
            go_roundw
            case rel => exact ⟨i + 1, q, by omega, by go_num, rfl, HH.out, by omega, hq2, hd.drewN _⟩
            case measure => simp [intOf]; omega
      · have hin : i = len := by omega
        have hbi := hb.trans (Ext.ofDrew hd)
        by_cases c3 : q < 0
        · have d3 : decide (q < 0) = true := by simpa using c3
          have eq1 : q = -1 := by omega
          have HH := Lib.hid (Hend.out (by have := Hle.out; rw [hin, Hlen.out, eq1] at this; exact this))
          have HI := Lib.hid (OwnP.ints (Hown.out.ext (Ext.ofDrew hd)) (fun x hx => by rw [HH.out] at hx; exact upto_i64 (by omega) x hx) (Nat.le_refl _))
          clear F Hle Hend Hnext eq1 hin
          go_wp2_with fail
          go_ret
          exact ⟨_, rfl, by rw [← HH.out]; exact HI.out, hbi⟩
        · have d3 : decide (q < 0) = false := by simpa using c3
          obtain ⟨m, rfl⟩ : ∃ m : Nat, q = m := ⟨q.toNat, by omega⟩
          obtain ⟨e1, e2, e3⟩ := Hnext.out m (by have := Hle.out; rw [hin, Hlen.out] at this; exact this)
          have E2 := Lib.hid e2
          have E3 := Lib.hid e3
          have hown5 := Hown.out.ext (Ext.ofDrew hd)
          have hsz := hbi.size
          have hl : up.length ≤ 1048576 := by rw [← Hn1.out]; exact hn64
          clear F Hle Hend Hnext e2 e3 hin
          go_wp2_with (at_builtin; (refine wpList_append1 (f := Value.int .i64) (e := 2) (B := w.heap.size) (xs := up) rfl _ _ 25 rfl 0 8 Try.underlying25 Try.infoI64 rfl (fun _ => rfl) rfl hown5 (m : Int) rfl (by omega) (by omega) hsz ?_); intro v6 w6 hown6 hg6 hb6)
          have hl6 := hown6
          obtain ⟨a6, n6, c6, rfl, hn6, -⟩ := OwnP.shape hl6
          go_roundw
          case rel => exact ⟨m + 1, by omega, .inr ⟨m, rfl, E2.out⟩, by rw [E3.out]; exact hown6, hbi.to' hb6⟩
          case measure => have g1 := Hn1.out; simp only [slLen]; rw [hn6, List.length_append, List.length_singleton]; omega
end Go.Proofs.Ytaogpbhgoeepbaa
