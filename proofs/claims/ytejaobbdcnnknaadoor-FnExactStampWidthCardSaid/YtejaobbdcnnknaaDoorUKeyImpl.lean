/- Proved: the first rule that cuts do not keep, as the program tells it. -/
import Derived.Test.YtejaobbdcnnknaaDoorChecked
import Derived.Test.YtejaobbdcnnknaaDoorUKeySpec
import Derived.Test.YtejaobbdcnnknaaDoorUAreCuts
namespace Go.Proofs.YtejaobbdcnnknaaDoor
open Go.ChangeShapes Go.WideShapes Go.ChangeAt Go.RowKit
set_option linter.unusedVariables false

/-- a list that is not empty -/
theorem sameRun_c (w : World) (v : Value) (z : Zone) (xs : List Int) (h : IntsR z w v xs) (hp : 1 ≤ xs.length) :
    Calls Tryd.prog 46 #[v] w (RetQ w (.int .i64 (runAt xs (xs.length - 1)))) := by
  have HI : Hid (∀ r, 1 ≤ r → r ≤ xs.length → (∀ j, j < r → xs.getD (xs.length - 1 - j) 0 = xs.getD (xs.length - 1) 0) → (r = xs.length ∨ xs.getD (xs.length - 1 - r) 0 ≠ xs.getD (xs.length - 1) 0) → runAt xs (xs.length - 1) = r) := fun r h1 h2 h3 h4 => runAt_is xs _ r h1 (by omega) h3 (by rcases h4 with k | k; exact .inl (by omega); exact .inr k)
  generalize runAt xs (xs.length - 1) = res at *
  obtain ⟨a, n, cap, rfl, hn, hmax, -, -, -, hel⟩ := IntsR.shape h
  rw [← hn] at hp
  clear h
  obtain ⟨b, off, rfl, hc0, -, -⟩ := hel (n-1) (by omega)
  have Hn := Lib.hid hn
  have Hel := Lib.hid hel
  clear hn hel
  have hwn : IntKind.i64.wrap ((n : Int) - 1) = ((n - 1 : Nat) : Int) := by rw [IntWalk.i64_in _ (by omega)]; omega
  go_enter Tryd.func46, Tryd.ntmps46
  go_wp2_with fail
  go_loopw [3] (fun s3 wr => ∃ r : Nat, 1 ≤ r ∧ r ≤ n ∧ s3 = .int .i64 r ∧ (∀ j, j < r → xs.getD (n - 1 - j) 0 = xs.getD (n - 1) 0) ∧ Drew w wr) (fun s3 _ => n - (intOf s3).toNat)
  case atStart => exact ⟨1, Nat.le_refl _, hp, rfl, fun j hj => by obtain rfl : j = 0 := by omega
                                                                   rfl, Drew.refl _⟩
  case round =>
    obtain ⟨r, hr1, hr2, rfl, hall, hd⟩ := hrel
    have Hall := Lib.hid hall
    clear hall
    by_cases hlt : r < n
    · obtain ⟨_, _, he, hc, -, -⟩ := Hel.out (n - 1 - r) (by omega)
      injection he with he; injection he with he1 he2 _
      subst he1; subst he2
      replace hc := (hd.cell _).trans hc
      have hc0' := (hd.cell _).trans hc0
      have hwr : IntKind.i64.wrap (((n - 1 : Nat) : Int) - (r : Int)) = ((n - 1 - r : Nat) : Int) := by rw [IntWalk.i64_in _ (by omega)]; omega
      have Hgo : Hid (xs.getD (n - 1 - r) 0 = xs.getD (n - 1) 0 → ∀ j, j < r + 1 → xs.getD (n - 1 - j) 0 = xs.getD (n - 1) 0) := fun h j hj => by
        by_cases e : j = r
        · rw [e]; exact h
        · exact Hall.out j (by omega)
      have Hno : Hid (xs.getD (n - 1 - r) 0 ≠ xs.getD (n - 1) 0 → res = r) := fun h => by
        have := Hn.out; subst this
        exact HI.out r hr1 (by omega) Hall.out (.inr h)
      have hg : decide (r < n) = true := decide_eq_true hlt
      generalize xs.getD (n - 1 - r) 0 = x at *
      generalize xs.getD (n - 1) 0 = y at *
      by_cases hxy : x = y
      · have HG := Lib.hid (Hgo.out hxy)
        have hb : (x == y) = true := by simpa using hxy
        clear Hgo Hno hxy
        go_wp2_with fail
        go_quiet (fail)
        go_wp2_with fail
        go_roundw
        case rel => exact ⟨r + 1, by omega, by omega, by go_num, HG.out, hd.drewN _⟩
        case measure => simp [intOf]; omega
      · have HN := Lib.hid (Hno.out hxy)
        have hb : (x == y) = false := by simpa using hxy
        clear Hgo Hno hxy
        go_wp2_with fail
        go_quiet (fail)
        go_wp2_with fail
        go_ret
        exact ⟨ret_int (congrArg (fun q : Nat => (q : Int)) HN.out.symm), hd.drewN _⟩
    · have HN : Hid (res = r) := by
        show _ = _
        have := Hn.out; subst this
        exact HI.out r hr1 (by omega) Hall.out (.inl (by omega))
      have hg : decide (r < n) = false := decide_eq_false hlt
      go_wp2_with fail
      go_quiet (fail)
      go_wp2_with fail
      go_ret
      exact ⟨ret_int (congrArg (fun q : Nat => (q : Int)) HN.out.symm), hd.drewN _⟩
end Go.Proofs.YtejaobbdcnnknaaDoor
