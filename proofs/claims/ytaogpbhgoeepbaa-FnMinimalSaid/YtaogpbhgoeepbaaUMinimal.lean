/- Proved: IsMinimal: program and reference compute the same, for all arguments. -/
import Derived.Test.YtaogpbhgoeepbaaChecked
import Derived.Test.YtaogpbhgoeepbaaUSets
import Derived.Test.YtaogpbhgoeepbaaURisingFacts
import Derived.Test.YtaogpbhgoeepbaaUClone
import Derived.Test.YtaogpbhgoeepbaaUDelete
namespace Go.Proofs.Ytaogpbhgoeepbaa
open Go.ChangeShapes Go.WideShapes Go.ChangeAt Go.RowKit
set_option linter.unusedVariables false

def without (l : List Int) (k : Nat) : List Int := l.take k ++ l.drop (k + 1)
theorem without_mem {l : List Int} {k : Nat} (h : ∀ x ∈ l, I64 x) : ∀ x ∈ without l k, I64 x := fun x hx => by
  rcases List.mem_append.1 hx with hx | hx
  · exact h x (List.mem_of_mem_take hx)
  · exact h x (List.mem_of_mem_drop hx)
def minimalB (xss : List (List Int)) (l : List Int) : Bool := hitsB xss l && (List.range l.length).all fun k => !hitsB xss (without l k)
theorem minimalB_bad {xss : List (List Int)} {l : List Int} (k : Nat) (hk : k < l.length) (h : hitsB xss (without l k) = true) : minimalB xss l = false := by
  have : ((List.range l.length).all fun k => !hitsB xss (without l k)) = false := by rw [List.all_eq_false]; exact ⟨k, List.mem_range.2 hk, by simp [h]⟩
  unfold minimalB; rw [this]; simp
theorem minimalB_good {xss : List (List Int)} {l : List Int} (h : ∀ k, k < l.length → hitsB xss (without l k) = false) : minimalB xss l = hitsB xss l := by
  have : ((List.range l.length).all fun k => !hitsB xss (without l k)) = true := by rw [List.all_eq_true]; intro k hk; simp [h k (List.mem_range.1 hk)]
  unfold minimalB; rw [this]; simp

set_option maxRecDepth 20000 in
set_option maxHeartbeats 1000000 in
theorem isMinimal_c (w : World) (u v : Value) (y z : Zone) (xss : List (List Int)) (l : List Int) (h : RowsR y w u xss) (h' : IntsR z w v l) (hl : l.length ≤ 1099511627776) :
    Calls Try.prog 76 #[u, v] w (Ret w fun r _ => r = .bool (minimalB xss l)) := by
  have hmem := IntsR.mem h'
  obtain ⟨a, n, cap, rfl, hn, hmx, -⟩ := SliceR.shape h'
  have hl' : n ≤ 1099511627776 := by omega
  have Hn := Lib.hid hn
  have Hm := Lib.hid hmem
  have Hl := Lib.hid hl
  clear hn hmem hl
  go_enter Try.func76, Try.ntmps76
  go_wp2_with fail
  go_loopw [5, 8] (fun _ t wr => ∃ k : Nat, k ≤ n ∧ t = .int .i64 k ∧ (∀ j, j < k → hitsB xss (without l j) = false) ∧ Below w.heap.size w wr) (fun _ t _ => n - (intOf t).toNat)
  case atStart => exact ⟨0, Nat.zero_le _, rfl, by simp, Below.refl _ _⟩
  case round =>
    obtain ⟨k, hk, rfl, hall, hb⟩ := hrel
    have Hall := Lib.hid hall; clear hall
    have hbs := hb.size
    by_cases hlt : k < n
    · have Hgo : Hid (hitsB xss (without l k) = false → ∀ j, j < k + 1 → hitsB xss (without l j) = false) := fun hp j hj => by
        by_cases e : j = k
        · subst e; exact hp
        · exact Hall.out j (by omega)
      have Hbad : Hid (hitsB xss (without l k) = true → minimalB xss l = false) := fun hp => minimalB_bad k (by have := Hn.out; omega) hp
      go_wp2_with fail
      refine Calls.mono (Clone_c wr _ z l (stable_ints.below h' hb) Hl.out) ?_
      rintro e w2 ⟨r2, rfl, o2, b2⟩
      have hbs2 := b2.size
      have hdel : Calls Try.prog 115 #[r2, .int .i64 k, .int .i64 ((k : Int) + 1)] w2 (DelPost wr.heap.size w2 (without l k)) := Delete_c w2 wr.heap.size r2 l o2 Hm.out k (k + 1) (by omega) (by have := Hn.out; omega)
      go_wp2_with fail
      refine Calls.mono hdel ?_
      rintro e w3 ⟨r3, rfl, r3r, b3⟩
      clear hdel o2
      have hbs3 := b3.size
      have b3' : Below w.heap.size w w3 := (hb.trans (b2.mono hbs)).trans (b3.mono hbs)
      have hcall := hits_c w3 u r3 _ _ xss (without l k) (stable_rows.below h b3') r3r
      clear r3r
      generalize hitsB xss (without l k) = q at *
      go_wp2_with fail
      refine Calls.mono hcall ?_
      rintro e w4 ⟨r4, rfl, rfl, b4⟩
      clear hcall
      have b4' := b3'.trans (b4.mono b3'.size)
      clear b2 b3 b4 hb
      cases q with
      | true =>
        go_wp2_with fail
        go_ret
        exact ⟨_, rfl, congrArg Value.bool (Hbad.out (by simp)).symm, b4'⟩
      | false =>
        go_wp2_with fail
        go_roundw
        case rel => exact ⟨k + 1, by omega, by go_num, Hgo.out (by simp), b4'⟩
        case measure => simp [intOf]; omega
    · have HG := Lib.hid (minimalB_good (xss := xss) (fun j hj => Hall.out j (by have := Hn.out; omega)))
      have hcall := hits_c wr u _ _ _ xss l (stable_rows.below h hb) (stable_ints.below h' hb)
      generalize hitsB xss l = q at *
      go_wp2_with fail
      refine Calls.mono hcall ?_
      rintro e w4 ⟨r4, rfl, rfl, b4⟩
      go_wp2_with fail
      go_ret
      exact ⟨_, rfl, congrArg Value.bool HG.out.symm, hb.trans (b4.mono hbs)⟩

set_option maxRecDepth 20000 in
set_option maxHeartbeats 2000000 in
theorem l26Minimal_c (w : World) (u v : Value) (y z : Zone) (xss : List (List Int)) (l : List Int) (h : RowsR y w u xss) (h' : IntsR z w v l) (hl : l.length ≤ 1099511627776) :
    Calls Try.prog 73 #[u, v] w (Ret w fun r _ => r = .bool (minimalB xss l)) := by
  have hmem := IntsR.mem h'
  have hc0 := l26Hits_c w u v _ _ xss l h h'
  obtain ⟨a, n, cap, rfl, hn, hmx, hnc, hcm, -, hsel⟩ := SliceR.shape h'
  have hl' : n ≤ 1099511627776 := by omega
  have Hn := Lib.hid hn
  have Hm := Lib.hid hmem
  have Hl := Lib.hid hl
  have Hsel : Hid (∀ i, i < n → ∃ b off, a = some ⟨b, off, none⟩) := fun i hi => by
    obtain ⟨b, off, he, -⟩ := hsel i (by omega)
    exact ⟨b, off, he⟩
  clear hn hmem hl hsel
  cases hq0 : hitsB xss l with
  | false =>
    have HF : Hid (minimalB xss l = false) := by show _ = _; unfold minimalB; rw [hq0]; rfl
    rw [hq0] at hc0
    clear hq0
    go_enter Try.func73, Try.ntmps73
    go_wp2_with fail
    refine Calls.mono hc0 ?_
    rintro e w1 ⟨rfl, hd⟩
    go_wp2_with fail
    go_ret
    exact ⟨_, rfl, congrArg Value.bool HF.out.symm, hd.below _⟩
  | true =>
    have HQ := Lib.hid hq0
    rw [hq0] at hc0
    clear hq0
    go_enter Try.func73, Try.ntmps73
    go_wp2_with fail
    refine Calls.mono hc0 ?_
    rintro e w1 ⟨rfl, hd⟩
    clear hc0
    go_wp2_with fail
    go_loopw [5] (fun t wr => ∃ k : Nat, k ≤ n ∧ t = .int .i64 k ∧ (∀ j, j < k → hitsB xss (without l j) = false) ∧ Below w.heap.size w wr) (fun t _ => n - (intOf t).toNat)
    case atStart => exact ⟨0, Nat.zero_le _, rfl, by simp, hd.below _⟩
    case round =>
      obtain ⟨k, hk, rfl, hall, hb⟩ := hrel
      have Hall := Lib.hid hall; clear hall
      have hbs := hb.size
      by_cases hlt : k < n
      · have Hgo : Hid (hitsB xss (without l k) = false → ∀ j, j < k + 1 → hitsB xss (without l j) = false) := fun hp j hj => by
          by_cases e : j = k
          · subst e; exact hp
          · exact Hall.out j (by omega)
        have Hbad : Hid (hitsB xss (without l k) = true → minimalB xss l = false) := fun hp => minimalB_bad k (by have := Hn.out; omega) hp
        obtain ⟨b, off, rfl⟩ := Hsel.out k hlt
        have hkc : k ≤ cap := by omega
        go_wp2_with fail
        have hown := fun wq (hbq : Below wr.heap.size wr wq) => l01Own_c wq _ z (l.take k) (SliceR.front (stable_ints.below h' (hb.trans (hbq.mono hbs))) k (by omega)) (by simp; have := Hl.out; omega)
        have HO := Lib.hid hown
        clear hown
        have k1 : IntKind.i64.wrap ((k : Int) + 1) = (k : Int) + 1 := IntWalk.i64_in _ (by omega)
        have k2 : (0 : Int) ≤ (k : Int) + 1 := by omega
        have k3 : ((k : Int) + 1).toNat = k + 1 := by omega
        have k4 : (k : Int) + 1 ≤ (n : Int) := by omega
        go_region_law (first | (refine step_appendR (f := Value.int .i64) (e := 2) (xs := l.take k) (ys := l.drop (k + 1)) rfl _ _ 25 rfl 0 8 Try.underlying25 Try.infoI64 rfl (fun _ => rfl) rfl o2 (E := IntR) (fun h => h.1) rfl (SliceR.rest (stable_ints.below h' b2') (k + 1) (by omega) rfl) (by simp; have := Hn.out; have := Hl.out; omega) (by omega) b2s ?_; intro r3 w3 o3 g3) | (go_simp; go_at_call 106; refine (HO.out _ ((Below.refl _ _).drew)).mono ?_; rintro e w2 ⟨r2, rfl, o2, b2⟩; have b2' := hb.trans (((Below.refl _ _).drew.trans b2).mono hbs); have b2s := b2.size))
        all_goals
          generalize (if cap = k + 1 then some (⟨b, off, none⟩ : Addr) else some ⟨b, off + (k + 1), none⟩) = ao
          clear k1 k2 k3 k4
          have b2t : wr.heap.size ≤ w2.heap.size := b2s
          have o2' : OwnP (Value.int .i64) 2 wr.heap.size w2 r2 (l.take k) := o2
          have b3 : Below w.heap.size w w3 := b2'.grown g3 (by omega) (fun j hj => by have := (o2'.block j hj).1; omega)
          have hm3 : ∀ x ∈ l.take k ++ l.drop (k + 1), I64 x := without_mem Hm.out
          have hcall := l26Hits_c w3 u r3 _ _ xss (without l k) (stable_rows.below h b3) (OwnP.ints o3 hm3 (Nat.le_refl _))
          clear b2 b2' b2s b2t o2 o2' g3 hm3 hb
          generalize hitsB xss (without l k) = q at *
          go_wp2_with fail
          refine Calls.mono hcall ?_
          rintro e w4 ⟨rfl, hd4⟩
          clear hcall
          cases q with
          | true =>
            go_wp2_with fail
            go_ret
            exact ⟨_, rfl, congrArg Value.bool (Hbad.out (by simp)).symm, b3.trans (hd4.below _)⟩
          | false =>
            go_wp2_with fail
            go_roundw
            case rel => exact ⟨k + 1, by omega, by go_num, Hgo.out (by simp), b3.trans (hd4.below _)⟩
            case measure => simp [intOf]; omega
      · have HG := Lib.hid (minimalB_good (xss := xss) (fun j hj => Hall.out j (by have := Hn.out; omega)))
        have HF : Hid (minimalB xss l = true) := by show _ = _; rw [HG.out, HQ.out]
        go_wp2_with fail
        go_ret
        exact ⟨_, rfl, congrArg Value.bool HF.out.symm, hb⟩

def isMinimalR (n : Int) (xss : List (List Int)) (l : List Int) : Bool × Int := if setsCode n xss l = 0 then (minimalB xss l, 0) else (false, setsCode n xss l)
theorem isMinimalR_ok {n : Int} {xss : List (List Int)} {l : List Int} (h : setsCode n xss l = 0) : isMinimalR n xss l = (minimalB xss l, 0) := by unfold isMinimalR; rw [if_pos h]
theorem isMinimalR_no {n : Int} {xss : List (List Int)} {l : List Int} (h : setsCode n xss l ≠ 0) : isMinimalR n xss l = (false, setsCode n xss l) := by unfold isMinimalR; rw [if_neg h]
theorem areSets_n {n : Int} {xss : List (List Int)} (h : areSets n xss = true) : 1 ≤ n ∧ n ≤ 12 := by
  unfold areSets at h
  simp only [Bool.and_eq_true, decide_eq_true_eq] at h
  exact h.1.1
theorem setsCode_zero {n : Int} {xss : List (List Int)} {l : List Int} (h : setsCode n xss l = 0) : areSets n xss = true ∧ rising l n = true ∧ l.length ≤ 12 := by
  unfold setsCode at h
  by_cases h1 : areSets n xss = true
  · rw [if_pos h1] at h
    by_cases h2 : rising l n = true
    · have := areSets_n h1
      have := rising_length h2
      exact ⟨h1, h2, by omega⟩
    · rw [if_neg h2] at h; cases h
  · rw [if_neg h1] at h; cases h

theorem IsMinimal_c (w : World) (u v : Value) (y z : Zone) (xss : List (List Int)) (l : List Int) (n : Int) (hn : I64 n) (h : RowsR y w u xss) (h' : IntsR z w v l) :
    Calls Try.prog 37 #[.int .i64 n, u, v] w (Ret w fun r _ => r = BoolCode (isMinimalR n xss l)) := by
  have hcall := setsCode_c w u v y z xss l n hn h h'
  by_cases hc : setsCode n xss l = 0
  · have HH := Lib.hid (isMinimalR_ok hc)
    have hl := (setsCode_zero hc).2.2
    rw [hc] at hcall
    go_enter Try.func37, Try.ntmps37
    go_wp2_with fail
    refine Calls.mono hcall ?_
    rintro e w1 ⟨r, rfl, rfl, b1⟩
    go_wp2_with fail
    refine Calls.mono (isMinimal_c w1 u v y z xss l (stable_rows.below h b1) (stable_ints.below h' b1) (by omega)) ?_
    rintro e w2 ⟨r, rfl, rfl, b2⟩
    go_wp2_with fail
    go_ret2
    exact ⟨_, rfl, BoolCode_mk HH.out, b1.trans (b2.mono b1.size)⟩
  · have HH := Lib.hid (isMinimalR_no hc)
    have hb : (setsCode n xss l != 0) = true := by rw [bne_iff_ne]; exact hc
    generalize setsCode n xss l = k at *
    clear hc
    go_enter Try.func37, Try.ntmps37
    go_wp2_with fail
    refine Calls.mono hcall ?_
    rintro e w1 ⟨r, rfl, rfl, b1⟩
    go_wp2_with fail
    go_ret2
    exact ⟨_, rfl, BoolCode_mk HH.out, b1⟩

theorem IsMinimalSpec_c (w : World) (u v : Value) (y z : Zone) (xss : List (List Int)) (l : List Int) (n : Int) (hn : I64 n) (h : RowsR y w u xss) (h' : IntsR z w v l) :
    Calls Try.prog 40 #[.int .i64 n, u, v] w (Ret w fun r _ => r = BoolCode (isMinimalR n xss l)) := by
  have hcall := l26Code_c w u v y z xss l n hn h h'
  by_cases hc : setsCode n xss l = 0
  · have HH := Lib.hid (isMinimalR_ok hc)
    have hl := (setsCode_zero hc).2.2
    rw [hc] at hcall
    go_enter Try.func40, Try.ntmps40
    go_wp2_with fail
    refine Calls.mono hcall ?_
    rintro e w1 ⟨rfl, b1⟩
    go_wp2_with fail
    refine Calls.mono (l26Minimal_c w1 u v y z xss l (stable_rows.drew h b1) (stable_ints.drew h' b1) (by omega)) ?_
    rintro e w2 ⟨r, rfl, rfl, b2⟩
    go_wp2_with fail
    go_ret2
    exact ⟨_, rfl, BoolCode_mk HH.out, (b1.below w.heap.size).trans (b2.mono (b1.below w.heap.size).size)⟩
  · have HH := Lib.hid (isMinimalR_no hc)
    have hb : (setsCode n xss l != 0) = true := by rw [bne_iff_ne]; exact hc
    generalize setsCode n xss l = k at *
    clear hc
    go_enter Try.func40, Try.ntmps40
    go_wp2_with fail
    refine Calls.mono hcall ?_
    rintro e w1 ⟨rfl, b1⟩
    go_wp2_with fail
    go_ret2
    exact ⟨_, rfl, BoolCode_mk HH.out, b1.below _⟩
end Go.Proofs.Ytaogpbhgoeepbaa
