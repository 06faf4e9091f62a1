/- Proved: the least list that hits sets, as the program finds it. -/
import Derived.Test.YtaogpbhgoeepbaaChecked
import Derived.Test.YtaogpbhgoeepbaaUMembers
import Derived.Test.YtaogpbhgoeepbaaUSets
import Derived.Test.YtaogpbhgoeepbaaUSetsFacts
namespace Go.Proofs.Ytaogpbhgoeepbaa
open Go.ChangeShapes Go.WideShapes Go.ChangeAt Go.RowKit
set_option linter.unusedVariables false

/-- the best list so far; none: a slice that is nil -/
def BestR (e : TypeId) (B : Nat) (w : World) (v : Value) : Option (List Int) → Prop
  | none => v = .slice none 0 0
  | some b => OwnP (Value.int .i64) e B w v b ∧ ∃ g m c, v = .slice (some ⟨g, 0, none⟩) m c
theorem BestR.ext {e : TypeId} {B : Nat} {w w' : World} {v : Value} {o : Option (List Int)} (h : BestR e B w v o) (he : Ext w w') : BestR e B w' v o := by
  cases o with
  | none => exact h
  | some b => exact ⟨h.1.ext he, h.2⟩
/-- the list, none: empty -/
def leastL (p : List Int → Bool) (n : Nat) : List Int := (bestOf p (allSets n)).getD []
def bestUpto (p : List Int → Bool) (n s : Nat) : Option (List Int) := bestOf p ((List.range s).map (bitsL n))
theorem bestUpto_succ (p : List Int → Bool) (n s : Nat) : bestUpto p n (s+1) = bestStep p (bestUpto p n s) (bitsL n s) := by
  unfold bestUpto bestOf; rw [List.range_succ, List.map_append, List.foldl_append]; rfl
theorem bestUpto_all (p : List Int → Bool) (n : Nat) : bestUpto p n (2 ^ n) = bestOf p (allSets n) := rfl
theorem bitsL_i64 {n s : Nat} (hn : n ≤ 40) : ∀ x ∈ bitsL n s, I64 x := upto_i64 (by omega)
theorem bestUpto_i64 {p : List Int → Bool} {n s : Nat} (hn : n ≤ 40) {b : List Int} (h : bestUpto p n s = some b) : ∀ x ∈ b, I64 x := by
  have := bestOf_is p ((List.range s).map (bitsL n))
  unfold bestUpto at h
  rw [h] at this
  obtain ⟨q, -, rfl⟩ := List.mem_map.1 this.1
  exact bitsL_i64 hn

theorem shl_run (n : Nat) (h2 : n ≤ 12) : wrap64 (2 ^ n) = ((2 ^ n : Nat) : Int) := by
  have h : ((2 ^ n : Nat) : Int) = (2 : Int) ^ n := Int.natCast_pow 2 n
  have hle : 2 ^ n ≤ 4096 := Nat.le_trans (Nat.pow_le_pow_right (by omega) h2) (by decide)
  rw [← h]
  generalize 2 ^ n = N at *
  unfold wrap64; omega

set_option maxRecDepth 20000 in
set_option maxHeartbeats 1000000 in
theorem leastHitting_c (w : World) (v : Value) (z : Zone) (xss : List (List Int)) (n : Nat) (h12 : n ≤ 12) (h : RowsR z w v xss) :
    Calls Try.prog 57 #[.int .i64 n, v] w (Ret w fun r w' => IntsR (.new w w') w' r (leastL (hitsB xss) n)) := by
  have hHit := fun (wq : World) (hb : Ext w wq) (u : Value) (q : Zone) (l : List Int) (hl : IntsR q wq u l) => hits_c wq v u z q xss l (stable_rows.ext h hb) hl
  have HE : Hid (leastL (hitsB xss) n = (bestUpto (hitsB xss) n (2 ^ n)).getD []) := rfl
  have hsh := shl_run n h12
  generalize hitsB xss = p at *
  generalize leastL p n = res at *
  obtain ⟨N, hN⟩ : ∃ N, 2 ^ n = N := ⟨_, rfl⟩
  have hN2 : N ≤ 4096 := by rw [← hN]; exact Nat.le_trans (Nat.pow_le_pow_right (by omega) h12) (by decide)
  have HN := Lib.hid hN
  rw [hN] at hsh HE
  clear hN
  have HHit := Lib.hid hHit; clear hHit
  obtain ⟨av, nv, cv, rfl, -⟩ := SliceR.shape h
  clear h
  go_enter Try.func57, Try.ntmps57
  go_wp2_with fail
  generalize wrap64 (2 ^ n) = M at *
  subst hsh
  go_loopw [5, 10] (fun o t wr => ∃ s : Nat, s ≤ N ∧ t = .int .i64 s ∧ BestR 2 w.heap.size wr o (bestUpto p n s) ∧ Ext w wr) (fun _ t _ => N - (intOf t).toNat)
  case atStart => exact ⟨0, Nat.zero_le _, rfl, rfl, Ext.refl _⟩
  case round =>
    obtain ⟨s, hs, rfl, hbest, hb⟩ := hrel
    have hbs := hb.size
    by_cases hlt : s < N
    · have hm := members_c wr n s (by omega) (by rw [HN.out]; exact hlt)
      have HB := Lib.hid (bestUpto_succ p n s)
      have HI : Hid (∀ b, bestUpto p n s = some b → ∀ x ∈ b, I64 x) := fun b hb => bestUpto_i64 (by omega) hb
      have HM : Hid (∀ x ∈ bitsL n s, I64 x) := bitsL_i64 (by omega)
      generalize bitsL n s = x at *
      go_wp2_with fail
      refine Calls.mono hm ?_
      rintro e w1 hr1
      obtain ⟨u1, rfl, ⟨o1, g1, m1, c1, rfl⟩, b1⟩ := ret_ext hr1
      clear hr1 hm
      have i1 := OwnP.ints o1 HM.out (Nat.le_refl _)
      have hb1 := hb.trans b1
      have hbest1 := hbest.ext b1
      have o1' := OwnP.lower o1 hbs
      clear hbest
      go_wp2_with fail
      refine Calls.mono (HHit.out _ hb1 _ _ _ i1) ?_
      rintro e w2 hr2
      obtain ⟨u2, rfl, rfl, b2⟩ := ret_ext hr2
      clear hr2
      have hb2 := hb1.trans b2
      have hbest2 := hbest1.ext b2
      have o2 := o1'.ext b2
      replace i1 := stable_ints.ext i1 b2
      clear hbest1 o1 o1' HHit
      cases hp : p x with
      | false =>
        have HS : Hid (bestUpto p n (s + 1) = bestUpto p n s) := by
          show _ = _; rw [HB.out]; unfold bestStep; rw [hp]; cases bestUpto p n s <;> simp
        clear HB HI hp
        go_wp2_with fail
        go_roundw
        case rel => exact ⟨s + 1, by omega, by go_num, by rw [HS.out]; exact hbest2, hb2⟩
        case measure => simp [intOf]; omega
      | true =>
        generalize hbo : bestUpto p n s = bo at *
        cases bo with
        | none =>
          have HS : Hid (bestUpto p n (s + 1) = some x) := by
            show _ = _; rw [HB.out]; unfold bestStep; simp [hp]
          obtain rfl := hbest2
          have heq : ∀ wq, (binOp .eql 25 (.slice none 0 0) (.slice none 0 0)).run Try.prog wq = .ok (.bool true) wq := fun wq => Lib.run_eql_slice_nil (P := Try.prog) wq 25 2 none 0 0 0 0 Try.underlying25
          clear HB HI hp hbo
          go_wp2_with fail
          go_roundw
          case rel => exact ⟨s + 1, by omega, by go_num, by rw [HS.out]; exact ⟨o2, _, _, _, rfl⟩, hb2⟩
          case measure => simp [intOf]; omega
        | some b =>
          have HS : Hid (bestUpto p n (s + 1) = if lessL x b = true then some x else some b) := by
            show _ = _; rw [HB.out]; unfold bestStep; simp [hp]
          have hib := HI.out b rfl
          obtain ⟨ob, gb, mb, cb, rfl⟩ := hbest2
          have hcall := fewerOrLess_c w2 _ _ _ _ x b i1 (OwnP.ints ob hib (Nat.le_refl _))
          have heq := fun (wq : World) => Lib.run_eql_slice_nil (P := Try.prog) wq 25 2 (some ⟨gb, 0, none⟩) mb cb 0 0 Try.underlying25
          generalize lessL x b = q at *
          clear HB HI hp hbo hib
          cases q with
          | true =>
            have HS2 := Lib.hid (HS.out.trans rfl)
            clear HS
            go_wp2_with fail
            refine Calls.mono hcall ?_
            rintro e w5 ⟨rfl, hd5⟩
            clear hcall
            go_wp2_with fail
            go_roundw
            case rel => exact ⟨s + 1, by omega, by go_num, by rw [HS2.out]; exact ⟨o2.ext (Ext.ofDrew hd5), _, _, _, rfl⟩, hb2.trans (Ext.ofDrew hd5)⟩
            case measure => simp [intOf]; omega
          | false =>
            have HS2 : Hid (bestUpto p n (s + 1) = some b) := Lib.hid (HS.out.trans (by simp))
            clear HS
            go_wp2_with fail
            refine Calls.mono hcall ?_
            rintro e w5 ⟨rfl, hd5⟩
            clear hcall
            go_wp2_with fail
            go_roundw
            case rel => exact ⟨s + 1, by omega, by go_num, by rw [HS2.out]; exact ⟨ob.ext (Ext.ofDrew hd5), _, _, _, rfl⟩, hb2.trans (Ext.ofDrew hd5)⟩
            case measure => simp [intOf]; omega
    · obtain rfl : s = N := by omega
      have hR : ∀ o, BestR 2 w.heap.size wr u5 o → (∀ b, o = some b → ∀ x ∈ b, I64 x) → IntsR (.new w wr) wr u5 (o.getD []) := fun o ho hi => by
        cases o with
        | none => obtain rfl := ho; exact SliceR.nil _ _ _
        | some b => exact OwnP.ints ho.1 (hi b rfl) (Nat.le_refl _)
      have HR := Lib.hid (hR _ hbest (fun b hb => bestUpto_i64 (by omega) hb))
      clear hR hbest
      go_wp2_with fail
      go_ret
      exact ⟨_, rfl, by rw [HE.out]; exact HR.out, hb⟩
end Go.Proofs.Ytaogpbhgoeepbaa
