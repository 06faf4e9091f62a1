/- Proved: MinimalHittings as the reference computes it. -/
import Derived.Test.YtaogpbhgoeepbaaChecked
import Derived.Test.YtaogpbhgoeepbaaUOwnOld
import Derived.Test.YtaogpbhgoeepbaaUMinimal
import Derived.Test.YtaogpbhgoeepbaaULeastSpec
import Derived.Test.YtaogpbhgoeepbaaUMinimalsLaw
import Derived.Test.YtaogpbhgoeepbaaURooms
import Derived.Test.YtaogpbhgoeepbaaUGreedyLaw
import Derived.Test.YtaogpbhgoeepbaaUDifferent
namespace Go.Proofs.Ytaogpbhgoeepbaa
open Go.ChangeShapes Go.WideShapes Go.ChangeAt Go.RowKit
set_option linter.unusedVariables false

theorem rows_zones {z : Zone} {w : World} {v : Value} {xss : List (List Int)} (h : RowsR z w v xss) (ho : z.own = true) :
    ∃ (Z : Nat → Zone) (a : Option Addr) (n cap : Nat), v = .slice a n cap ∧ n = xss.length ∧ n ≤ 9223372036854775807 ∧ (∀ i, i < xss.length → (Z i).Sub z) ∧ (∀ i j, i < j → j < xss.length → (Z i).Apart (Z j)) ∧
      ∀ i (hi : i < xss.length), ∃ b off u, a = some ⟨b, off, none⟩ ∧ ∀ w', Same z w w' → w'.cell? ⟨b, off + i, none⟩ = some (slV u) ∧ IntsR (Z i) w' (slV u) xss[i] := by
  obtain ⟨a, cap, rfl, g1, g2, g3, g4⟩ := h
  have hm : xss.length ≤ 9223372036854775807 := by unfold maxLen at g2; omega
  rcases Nat.eq_zero_or_pos xss.length with h0 | hp
  · exact ⟨fun _ => z, a, _, cap, rfl, rfl, hm, fun i hi => by omega, fun i j _ hj => by omega, fun i hi => by omega⟩
  · cases a with
    | none => have := (g3 rfl).1; subst this; simp at hp
    | some ad =>
      obtain ⟨bl, off, sp⟩ := ad
      obtain ⟨k1, k2, k3, k4, Z, k5, k6, k7⟩ := g4 _ rfl hp
      simp only at k1 k2 k3; subst k1
      refine ⟨Z, _, _, cap, rfl, rfl, hm, k5, (k6 ho).2, fun i hi => ?_⟩
      obtain ⟨u, c1, c2⟩ := k7 i hi
      obtain ⟨u', rfl⟩ := slRepr_slice c2
      refine ⟨bl, off, u', rfl, fun w' hs => ⟨?_, stable_ints.keep c2 (hs.sub (k5 i hi))⟩⟩
      rw [← c1]
      unfold World.cell?
      rw [hs bl k2 k3]

section
variable {p : List Int → Bool} {acc l : List (List Int)} {i M : Nat}
def takeTo (p : List Int → Bool) (acc l : List (List Int)) (M i : Nat) : List (List Int) := (acc ++ (l.take i).filter p).take M
theorem takeTo_zero : takeTo p acc l M 0 = acc.take M := by simp [takeTo]
theorem takeTo_skip (h : i < l.length) (hp : p l[i] = false) : takeTo p acc l M (i+1) = takeTo p acc l M i := by
  unfold takeTo
  rw [List.take_add_one, List.getElem?_eq_getElem h, List.filter_append]
  simp [hp]
theorem takeTo_add (h : i < l.length) (hp : p l[i] = true) (hl : (takeTo p acc l M i).length < M) : takeTo p acc l M (i+1) = takeTo p acc l M i ++ [l[i]] := by
  unfold takeTo at *
  rw [List.length_take] at hl
  have hle : (acc ++ (l.take i).filter p).length < M := by omega
  rw [List.take_add_one, List.getElem?_eq_getElem h, List.filter_append, ← List.append_assoc, List.take_of_length_le (Nat.le_of_lt hle), List.take_of_length_le]
  · simp [hp]
  · rw [List.length_append]; simp [hp]; simp at hle; omega
theorem takeTo_full (hl : ¬ (takeTo p acc l M i).length < M) : takeTo p acc l M i = (acc ++ l.filter p).take M := by
  unfold takeTo at *
  rw [List.length_take] at hl
  have e : acc ++ l.filter p = (acc ++ (l.take i).filter p) ++ (l.drop i).filter p := by
    rw [List.append_assoc, ← List.filter_append, List.take_append_drop]
  rw [e, List.take_append_of_le_length (l₁ := acc ++ (l.take i).filter p) (by omega)]
theorem takeTo_end (h : i = l.length) : takeTo p acc l M i = (acc ++ l.filter p).take M := by
  unfold takeTo; rw [h, List.take_length]
theorem takeTo_length : (takeTo p acc l M i).length ≤ M := by unfold takeTo; rw [List.length_take]; omega
end
def accTo (p : List Int → Bool) (n k : Nat) : List (List Int) := ((List.range k).flatMap fun j => choices j n).filter p
theorem accTo_succ (p : List Int → Bool) (n k : Nat) : accTo p n k ++ (choices k n).filter p = accTo p n (k+1) := by
  unfold accTo; rw [List.range_succ, List.flatMap_append, List.filter_append]; simp
def minimalHits (n : Int) (xss : List (List Int)) (most : Int) : List (List Int) × Int :=
  if areSets n xss = true then if inB most 0 60 = true then (((allChoices n.toNat).filter (minimalB xss)).take most.toNat, 0) else ([], 2) else ([], 1)
theorem minimalHits_no {n : Int} {xss : List (List Int)} {most : Int} (h : areSets n xss = false) : minimalHits n xss most = ([], 1) := by unfold minimalHits; rw [if_neg (by simp [h])]
theorem minimalHits_two {n : Int} {xss : List (List Int)} {most : Int} (h : areSets n xss = true) (h' : inB most 0 60 = false) : minimalHits n xss most = ([], 2) := by unfold minimalHits; rw [if_pos h, if_neg (by simp [h'])]
theorem minimalHits_ok {n : Int} {xss : List (List Int)} {most : Int} (h : areSets n xss = true) (h' : inB most 0 60 = true) : minimalHits n xss most = (((allChoices n.toNat).filter (minimalB xss)).take most.toNat, 0) := by unfold minimalHits; rw [if_pos h, if_pos h']

theorem RowsCode_of {w w' : World} {x : List (List Int) × Int} {c : Int} {ys : List (List Int)} {u : Value} (h : x = (ys, c)) (hr : RowsR (.new w w') w' u ys) : RowsCode w x (.tuple #[u, .int .i64 c]) w' := by
  rw [h]; exact ⟨_, rfl, hr⟩
/-- where the rows of out may lie: not in the lists at hand, but for those taken -/
def TakenA (lo : Nat) (zn : Zone) (Z : Nat → Zone) (i : Nat) (k : Nat) : Prop := lo ≤ k ∧ (¬ zn.Has k ∨ ∃ j, j < i ∧ (Z j).Has k)
theorem TakenA.next {lo : Nat} {zn : Zone} {Z : Nat → Zone} {i k : Nat} (h : TakenA lo zn Z i k) : TakenA lo zn Z (i+1) k :=
  ⟨h.1, h.2.elim .inl (fun ⟨j, hj, hk⟩ => .inr ⟨j, by omega, hk⟩)⟩

set_option maxRecDepth 20000 in
set_option maxHeartbeats 1000000 in
theorem MinimalHittingsSpec_c (w : World) (v : Value) (z : Zone) (xss : List (List Int)) (n most : Int) (hn : I64 n) (hm : I64 most) (h : RowsR z w v xss) :
    Calls Try.prog 25 #[.int .i64 n, v, .int .i64 most] w (Ret w fun r w' => RowsCode w (minimalHits n xss most) r w') := by
  have hcall := AreSetsSpec_c w v z xss n hn h
  cases hA : areSets n xss with
  | false =>
    have HH := Lib.hid (minimalHits_no (most := most) hA)
    rw [hA] at hcall
    clear hA
    go_enter Try.func25, Try.ntmps25
    go_wp2_with fail
    refine Calls.mono hcall ?_
    rintro e w1 ⟨rfl, d1⟩
    go_wp2_with fail
    go_ret2
    exact ⟨_, rfl, RowsCode_nil HH.out, d1.below _⟩
  | true =>
    have hcall2 := fun (wq : World) => l01In_c wq most 0 60
    cases hB : inB most 0 60 with
    | false =>
      have HH := Lib.hid (minimalHits_two hA hB)
      rw [hA] at hcall
      rw [hB] at hcall2
      have HC2 := Lib.hid hcall2
      clear hA hB hcall2
      go_enter Try.func25, Try.ntmps25
      go_wp2_with fail
      refine Calls.mono hcall ?_
      rintro e w1 ⟨rfl, d1⟩
      go_wp2_with fail
      refine Calls.mono (HC2.out _) ?_
      rintro e w2 ⟨rfl, d2⟩
      go_wp2_with fail
      go_ret2
      exact ⟨_, rfl, RowsCode_nil HH.out, (d1.trans d2).below _⟩
    | true =>
      have HH := Lib.hid (minimalHits_ok hA hB)
      obtain ⟨h1, h12, -⟩ := areSets_mem hA
      have hmm : 0 ≤ most ∧ most ≤ 60 := by simpa [inB] using hB
      obtain ⟨m, rfl⟩ : ∃ m : Nat, n = m := ⟨n.toNat, by omega⟩
      obtain ⟨M, rfl⟩ : ∃ M : Nat, most = M := ⟨most.toNat, by omega⟩
      have hM : M ≤ 60 := by omega
      have hm12 : m ≤ 12 := by omega
      rw [hA] at hcall
      rw [hB] at hcall2
      have HC2 := Lib.hid hcall2
      rw [Int.toNat_natCast, Int.toNat_natCast] at HH
      clear hA hB hcall2 hmm h1 h12 hn hm
      have HMin := Lib.hid (fun (wq : World) (hb : Ext w wq) (u : Value) (q : Zone) (l : List Int) (hl : IntsR q wq u l) (hll : l.length ≤ 1099511627776) => l26Minimal_c wq v u z q xss l (stable_rows.ext h hb) hl hll)
      generalize minimalB xss = p at *
      have HRes : Hid ((allChoices m).filter p = accTo p m (m + 1)) := rfl
      obtain ⟨av, nv, cv, rfl, -⟩ := SliceR.shape h
      clear h
      go_enter Try.func25, Try.ntmps25
      go_wp2_with fail
      refine Calls.mono hcall ?_
      rintro e w1 ⟨rfl, d1⟩
      go_wp2_with fail
      refine Calls.mono (HC2.out _) ?_
      rintro e w2 ⟨rfl, d2⟩
      have b2 := Ext.ofDrew (d1.trans d2)
      go_wp2_with fail
      generalize hw0 : World.alloc _ _ = w0
      have o0 : OwnR true w.heap.size IntsR 25 w.heap.size w0 (.slice (some ⟨w2.heap.size, 0, none⟩) 0 0) [] := by rw [← hw0]; exact OwnR.empty b2.size
      have b0 : Ext w w0 := by rw [← hw0]; exact b2.trans (Ext.alloc _ _)
      clear hw0 b2 hcall HC2
      go_loopw [8, 9] (fun o t wr => ∃ k : Nat, k ≤ m + 1 ∧ t = .int .i64 k ∧ OwnR true w.heap.size IntsR 25 w.heap.size wr o ((accTo p m k).take M) ∧ Ext w wr) (fun _ t _ => m + 1 - (intOf t).toNat)
      case atStart => exact ⟨0, Nat.zero_le _, rfl, by simpa [accTo] using o0, b0⟩
      case round =>
        obtain ⟨k, hk, rfl, hown, hb⟩ := hrel
        clear o0 b0
        by_cases hlt : k < m + 1
        · have hcall := l11Choices_c k m wr (by omega) (by omega)
          have HAcc := Lib.hid (accTo_succ p m k)
          have HLen : Hid (∀ r ∈ choices k m, r.length ≤ 16) := fun r hr => by
            have := rises_length (mem_choices.1 hr).2; omega
          have Hown := Lib.hid hown
          generalize choices k m = l at *
          generalize accTo p m k = acc at *
          obtain ⟨ao, no, co, rfl, -⟩ := OwnA.shape hown
          clear hown
          go_wp2_with fail
          refine Calls.mono hcall ?_
          rintro e w3 hr3
          obtain ⟨u3, rfl, r3, b3⟩ := ret_ext hr3
          clear hr3 hcall
          have hb3 := hb.trans b3
          have hsz3 := b3.size
          have hszw := hb.size
          obtain ⟨Z, a1, n1, c1, rfl, hn1, hm1, hZs, hZa, hZc⟩ := rows_zones r3 rfl
          have hoff0 : Off (.slice ao no co) wr.heap.size w3.heap.size := Off.of (fun k hk => (OwnA.block Hown.out k hk).2)
          have hown3 : OwnA true (TakenA w.heap.size (.new wr w3) Z 0) IntsR 25 w.heap.size w3 (.slice ao no co) (takeTo p acc l M 0) := by
            rw [takeTo_zero]
            refine OwnA.below stable_ints (OwnA.weaken Hown.out (fun q hq h1 => ⟨h1, .inl (fun h2 => ?_)⟩)) b3
            have := h2.1
            simp only [Zone.new] at this
            omega
          have Hn1 := Lib.hid hn1
          have HZs := Lib.hid hZs
          have HZa := Lib.hid hZa
          have HZc := Lib.hid hZc
          have Hown3 := Lib.hid hown3
          have Hoff0 := Lib.hid hoff0
          clear hn1 hZs hZa hZc r3 hown3 hoff0 Hown
          generalize wr = wo at *
          go_wp2_with fail
          go_loopw [8, 11] (fun o t wi => ∃ i : Nat, i ≤ n1 ∧ t = .int .i64 i ∧ OwnA true (TakenA w.heap.size (.new wo w3) Z i) IntsR 25 w.heap.size wi o (takeTo p acc l M i) ∧ Ext w wi ∧ Same (.new wo w3) w3 wi ∧ w3.heap.size ≤ wi.heap.size ∧ Off o wo.heap.size w3.heap.size) (fun _ t _ => n1 - (intOf t).toNat)
          case atStart => exact ⟨0, Nat.zero_le _, rfl, Hown3.out, hb3, Same.refl _ _, Nat.le_refl _, Hoff0.out⟩
          case round =>
            clear Hown3 Hoff0
            obtain ⟨i, hi, rfl, howni, hbi, hsame, hsz, hoffi⟩ := hrel
            have HTL : Hid ((takeTo p acc l M i).length ≤ 60) := by
              have := takeTo_length (p := p) (acc := acc) (l := l) (M := M) (i := i)
              show _ ≤ _; omega
            obtain ⟨ai, ni, ci, rfl, hni, -⟩ := OwnA.shape howni
            have Hni := Lib.hid hni
            have HFull := Lib.hid (takeTo_full (p := p) (acc := acc) (l := l) (M := M) (i := i))
            have HEnd := Lib.hid (takeTo_end (p := p) (acc := acc) (l := l) (M := M) (i := i))
            have HWeak := Lib.hid (OwnA.weaken (A' := fun q => w.heap.size ≤ q) howni (fun q _ h => h.1))
            by_cases hlti : i < n1
            · have d1 : decide ((i : Int) < (n1 : Int)) = true := by simpa using hlti
              have l1 : i < l.length := by rw [← Hn1.out]; exact hlti
              by_cases hfull : ni < M
              · have d2 : decide ((ni : Int) < (M : Int)) = true := by simpa using hfull
                obtain ⟨b, off, u, rfl, hrow⟩ := HZc.out i l1
                obtain ⟨hcu, hu⟩ := hrow _ hsame
                have hsl : ∀ (wq : World), Same (.new wo w3) w3 wq → wq.cell? ⟨b, off + i, none⟩ = some (slV u) ∧ IntsR (Z i) wq (slV u) l[i] := hrow
                have Hrow := Lib.hid hsl
                have HSk := Lib.hid (takeTo_skip (p := p) (acc := acc) (M := M) l1)
                have HAd := Lib.hid (takeTo_add (p := p) (acc := acc) (M := M) l1)
                have hmin := HMin.out wr hbi _ _ l[i] hu (by have := HLen.out _ (List.getElem_mem l1); omega)
                have Howni := Lib.hid howni
                clear hrow hsl hu hni HFull HEnd HWeak howni
                generalize l[i] = x at *
                obtain ⟨ua, un, uc⟩ := u
                simp only [slV] at hcu hmin
                cases hq : p x with
                | false =>
                  have HT := Lib.hid (HSk.out hq)
                  rw [hq] at hmin
                  clear HSk HAd hq
                  go_wp2_with fail
                  refine Calls.mono hmin ?_
                  rintro e w5 hr5
                  obtain ⟨u5, rfl, rfl, b5⟩ := ret_ext hr5
                  clear hr5 hmin
                  go_wp2_with fail
                  go_roundw
                  case rel => exact ⟨i + 1, by omega, by go_num, by rw [HT.out]; exact OwnA.below stable_ints (OwnA.weaken Howni.out (fun q _ h => h.next)) b5, hbi.trans b5, Same.below hsame hsz b5, Nat.le_trans hsz b5.size, hoffi⟩
                  case measure => simp [intOf]; omega
                | true =>
                  have HT := Lib.hid (HAd.out hq (by rw [← Hni.out]; exact hfull))
                  rw [hq] at hmin
                  clear HSk HAd hq
                  go_wp2_with fail
                  refine Calls.mono hmin ?_
                  rintro e w5 hr5
                  obtain ⟨u5, rfl, rfl, b5⟩ := ret_ext hr5
                  clear hr5 hmin
                  have hsame5 := Same.below hsame hsz b5
                  have hsz5 := Nat.le_trans hsz b5.size
                  obtain ⟨hcu5, hu5⟩ := Hrow.out _ hsame5
                  simp only [slV] at hcu5
                  have hown5 := OwnA.below stable_ints Howni.out b5
                  have hB5 : w.heap.size ≤ w5.heap.size := (hbi.trans b5).size
                  have HZ : Hid (∀ q, (Z i).Has q → TakenA w.heap.size (.new wo w3) Z (i+1) q ∧ q < w5.heap.size ∧ (Value.slice ai ni ci).ownBlock ≠ some q ∧ (true = true → ¬ TakenA w.heap.size (.new wo w3) Z i q)) := fun q hq => by
                    have hzq := (HZs.out i l1).1 q hq
                    have e1 := hzq.1
                    have e2 := hzq.2
                    simp only [Zone.new] at e1 e2
                    refine ⟨⟨by omega, .inr ⟨i, by omega, hq⟩⟩, by omega, fun e => ?_, fun _ ht => ?_⟩
                    · rcases hoffi q e with h | h <;> omega
                    · rcases ht.2 with h | ⟨j, hj, h⟩
                      · exact h hzq
                      · exact HZa.out j i hj l1 q h hq
                  have hZo : (Z i).own = true := (HZs.out i l1).2 rfl
                  have HRun := Lib.hid (fun ty => run_appendOld (P := Try.prog) stable_ints 22 ty Try.underlying22 Try.infoInts (fun q _ h => h.next) hown5 hu5 (fun _ => hZo) HZ.out rfl (by have := HTL.out; omega) hB5)
                  clear hcu hu5 hown5
                  go_wp2_with (at_builtin; (refine wpList_append_of rfl _ _ 22 rfl rfl rfl (fun ty => HRun.out ty) ?_); rintro v7 w7 ⟨hown7, hb7, hg7, hat7⟩)
                  go_roundw
                  case rel => exact ⟨i + 1, by omega, by go_num, by rw [HT.out]; exact hown7, (hbi.trans b5).to' hb7, Same.grown hsame5 hsz5 hg7 hoffi.not, Nat.le_trans hsz5 hg7.size, hoffi.next hsz5 hat7⟩
                  case measure => simp [intOf]; omega
              · have d2 : decide ((ni : Int) < (M : Int)) = false := by rw [decide_eq_false_iff_not]; omega
                have d3 : decide (ni < M) = false := decide_eq_false hfull
                have HF := Lib.hid (HFull.out (by rw [← Hni.out]; exact hfull))
                clear HFull HEnd howni hni hfull
                go_wp2_with fail
                go_roundw
                case rel => exact ⟨k + 1, by omega, by go_num, by rw [← HAcc.out, ← HF.out]; exact HWeak.out, hbi⟩
                case measure => simp [intOf]; omega
            · have d1 : decide ((i : Int) < (n1 : Int)) = false := by rw [decide_eq_false_iff_not]; omega
              have hin : i = n1 := by omega
              have HF := Lib.hid (HEnd.out (by rw [hin]; exact Hn1.out))
              clear HFull HEnd howni hni hin
              go_wp2_with fail
              go_roundw
              case rel => exact ⟨k + 1, by omega, by go_num, by rw [← HAcc.out, ← HF.out]; exact HWeak.out, hbi⟩
              case measure => simp [intOf]; omega
        · obtain rfl : k = m + 1 := by omega
          have HR := Lib.hid (OwnR.reads hown (Nat.le_refl _))
          clear hown
          go_wp2_with fail
          go_ret2
          exact ⟨_, rfl, RowsCode_of (HH.out.trans (by rw [HRes.out])) HR.out, hb⟩
end Go.Proofs.Ytaogpbhgoeepbaa
