/- Proved: the least list that hits sets, as the reference finds it. -/
import Derived.Test.YtbkijealdjghgaaChecked
import Derived.Test.YtbkijealdjghgaaULeastImpl
import Derived.Test.YtbkijealdjghgaaUPkA
namespace Go.Proofs.Ytbkijealdjghgaa
open Go.ChangeShapes Go.WideShapes Go.ChangeAt Go.RowKit
set_option linter.unusedVariables false

theorem choices_few : ∀ k n : Nat, (choices k n).length ≤ 2 ^ n
  | 0, n => by simp [choices, Nat.one_le_two_pow]
  | k+1, n => by
    have h : ∀ m, m ≤ n → ((List.range m).flatMap (choicesBy k n)).length + 2 ^ (n - m) ≤ 2 ^ n := by
      intro m
      induction m with
      | zero => intro _; simp
      | succ m ih =>
        intro hm
        have h1 := ih (by omega)
        rw [List.range_succ, List.flatMap_append, List.length_append]
        have h2 : ((choicesBy k n m)).length ≤ 2 ^ (n - m - 1) := by unfold choicesBy; rw [List.length_map]; exact choices_few k _
        have e : 2 ^ (n - m) = 2 ^ (n - m - 1) * 2 := by rw [← Nat.pow_succ]; congr 1; omega
        have e2 : n - (m + 1) = n - m - 1 := by omega
        simp only [List.flatMap_cons, List.flatMap_nil, List.append_nil]
        rw [e2]; omega
    have := h (n - k) (by omega)
    have := Nat.two_pow_pos (n - (n - k))
    rw [choices_succ]; omega
def flatUpto (k n f : Nat) : List (List Int) := (List.range f).flatMap (choicesBy k n)
theorem flatUpto_succ (k n f : Nat) : flatUpto k n (f+1) = flatUpto k n f ++ choicesBy k n f := by unfold flatUpto; rw [List.range_succ, List.flatMap_append]; simp
theorem flatUpto_all (k n : Nat) : flatUpto k n (n - k) = choices (k+1) n := rfl
theorem flatUpto_few {k n f : Nat} (hf : f ≤ n - k) : (flatUpto k n f).length ≤ 2 ^ n := by
  refine Nat.le_trans ?_ (choices_few (k+1) n)
  rw [← flatUpto_all]
  obtain ⟨d, hd⟩ : ∃ d, n - k = f + d := ⟨n - k - f, by omega⟩
  rw [hd]
  clear hd hf
  induction d with
  | zero => exact Nat.le_refl _
  | succ d ih => rw [← Nat.add_assoc, flatUpto_succ, List.length_append]; omega
def shifted (f : Nat) (r : List Int) : List Int := (f : Int) :: r.map (· + f + 1)
theorem choicesBy_eq (k n f : Nat) : choicesBy k n f = (choices k (n - f - 1)).map (shifted f) := rfl
theorem map_take_succ {α β : Type} (g : α → β) {l : List α} {i : Nat} (h : i < l.length) : (l.take (i+1)).map g = (l.take i).map g ++ [g l[i]] := by
  rw [List.take_succ_eq_append_getElem h, List.map_append]; rfl
def shiftedTo (f : Nat) (r : List Int) (j : Nat) : List Int := (f : Int) :: (r.take j).map (· + f + 1)
theorem shiftedTo_succ {f : Nat} {r : List Int} {j : Nat} (h : j < r.length) : shiftedTo f r (j+1) = shiftedTo f r j ++ [r[j] + f + 1] := by
  unfold shiftedTo; rw [map_take_succ _ h]; rfl
theorem shiftedTo_all (f : Nat) (r : List Int) : shiftedTo f r r.length = shifted f r := by unfold shiftedTo shifted; rw [List.take_length]

set_option maxRecDepth 100000 in
set_option maxHeartbeats 4000000 in
theorem l11Choices_c : ∀ (k n : Nat) (w : World), n ≤ 16 → k ≤ 16 → Calls Try.prog 52 #[.int .i64 n, .int .i64 k] w (Ret w fun r w' => RowsR (.new w w') w' r (choices k n))
  | 0, n, w, hn, _ => by
    go_enter Try.func52, Try.ntmps52
    go_wp2_with fail
    go_ret
    refine ⟨_, rfl, ?_, (Ext.alloc _ _).trans (Ext.alloc _ _)⟩
    have h1 : IntsR (.new w (w.alloc (.cells #[] 2))) (w.alloc (.cells #[] 2)) (slV (some ⟨w.heap.size, 0, none⟩, 0, 0)) [] := OwnP.ints (OwnP.empty (Nat.le_refl _)) (by simp) (Nat.le_refl _)
    have h2 := SliceR.one (e := 29) stable_ints h1 (Nat.le_refl _) (lo := w.heap.size) (Nat.le_refl _) (by simp)
    simpa [choices, slV, Zone.new] using h2
  | k+1, n, w, hn, hk16 => by
    have IH := Lib.hid (fun (m : Nat) (wq : World) (hm : m ≤ 16) => l11Choices_c k m wq hm (by omega))
    have h2n : 2 ^ n ≤ 65536 := Nat.le_trans (Nat.pow_le_pow_right (by omega) hn) (by decide)
    have HA := Lib.hid (flatUpto_all k n)
    generalize choices (k+1) n = res at *
    rw [show ((k + 1 : Nat) : Int) = (k : Int) + 1 from by omega]
    have hk0 : (((k : Int) + 1) == 0) = false := by rw [beq_eq_false_iff_ne]; omega
    go_enter Try.func52, Try.ntmps52
    go_wp2_with fail
    generalize hw0 : World.alloc w _ = w0
    have b0 : Ext w w0 := by rw [← hw0]; exact Ext.alloc _ _
    have o0 : OwnR true w.heap.size IntsR 29 w.heap.size w0 (.slice (some ⟨w.heap.size, 0, none⟩) 0 0) [] := by rw [← hw0]; exact OwnR.empty (Nat.le_refl _)
    clear hw0
    go_wp2_with fail
    go_loopw [5, 6] (fun o s wr => ∃ f : Nat, f ≤ n - k ∧ s = .int .i64 f ∧ OwnR true w.heap.size IntsR 29 w.heap.size wr o (flatUpto k n f) ∧ Ext w wr) (fun _ s _ => n + 1 - (intOf s).toNat)
    case atStart => exact ⟨0, Nat.zero_le _, rfl, o0, b0⟩
    case round =>
      clear o0 b0
      obtain ⟨f, hf, rfl, hown, hb⟩ := hrel
      by_cases hlt : f < n - k
      · have HF := Lib.hid (flatUpto_succ k n f)
        have HFL : Hid ((flatUpto k n f).length + (choicesBy k n f).length ≤ 65536) := by
          have := flatUpto_few (k := k) (n := n) (f := f + 1) (by omega)
          rw [flatUpto_succ, List.length_append] at this
          show _ ≤ _; omega
        have hIH := IH.out (n - f - 1) wr (by omega)
        have hcast : (((n - f - 1 : Nat)) : Int) = (n : Int) - f - 1 := by omega
        rw [hcast] at hIH
        rw [choicesBy_eq] at HF HFL
        have HM : Hid (∀ r ∈ choices k (n - f - 1), ∀ x ∈ r, 0 ≤ x ∧ x ≤ 16) := fun r hr x hx => by
          have := (mem_choices.1 hr).2.2 x hx; omega
        have HML : Hid (∀ r ∈ choices k (n - f - 1), r.length ≤ 16) := fun r hr => by
          have := rises_length (mem_choices.1 hr).2; omega
        clear hcast
        generalize choices k (n - f - 1) = rest at *
        generalize flatUpto k n f = up at *
        go_wp2_with fail
        refine Calls.mono hIH ?_
        rintro e w1 hr1
        obtain ⟨u1, rfl, r1, b1⟩ := ret_ext hr1
        clear hr1 hIH
        have hown1 := OwnR.below stable_ints hown b1
        have hb1 := hb.trans b1
        have hoff : Off u5 wr.heap.size w1.heap.size := Off.of (fun k hk => (hown.block k hk).2)
        obtain ⟨a1, n1, c1, rfl, hn1, hm1, -⟩ := SliceR.shape r1
        have Hn1 := Lib.hid hn1
        clear hn1 hown hb b1
        have ht : decide ((f : Int) + ((k : Int) + 1) ≤ n) = true := by rw [decide_eq_true_iff]; omega
        generalize wr = wo at *
        go_wp2_with fail
        go_loopw [5, 8] (fun o s wi => ∃ i : Nat, i ≤ n1 ∧ s = .int .i64 i ∧ OwnR true w.heap.size IntsR 29 w.heap.size wi o (up ++ (rest.take i).map (shifted f)) ∧ Ext w wi ∧ Same (.new wo w1) w1 wi ∧ w1.heap.size ≤ wi.heap.size ∧ Off o wo.heap.size w1.heap.size) (fun _ s _ => n1 - (intOf s).toNat)
        case atStart => exact ⟨0, Nat.zero_le _, rfl, by simpa using hown1, hb1, Same.refl _ _, Nat.le_refl _, hoff⟩
        case round =>
          obtain ⟨i, hi, rfl, howni, hbw, hsame, hsz1, hoffi⟩ := hrel
          have hbs := hbw.size
          by_cases hlti : i < n1
          · have l1 : i < rest.length := by rw [← Hn1.out]; exact hlti
            have HX : Hid (up ++ (rest.take (i+1)).map (shifted f) = (up ++ (rest.take i).map (shifted f)) ++ [shifted f rest[i]]) := by show _ = _; rw [map_take_succ _ l1, List.append_assoc]
            have HXL : Hid ((up ++ (rest.take i).map (shifted f)).length + 1 ≤ 65536) := by
              have := HFL.out
              show _ ≤ _
              simp only [List.length_append, List.length_map, List.length_take] at this ⊢
              omega
            obtain ⟨_, _, _, he, -, -, hel1⟩ := SliceR.elem stable_ints (stable_rows.keep r1 hsame)
            injection he with he1 he2 he3
            subst he1; subst he2; subst he3
            obtain ⟨b, off, rfl, hblt, u, hcu, hu⟩ := hel1 i l1
            clear hel1
            have hmr := HM.out rest[i] (List.getElem_mem l1)
            have hlr := HML.out rest[i] (List.getElem_mem l1)
            have HA2 := Lib.hid (shiftedTo_all f rest[i])
            generalize up ++ (rest.take i).map (shifted f) = acc at *
            generalize rest[i] = r at *
            obtain ⟨ar, nr, cr, rfl, hnr, hmxr, -, -, -, hrow⟩ := IntsR.shape hu
            have Hnr := Lib.hid hnr
            have Hrow := Lib.hid hrow
            have hnr16 : nr ≤ 16 := by omega
            clear hnr hrow hu hlr
            generalize wr = wp at *
            go_wp2_with fail
            generalize hw3 : World.alloc _ _ = w3
            have b3 : Ext wp w3 := by rw [← hw3]; exact Ext.alloc _ _
            have o3 : OwnP (Value.int .i64) 2 wp.heap.size w3 (.slice (some ⟨wp.heap.size, 0, none⟩) 1 1) [(f : Int)] := by rw [← hw3]; exact OwnP.one (Nat.le_refl _) _
            clear hw3
            go_loopw [9, 10] (fun o s wj => ∃ j : Nat, j ≤ nr ∧ s = .int .i64 j ∧ OwnP (Value.int .i64) 2 wp.heap.size wj o (shiftedTo f r j) ∧ Ext wp wj) (fun _ s _ => nr - (intOf s).toNat)
            case atStart => exact ⟨0, Nat.zero_le _, rfl, o3, b3⟩
            case round =>
              clear o3 b3
              obtain ⟨j, hj, rfl, hownj, hbj⟩ := hrel
              have hbjs := hbj.size
              have hcu' := hbj.cell hcu
              by_cases hltj : j < nr
              · have l2 : j < r.length := by rw [← Hnr.out]; exact hltj
                obtain ⟨br, orr, rfl, hcr, -, -⟩ := Hrow.out j hltj
                replace hcr := hbj.cell hcr
                have er : r.getD j 0 = r[j] := by simp [l2]
                rw [er] at hcr
                obtain ⟨m1, m2⟩ := hmr r[j] (List.getElem_mem l2)
                have HS := Lib.hid (shiftedTo_succ (f := f) l2)
                have HSL : Hid ((shiftedTo f r j).length ≤ 17) := by show _ ≤ _; simp [shiftedTo]; omega
                have hwr : IntKind.i64.wrap (r[j] + f) = r[j] + f := IntWalk.i64_in _ (by omega)
                clear er
                generalize shiftedTo f r j = sj at *
                generalize r[j] = y at *
                go_wp2_with (at_builtin; (refine wpList_append1 (f := Value.int .i64) (e := 2) (B := wp.heap.size) (xs := sj) rfl _ _ 29 rfl 0 8 Try.underlying29 Try.infoI64 rfl (fun _ => rfl) rfl hownj (y + f + 1) rfl (by have := HSL.out; omega) (by omega) hbjs ?_); intro v6 w6 hown6 hg6 hb6)
                go_roundw
                case rel => exact ⟨j + 1, by omega, by go_num, by rw [HS.out]; exact hown6, Below.trans hbj hb6⟩
                case measure => simp [intOf]; omega
              · obtain rfl : j = nr := by omega
                rw [Hnr.out, HA2.out] at hownj
                have hmem : ∀ x ∈ shifted f r, I64 x := fun x hx => by
                  unfold shifted at hx
                  unfold I64
                  rcases List.mem_cons.1 hx with rfl | hx
                  · omega
                  · obtain ⟨q, hq, rfl⟩ := List.mem_map.1 hx
                    have := hmr q hq; omega
                have hints := OwnP.ints hownj hmem (Nat.le_refl _)
                have HX2 := Lib.hid HX.out
                obtain ⟨al, nl, cl, rfl, -⟩ := hownj.shape
                clear hownj hmem HX hmr HA2
                generalize shifted f r = sr at *
                have hwps : w.heap.size ≤ wp.heap.size := hbs
                go_wp2_with (at_builtin; (refine wpList_appendRow (b := true) (L := w.heap.size) (B := w.heap.size) (E := IntsR) (e := 29) stable_ints slRepr_slice rfl _ _ 24 rfl Try.underlying24 Try.infoInts rfl howni hbj (al, nl, cl) sr hints rfl (by have := HXL.out; omega) hwps hwps ?_); intro v7 w7 hown7 hb7 hz7 hg7 hat7)
                go_roundw
                case rel => exact ⟨i + 1, by omega, by go_num, by rw [HX2.out]; exact hown7, Below.trans hbw hb7, Same.grown (Same.below hsame hsz1 hbj) (Nat.le_trans hsz1 hbj.size) hg7 hoffi.not, by have := hbj.size; omega, hoffi.next (Nat.le_trans hsz1 hbj.size) hat7⟩
                case measure => simp [intOf]; omega
          · obtain rfl : i = n1 := by omega
            rw [Hn1.out, List.take_length] at howni
            go_wp2_with fail
            go_roundw
            case rel => exact ⟨f + 1, by omega, by go_num, by rw [HF.out]; exact howni, hbw⟩
            case measure => simp [intOf]; omega
      · have hfn : f = n - k := by omega
        have ht : decide ((f : Int) + ((k : Int) + 1) ≤ n) = false := by rw [decide_eq_false_iff_not]; omega
        rw [hfn, HA.out] at hown
        clear hfn
        have hr := OwnR.reads hown (Nat.le_refl _)
        clear hown
        go_wp2_with fail
        go_ret
        exact ⟨_, rfl, hr, hb⟩
end Go.Proofs.Ytbkijealdjghgaa
