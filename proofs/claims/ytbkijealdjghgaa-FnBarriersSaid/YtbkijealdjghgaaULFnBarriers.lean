/- Proved: for every code, laws.FnBarriers returns true and changes nothing that was there; no condition. -/
import Derived.Test.YtbkijealdjghgaaRows
import Derived.Test.YtbkijealdjghgaaUPkL
import Derived.Test.YtbkijealdjghgaaUDrawBehind
import Derived.Test.YtbkijealdjghgaaUDrawBar
import Derived.Test.YtbkijealdjghgaaUDrawOpen
import Derived.Test.YtbkijealdjghgaaUBarLaws
import Derived.Test.YtbkijealdjghgaaULikeInts
import Derived.Test.YtbkijealdjghgaaUHasInt
import Derived.Test.YtbkijealdjghgaaUBig
import Derived.Test.YtbkijealdjghgaaUBehindSpec
import Derived.Test.YtbkijealdjghgaaUBehindImpl
import Derived.Test.YtbkijealdjghgaaUIsBarrier
import Derived.Test.YtbkijealdjghgaaUIsBarrierImpl
import Derived.Test.YtbkijealdjghgaaUOpenFor
import Derived.Test.YtbkijealdjghgaaUOpenForImpl
import Derived.Test.YtbkijealdjghgaaUReachImpl
import Derived.Test.YtbkijealdjghgaaUOtherDoors
namespace Go.Proofs.Ytbkijealdjghgaa
open Go.ChangeShapes Go.WideShapes Go.ChangeAt Go.RowKit
set_option linter.unusedVariables false
namespace fnBarriers

set_option maxRecDepth 20000 in
set_option maxHeartbeats 4000000 in
theorem walk (w : World) (v : Value) (x : List Int) (h : BytesR (.old w) w v x) : Calls Try.prog 3 #[v] w (Ret w fun r _ => r = .bool true) := by
  have hcall := big_c w v _ x h
  have H := Lib.hid (fun (w' : World) (e : Ext w w') => stable_bytes.ext h e)
  clear h
  cases hb : decide (4096 < x.length) with
  | true =>
    rw [hb] at hcall
    clear hb
    go_enter Try.func3, Try.ntmps3
    go_wp2_with fail
    refine Calls.mono hcall ?_
    rintro e w1 hr
    obtain ⟨rfl, hd, e1⟩ := retq_ext hr
    clear hr hcall
    go_wp2_with fail
    go_ret
    exact ⟨_, rfl, rfl, e1⟩
  | false =>
    rw [hb] at hcall
    clear hb
    go_enter Try.func3, Try.ntmps3
    go_wp2_with fail
    refine Calls.mono hcall ?_
    rintro e w1 hr
    obtain ⟨rfl, hd, e1⟩ := retq_ext hr
    clear hr hcall hd
    have hcall := DrawRoomsBehind_c w1 v _ x (H.out w1 e1)
    go_wp2_with fail
    refine Calls.mono hcall ?_
    rintro e w2 hr
    obtain ⟨_, rfl, ⟨c, u, ds, f, d, z1, rfl, hc, hf, hd, hrows, -⟩, b2⟩ := ret_ext hr
    clear hr hcall
    have e2 := e1.trans b2
    obtain ⟨a, n, cap, rfl, hn, -⟩ := SliceR.shape hrows
    clear hn b2 e1
    have e3 : Ext w2 (w2.alloc (.cells #[.int .i64 c, .slice a n cap] 26)) := Ext.alloc _ _
    obtain ⟨x0, x1, -, -⟩ := Box2.new w2 (.int .i64 c) (.slice a n cap) 26
    have E3 := e2.trans e3
    replace hrows := stable_rows.ext hrows e3
    have HX : Hid (∀ w', Ext (w2.alloc (.cells #[.int .i64 c, .slice a n cap] 26)) w' → w'.cell? ⟨w2.heap.size, 0, none⟩ = some (.int .i64 c) ∧ w'.cell? ⟨w2.heap.size, 1, none⟩ = some (.slice a n cap)) := fun w' e => ⟨e.cell x0, e.cell x1⟩
    have HQ : Hid (∀ w', Ext (w2.alloc (.cells #[.int .i64 c, .slice a n cap] 26)) w' → RoomsR z1 w' (.agg #[.int .i64 c, .slice a n cap]) (c, ds)) := fun w' e => ⟨_, rfl, hc, stable_rows.ext hrows e⟩
    clear hrows e3
    have BF := behind_facts (x := (c, ds)) (f := f) (d := d)
    obtain ⟨S, cs, hS⟩ : ∃ L c', roomsBehind (c, ds) f d = (L, c') := ⟨_, _, rfl⟩
    rw [hS] at BF
    simp only at BF
    have hcall := RoomsBehind_c _ _ z1 (c, ds) f d hf hd (HQ.out _ (Ext.refl _))
    rw [hS] at hcall
    have HBF := Lib.hid BF
    clear BF
    go_wp2_with fail
    generalize w2.alloc (.cells #[.int .i64 c, .slice a n cap] 26) = w3 at *
    refine Calls.mono hcall ?_
    rintro e w4 hr
    obtain ⟨_, rfl, ⟨b1, rfl, r1⟩, b4⟩ := ret_ext hr
    clear hr hcall x0 x1
    simp only at r1
    obtain ⟨x0, x1⟩ := HX.out w4 b4
    have hcall := RoomsBehindSpec_c w4 _ z1 (c, ds) f d hd (HQ.out _ b4)
    rw [hS] at hcall
    go_wp2_with fail
    refine Calls.mono hcall ?_
    rintro e w5 hr
    obtain ⟨_, rfl, ⟨b3, rfl, r3⟩, b5⟩ := ret_ext hr
    clear hr hcall x0 x1 hS
    simp only at r3
    have e5 := b4.trans b5
    replace r1 := stable_ints.ext r1 b5
    clear b4 b5
    have hcall := DrawIsBarrier_c w5 v _ x (H.out w5 (E3.trans e5))
    go_wp2_with fail
    refine Calls.mono hcall ?_
    rintro e w6 hr
    obtain ⟨_, rfl, ⟨c', u', ds', f', t', v2', shut, z3, z4, rfl, hc', hf', ht', hrows, hints, -, -, hl13⟩, b6⟩ := ret_ext hr
    clear hr hcall
    have e6 := e5.trans b6
    replace r1 := stable_ints.ext r1 b6
    replace r3 := stable_ints.ext r3 b6
    obtain ⟨a5, n5, k5, rfl, hn5, -⟩ := SliceR.shape hrows
    obtain ⟨a6, n6, k6, rfl, hn2, -⟩ := SliceR.shape hints
    have hn13 : n5 ≤ 13 := by omega
    have HN5 := Lib.hid hn5
    clear hn5 hn2 hl13 b6 e5
    have e7 : Ext w6 (w6.alloc (.cells #[.int .i64 c', .slice a5 n5 k5] 26)) := Ext.alloc _ _
    obtain ⟨y0, y1, -, -⟩ := Box2.new w6 (.int .i64 c') (.slice a5 n5 k5) 26
    have E7 := e6.trans e7
    replace hrows := stable_rows.ext hrows e7
    replace hints := stable_ints.ext hints e7
    replace r1 := stable_ints.ext r1 e7
    replace r3 := stable_ints.ext r3 e7
    have HIy := Lib.hid (fun (w' : World) (e : Ext (w6.alloc (.cells #[.int .i64 c', .slice a5 n5 k5] 26)) w') => stable_ints.ext hints e)
    have HY : Hid (∀ w', Ext (w6.alloc (.cells #[.int .i64 c', .slice a5 n5 k5] 26)) w' → w'.cell? ⟨w6.heap.size, 0, none⟩ = some (.int .i64 c') ∧ w'.cell? ⟨w6.heap.size, 1, none⟩ = some (.slice a5 n5 k5)) := fun w' e => ⟨e.cell y0, e.cell y1⟩
    have HQy : Hid (∀ w', Ext (w6.alloc (.cells #[.int .i64 c', .slice a5 n5 k5] 26)) w' → RoomsR z3 w' (.agg #[.int .i64 c', .slice a5 n5 k5]) (c', ds')) := fun w' e => ⟨_, rfl, hc', stable_rows.ext hrows e⟩
    clear hrows hints e7 e6
    have BR := barrier_reach (x := (c', ds')) (f := f') (t := t') (shut := shut)
    obtain ⟨ok, one, hI⟩ : ∃ L c'', isBarrier (c', ds') f' t' shut = (L, c'') := ⟨_, _, rfl⟩
    rw [hI] at BR
    simp only at BR
    have HBR := Lib.hid BR
    clear BR
    have hcall := IsBarrier_c _ _ _ z3 z4 (c', ds') f' t' hf' ht' shut (HQy.out _ (Ext.refl _)) (HIy.out _ (Ext.refl _))
    rw [hI] at hcall
    simp only [BoolCode] at hcall
    go_wp2_with fail
    generalize w6.alloc (.cells #[.int .i64 c', .slice a5 n5 k5] 26) = w7 at *
    refine Calls.mono hcall ?_
    rintro e w8 hr
    obtain ⟨_, rfl, rfl, b8⟩ := ret_ext hr
    clear hr hcall y0 y1
    obtain ⟨y0, y1⟩ := HY.out w8 b8
    have hcall := IsBarrierSpec_c w8 _ _ z3 z4 (c', ds') f' t' ht' shut (HQy.out _ b8) (HIy.out _ b8)
    rw [hI] at hcall
    simp only [BoolCode] at hcall
    go_wp2_with fail
    refine Calls.mono hcall ?_
    rintro e w9 hr
    obtain ⟨_, rfl, rfl, b9⟩ := ret_ext hr
    clear hr hcall y0 y1 hI
    have e9 := b8.trans b9
    replace r1 := stable_ints.ext r1 e9
    replace r3 := stable_ints.ext r3 e9
    clear b8 b9
    have hcall := DrawOpenFor_c w9 v _ x (H.out w9 (E3.trans (E7.trans e9)))
    go_wp2_with fail
    refine Calls.mono hcall ?_
    rintro e wa hr
    obtain ⟨_, rfl, ⟨tu, tt, tv, ks, z5, z6, rfl, htu, htv, -, -⟩, ba⟩ := ret_ext hr
    clear hr hcall H
    have ea := e9.trans ba
    replace r1 := stable_ints.ext r1 ba
    replace r3 := stable_ints.ext r3 ba
    clear ba e9
    obtain ⟨O, co, hO⟩ : ∃ L c'', openFor tt ks = (L, c'') := ⟨_, _, rfl⟩
    have hcall := OpenFor_c wa _ _ z5 z6 tt ks htu htv
    rw [hO] at hcall
    go_wp2_with fail
    refine Calls.mono hcall ?_
    rintro e wb hr
    obtain ⟨_, rfl, ⟨o1, rfl, q1⟩, bb⟩ := ret_ext hr
    clear hr hcall
    simp only at q1
    replace r1 := stable_ints.ext r1 bb
    replace r3 := stable_ints.ext r3 bb
    have hcall := OpenForSpec_c wb _ _ z5 z6 tt ks (stable_rows.ext htu bb) (stable_ints.ext htv bb)
    rw [hO] at hcall
    clear hO
    go_wp2_with fail
    refine Calls.mono hcall ?_
    rintro e wc hr
    obtain ⟨_, rfl, ⟨o3, rfl, q3⟩, bc⟩ := ret_ext hr
    clear hr hcall htu htv
    simp only at q3
    replace q1 := stable_ints.ext q1 bc
    replace r1 := stable_ints.ext r1 bc
    replace r3 := stable_ints.ext r3 bc
    have ec := ea.trans (bb.trans bc)
    clear ea bb bc
    have hcall := likeInts_c wc _ _ _ _ S S r1 r3
    rw [show decide (S = S) = true by simp] at hcall
    clear r3
    go_wp2_with fail
    refine Calls.mono hcall ?_
    rintro e wd hr
    obtain ⟨rfl, -, bd⟩ := retq_ext hr
    clear hr hcall
    have hcall := likeInts_c wd _ _ _ _ O O (stable_ints.ext q1 bd) (stable_ints.ext q3 bd)
    rw [show decide (O = O) = true by simp] at hcall
    clear q1 q3
    replace r1 := stable_ints.ext r1 bd
    go_wp2_with fail
    refine Calls.mono hcall ?_
    rintro e we hr
    obtain ⟨rfl, -, be⟩ := retq_ext hr
    clear hr hcall
    replace r1 := stable_ints.ext r1 be
    have ee := ec.trans (bd.trans be)
    have E : Hid (Ext w we) := E3.trans (E7.trans ee)
    have E7e := Lib.hid ee
    have E3e := Lib.hid (E7.trans ee)
    have HS := Lib.hid (fun (w' : World) (e : Ext we w') => stable_ints.ext r1 e)
    obtain ⟨sb, nb, cb, rfl, hnb, hmb, -⟩ := IntsR.shape r1
    have HNB := Lib.hid hnb
    clear hnb ec bd be ee E3 E7 e2 r1
    by_cases h1 : one = 0
    · subst h1
      obtain ⟨br1, br2⟩ := HBR.out rfl
      obtain ⟨G, cg, hG⟩ : ∃ L c'', reachWith (c', ds') f' (otherDoors ds'.length shut) = (L, c'') := ⟨_, _, rfl⟩
      rw [hG] at br1 br2
      simp only at br1 br2
      subst br1
      have HOK := Lib.hid br2
      clear br2
      have HRW : Hid (∀ w' vo q, Ext we w' → IntsR q w' vo (otherDoors ds'.length shut) → Calls Try.prog 17 #[.agg #[.int .i64 c', .slice a5 n5 k5], .int .i64 f', vo] w' (Ret w' fun r w'' => IntsCode w' (G, 0) r w'')) := fun w' vo q e ho => by
        have := ReachWith_c w' _ vo z3 q (c', ds') f' hf' (otherDoors ds'.length shut) (HQy.out _ (E7e.out.trans e)) ho
        rwa [hG] at this
      rw [← HN5.out] at HRW
      clear hG HBR
      have HYe : Hid (∀ w', Ext we w' → w'.cell? ⟨w6.heap.size, 0, none⟩ = some (.int .i64 c') ∧ w'.cell? ⟨w6.heap.size, 1, none⟩ = some (.slice a5 n5 k5)) := fun w' e => HY.out _ (E7e.out.trans e)
      have HIe : Hid (∀ w', Ext we w' → IntsR z4 w' (.slice a6 n6 k6) shut) := fun w' e => HIy.out _ (E7e.out.trans e)
      clear HY HQy HIy HN5 E7e
      go_wp2_with fail
      have oi : OwnP (Value.int .i64) 2 we.heap.size (we.alloc (.cells #[] 2)) (.slice (some ⟨we.heap.size, 0, none⟩) 0 0) [] := OwnP.empty (Nat.le_refl _)
      have di : Ext we (we.alloc (.cells #[] 2)) := Ext.alloc _ _
      generalize hwi : we.alloc (.cells #[] 2) = wi at *
      clear hwi
      go_loopw [24, 25] (fun o s wr => ∃ k : Nat, k ≤ n5 ∧ s = .int .i64 k ∧ OwnP (Value.int .i64) 2 we.heap.size wr o (upto (fun i => !has shut i) k) ∧ Ext we wr) (fun _ s _ => n5 - (intOf s).toNat)
      case atStart => exact ⟨0, Nat.zero_le _, rfl, oi, di⟩
      case round =>
        obtain ⟨k, hk, rfl, hown, hbk⟩ := hrel
        clear oi di
        obtain ⟨y0, y1⟩ := HYe.out wr hbk
        by_cases hlt : k < n5
        · have hcall := hasInt_c wr _ _ shut (k : Int) (HIe.out wr hbk) (by unfold I64; omega)
          have HYs := Lib.hid (upto_yes (p := fun i : Int => !has shut i) (k := k))
          have HNo := Lib.hid (upto_no (p := fun i : Int => !has shut i) (k := k))
          have HL := Lib.hid (upto_length (fun i : Int => !has shut i) k)
          generalize has shut (k : Int) = q at *
          generalize upto (fun i : Int => !has shut i) k = up at *
          go_wp2_with fail
          refine Calls.mono hcall ?_
          rintro e wf ⟨rfl, hd5⟩
          clear hcall y0 y1
          have hown5 := hown.below (hd5.below _)
          have hbk5 := hbk.trans (Ext.ofDrew hd5)
          have hsz5 := hbk5.size
          clear hd5 hown hbk
          cases q with
          | false =>
            go_wp2_with (at_builtin; (refine wpList_append1 (f := Value.int .i64) (e := 2) (B := we.heap.size) (xs := up) rfl _ _ 29 rfl 0 8 Try.underlying29 Try.infoI64 rfl (fun _ => rfl) rfl hown5 (k : Int) rfl (by have := HL.out; omega) (by omega) (by omega) ?_); intro v6 w6x hown6 hg6 hb6)
            go_roundw
            case rel => exact ⟨k + 1, by omega, by go_num, by rw [HYs.out rfl]; exact hown6, Ext.to' hbk5 hb6⟩
            case measure => simp [intOf]; omega
          | true =>
            go_wp2_with fail
            go_roundw
            case rel => exact ⟨k + 1, by omega, by go_num, by rw [HNo.out rfl]; exact hown5, hbk5⟩
            case measure => simp [intOf]; omega
        · have hkn : k = n5 := by omega
          subst hkn
          have hcall := HRW.out wr u24 _ hbk (OwnP.ints hown (fun y hy => by have := upto_mem.1 hy; unfold I64; omega) (Nat.le_refl _))
          go_wp2_with fail
          refine Calls.mono hcall ?_
          rintro e wg hr
          obtain ⟨_, rfl, ⟨g1, rfl, qg⟩, bg⟩ := ret_ext hr
          clear hr hcall y0 y1 hown
          simp only at qg
          have hcall := hasInt_c wg _ _ G t' qg ht'
          go_wp2_with fail
          refine Calls.mono hcall ?_
          rintro e wh hr
          obtain ⟨rfl, -, bh⟩ := retq_ext hr
          clear hr hcall qg
          have hne : (ok == has G t') = false := by rw [HOK.out]; cases has G t' <;> rfl
          generalize has G t' = hgt at *
          have eh := hbk.trans (bg.trans bh)
          clear hbk bg bh HOK HRW HYe HIe
          by_cases hcs : cs = 0
          · subst hcs
            obtain ⟨bf1, bf2⟩ := HBF.out rfl
            have HB2 := Lib.hid bf2
            have HIB : Hid (∀ W w' q, Ext wh W → Drew (W.alloc (.cells #[.int .i64 d] 2)) w' → q ∈ S → I64 q → Calls Try.prog 10 #[.agg #[.int .i64 c, .slice a n cap], .int .i64 f, .int .i64 q, .slice (some ⟨W.heap.size, 0, none⟩) 1 1] w' (Ret w' fun r _ => r = .tuple #[.bool true, .int .i64 0])) := fun W w' q e hdw hq hiq => by
              have e' : Ext W w' := (Ext.alloc _ _).trans (Ext.ofDrew hdw)
              have := IsBarrier_c w' _ _ z1 _ (c, ds) f q hf hiq [d] (HQ.out _ (E3e.out.trans (eh.trans (e.trans e')))) (stable_ints.ext (ints_one W d 2 hd) (Ext.ofDrew hdw))
              rw [HB2.out q hq] at this
              exact this
            have HXe : Hid (∀ w', Ext wh w' → w'.cell? ⟨w2.heap.size, 0, none⟩ = some (.int .i64 c) ∧ w'.cell? ⟨w2.heap.size, 1, none⟩ = some (.slice a n cap)) := fun w' e => HX.out _ (E3e.out.trans (eh.trans e))
            have HSe := Lib.hid (fun (w' : World) (e : Ext wh w') => HS.out w' (eh.trans e))
            have EW : Hid (Ext w wh) := E.out.trans eh
            have HF1 := Lib.hid bf1
            clear HBF bf1 bf2 HB2 HX HQ HS E
            go_wp2_with fail
            go_loopw [28] (fun s wr => ∃ k : Nat, k ≤ nb ∧ s = .int .i64 k ∧ Ext wh wr) (fun s _ => nb - (intOf s).toNat)
            case atStart => exact ⟨0, Nat.zero_le _, rfl, Ext.refl _⟩
            case round =>
              obtain ⟨i, hi, rfl, hbi⟩ := hrel
              by_cases hin : i < nb
              · obtain ⟨a', n', cap', he, -, -, -, -, -, hel⟩ := IntsR.shape (HSe.out wr hbi)
                injection he with he1 he2 he3
                subst he1; subst he2; subst he3
                obtain ⟨b, off, rfl, hcq, hiq, -⟩ := hel i hin
                have hmem : S.getD i 0 ∈ S := by
                  have hl : i < S.length := by rw [← HNB.out]; exact hin
                  rw [List.getD_eq_getElem?_getD, List.getElem?_eq_getElem hl, Option.getD_some]
                  exact List.getElem_mem hl
                have hcall : Hid (∀ w', Drew (wr.alloc (.cells #[.int .i64 d] 2)) w' → Calls Try.prog 10 #[.agg #[.int .i64 c, .slice a n cap], .int .i64 f, .int .i64 (S.getD i 0), .slice (some ⟨wr.heap.size, 0, none⟩) 1 1] w' (Ret w' fun r _ => r = .tuple #[.bool true, .int .i64 0])) := fun w' hw => HIB.out wr w' _ hbi hw hmem hiq
                obtain ⟨x0, x1⟩ := HXe.out _ hbi
                have HK : Hid (∀ w', Ext wr w' → w'.cell? ⟨w2.heap.size, 0, none⟩ = some (.int .i64 c) ∧ w'.cell? ⟨w2.heap.size, 1, none⟩ = some (.slice a n cap) ∧ w'.cell? ⟨b, off + i, none⟩ = some (.int .i64 (S.getD i 0))) := fun w' e => ⟨e.cell x0, e.cell x1, e.cell hcq⟩
                clear x0 x1 hcq hel hmem
                generalize S.getD i 0 = q at *
                have hrr : Ext wr wr := Ext.refl _
                have hra : Ext wr (wr.alloc (.cells #[.int .i64 d] 2)) := Ext.alloc _ _
                go_wp2_with fail
                go_region_held3 (fun w' => w'.cell? ⟨w2.heap.size, 0, none⟩ = some (.int .i64 c) ∧ w'.cell? ⟨w2.heap.size, 1, none⟩ = some (.slice a n cap) ∧ w'.cell? ⟨b, off + i, none⟩ = some (.int .i64 q)) (exact HK.out _ (by repeat (first | exact Ext.refl _ | assumption | (refine Ext.trans ?_ (Ext.alloc _ _)) | (refine Ext.trans ?_ (Ext.drew _)) | (refine Ext.trans ?_ (by assumption))))) (first | (go_at_call 10; (with_reducible refine Calls.mono (hcall.out _ ?_) ?_); (first | exact ⟨0, rfl⟩ | exact ⟨1, rfl⟩); rintro e wy ⟨_, rfl, rfl, hyb⟩; have hwy : Ext wr wy := by first | exact hra.trans (Ext.of hyb) | exact hra.trans ((Ext.drew _).trans (Ext.of hyb)) | exact Ext.trans (by repeat (first | exact Ext.refl _ | assumption | (refine Ext.trans ?_ (Ext.alloc _ _)) | (refine Ext.trans ?_ (Ext.drew _)) | (refine Ext.trans ?_ (by assumption)))) (Ext.of hyb)))
                all_goals (have hbi2 := hbi.trans hwy)
                all_goals (go_wp2_with fail)
                all_goals (exact ⟨⟨i + 1, by omega, by go_num, hbi2⟩, by simp [intOf]; omega⟩)
              · have hcall := hasInt_c wr _ _ S f (HSe.out _ hbi) hf
                rw [HF1.out] at hcall
                go_wp2_with fail
                refine Calls.mono hcall ?_
                rintro e wz hr
                obtain ⟨rfl, -, bz⟩ := retq_ext hr
                clear hr hcall
                go_wp2_with fail
                go_ret
                exact ⟨_, rfl, rfl, EW.out.trans (hbi.trans bz)⟩
          · have hcn : (cs != 0) = true := by simpa using hcs
            go_wp2_with fail
            go_ret
            exact ⟨_, rfl, rfl, E.out.trans eh⟩
    · have hone : (one == 0) = false := by simpa using h1
      have eh : Ext we we := Ext.refl _
      clear HBR HY HQy HIy HN5 E7e
      by_cases hcs : cs = 0
      · subst hcs
        obtain ⟨bf1, bf2⟩ := HBF.out rfl
        have HB2 := Lib.hid bf2
        have HIB : Hid (∀ W w' q, Ext we W → Drew (W.alloc (.cells #[.int .i64 d] 2)) w' → q ∈ S → I64 q → Calls Try.prog 10 #[.agg #[.int .i64 c, .slice a n cap], .int .i64 f, .int .i64 q, .slice (some ⟨W.heap.size, 0, none⟩) 1 1] w' (Ret w' fun r _ => r = .tuple #[.bool true, .int .i64 0])) := fun W w' q e hdw hq hiq => by
          have e' : Ext W w' := (Ext.alloc _ _).trans (Ext.ofDrew hdw)
          have := IsBarrier_c w' _ _ z1 _ (c, ds) f q hf hiq [d] (HQ.out _ (E3e.out.trans (eh.trans (e.trans e')))) (stable_ints.ext (ints_one W d 2 hd) (Ext.ofDrew hdw))
          rw [HB2.out q hq] at this
          exact this
        have HXe : Hid (∀ w', Ext we w' → w'.cell? ⟨w2.heap.size, 0, none⟩ = some (.int .i64 c) ∧ w'.cell? ⟨w2.heap.size, 1, none⟩ = some (.slice a n cap)) := fun w' e => HX.out _ (E3e.out.trans (eh.trans e))
        have HSe := Lib.hid (fun (w' : World) (e : Ext we w') => HS.out w' (eh.trans e))
        have EW : Hid (Ext w we) := E.out.trans eh
        have HF1 := Lib.hid bf1
        clear HBF bf1 bf2 HB2 HX HQ HS E
        go_wp2_with fail
        go_loopw [28] (fun s wr => ∃ k : Nat, k ≤ nb ∧ s = .int .i64 k ∧ Ext we wr) (fun s _ => nb - (intOf s).toNat)
        case atStart => exact ⟨0, Nat.zero_le _, rfl, Ext.refl _⟩
        case round =>
          obtain ⟨i, hi, rfl, hbi⟩ := hrel
          by_cases hin : i < nb
          · obtain ⟨a', n', cap', he, -, -, -, -, -, hel⟩ := IntsR.shape (HSe.out wr hbi)
            injection he with he1 he2 he3
            subst he1; subst he2; subst he3
            obtain ⟨b, off, rfl, hcq, hiq, -⟩ := hel i hin
            have hmem : S.getD i 0 ∈ S := by
              have hl : i < S.length := by rw [← HNB.out]; exact hin
              rw [List.getD_eq_getElem?_getD, List.getElem?_eq_getElem hl, Option.getD_some]
              exact List.getElem_mem hl
            have hcall : Hid (∀ w', Drew (wr.alloc (.cells #[.int .i64 d] 2)) w' → Calls Try.prog 10 #[.agg #[.int .i64 c, .slice a n cap], .int .i64 f, .int .i64 (S.getD i 0), .slice (some ⟨wr.heap.size, 0, none⟩) 1 1] w' (Ret w' fun r _ => r = .tuple #[.bool true, .int .i64 0])) := fun w' hw => HIB.out wr w' _ hbi hw hmem hiq
            obtain ⟨x0, x1⟩ := HXe.out _ hbi
            have HK : Hid (∀ w', Ext wr w' → w'.cell? ⟨w2.heap.size, 0, none⟩ = some (.int .i64 c) ∧ w'.cell? ⟨w2.heap.size, 1, none⟩ = some (.slice a n cap) ∧ w'.cell? ⟨b, off + i, none⟩ = some (.int .i64 (S.getD i 0))) := fun w' e => ⟨e.cell x0, e.cell x1, e.cell hcq⟩
            clear x0 x1 hcq hel hmem
            generalize S.getD i 0 = q at *
            have hrr : Ext wr wr := Ext.refl _
            have hra : Ext wr (wr.alloc (.cells #[.int .i64 d] 2)) := Ext.alloc _ _
            go_wp2_with fail
            go_region_held3 (fun w' => w'.cell? ⟨w2.heap.size, 0, none⟩ = some (.int .i64 c) ∧ w'.cell? ⟨w2.heap.size, 1, none⟩ = some (.slice a n cap) ∧ w'.cell? ⟨b, off + i, none⟩ = some (.int .i64 q)) (exact HK.out _ (by repeat (first | exact Ext.refl _ | assumption | (refine Ext.trans ?_ (Ext.alloc _ _)) | (refine Ext.trans ?_ (Ext.drew _)) | (refine Ext.trans ?_ (by assumption))))) (first | (go_at_call 10; (with_reducible refine Calls.mono (hcall.out _ ?_) ?_); (first | exact ⟨0, rfl⟩ | exact ⟨1, rfl⟩); rintro e wy ⟨_, rfl, rfl, hyb⟩; have hwy : Ext wr wy := by first | exact hra.trans (Ext.of hyb) | exact hra.trans ((Ext.drew _).trans (Ext.of hyb)) | exact Ext.trans (by repeat (first | exact Ext.refl _ | assumption | (refine Ext.trans ?_ (Ext.alloc _ _)) | (refine Ext.trans ?_ (Ext.drew _)) | (refine Ext.trans ?_ (by assumption)))) (Ext.of hyb)))
            all_goals (have hbi2 := hbi.trans hwy)
            all_goals (go_wp2_with fail)
            all_goals (exact ⟨⟨i + 1, by omega, by go_num, hbi2⟩, by simp [intOf]; omega⟩)
          · have hcall := hasInt_c wr _ _ S f (HSe.out _ hbi) hf
            rw [HF1.out] at hcall
            go_wp2_with fail
            refine Calls.mono hcall ?_
            rintro e wz hr
            obtain ⟨rfl, -, bz⟩ := retq_ext hr
            clear hr hcall
            go_wp2_with fail
            go_ret
            exact ⟨_, rfl, rfl, EW.out.trans (hbi.trans bz)⟩
      · have hcn : (cs != 0) = true := by simpa using hcs
        go_wp2_with fail
        go_ret
        exact ⟨_, rfl, rfl, E.out.trans eh⟩


/-! ### the row -/
theorem own : ownKnob Try.prog.godebug = none := by kernel_rfl
theorem laidOut : laidOutB Try.prog = true := by kernel_rfl
set_option maxRecDepth 100000 in
theorem lifted (os : Os) (started : os.Started) (H : Type) (enc : TypeId × Value → H) :
    ReturnsInHanded {} Try.checked os 3 .any (Rows.fnBarriersSpec.pre6 enc Try.prog Try.f3 Rows.fnBarriersRow.domain false) (Rows.fnBarriersSpec.post enc Try.prog Try.f3 false true false false) := by
  refine returnsInHanded_of_change (C := Try.checked) own started (by kernel_rfl) Try.func3
    (ChangeSpec.witness6 (enc := enc) (C := Try.checked) false ⟨#[], #[.slice none 0 0], []⟩ 8 (by kernel_rfl) (by kernel_rfl) (by kernel_rfl) (by kernel_rfl)) ?_
  intro W base args ds gs before hval0 hW hcnd _
  have hval : ∀ (j : Nat) t v, Try.f3.params[j]? = some t → args[j]? = some v → Value.okWide Try.prog W .any base t v := hval0
  have hW' := hW
  obtain ⟨p, q, hA0, hV, rfl, hfz, hnd⟩ := hW
  have hA : DataW.TrodAll enc Try.prog W 0 (fun _ => true) true Try.f3.params.toList args.toList ds p := hA0
  rw [Try.params3] at hA hval
  obtain ⟨v0, vs0, d0, ds0, p0, q0, hargs, rfl, rfl, h0, r0⟩ := trodAll_cons hA
  obtain ⟨rfl, rfl, rfl⟩ := trodAll_nil r0
  obtain rfl : args = #[v0] := by cases args; simp_all
  obtain ⟨rfl, rfl⟩ := trodVars_none hV
  have k0 := h0
  have lt0 : ∀ x ∈ p0, x.block < W.heap.size := by obtain ⟨m, hm⟩ := k0; exact DataW.trod_lt m _ _ _ hm
  obtain ⟨a0, len0, cap0, rfl⟩ := okWide_slice Try.underlying22 (hval 0 22 v0 rfl rfl)
  obtain ⟨x0, w0⟩ : ∃ xs, BytesR (.old W) W (.slice a0 len0 cap0) xs := by obtain ⟨fuel, hf⟩ := h0; exact open_BytesR Try.underlying22 Try.underlying5 (by kernel_rfl) hf
  clear hA0 hval0
  refine (walk W _ x0 w0).mono fun e W' hret => ?_
  obtain ⟨r, rfl, rfl, bel⟩ := hret
  exact ⟨_, rfl, _, _, _, [], _, [], hW', trodAll_mk1 (shut_bool Try.underlying4 _), (trodAll_cons_mk (Below.trod laidOut (by kernel_rfl) (of_decide_eq_true (by kernel_rfl)) k0 bel lt0) trodAll_mk0), rfl, bel.frame _, fun h => by cases h⟩

theorem over : Rows.fnBarriersRow.holds Try.pinned (OpenSpec.ofChange Rows.fnBarriersSpec) :=
  OpenClaim.holds_of_wide 3 Try.f3 rfl rfl rfl rfl rfl rfl rfl ⟨rfl, rfl, rfl, rfl, rfl⟩ rfl rfl rfl rfl rfl (by kernel_rfl) Try.func3 (by kernel_rfl)
    (of_decide_eq_true (by kernel_rfl)) (by unfold Func.isWrapper; first | (rw [if_pos (by decide +kernel)]; kernel_rfl) | (rw [if_neg (by decide +kernel)]; exact ⟨rfl, rfl⟩))
    (fun os started H enc _ => lifted os started H enc)

theorem proved : Rows.FnBarriersSaid := over

end fnBarriers
end Go.Proofs.Ytbkijealdjghgaa
