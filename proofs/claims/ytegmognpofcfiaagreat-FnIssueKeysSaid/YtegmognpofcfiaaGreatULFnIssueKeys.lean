/- Proved: for every code, laws.FnIssueKeys returns true and changes nothing that was there; no condition. -/
import Derived.Test.YtegmognpofcfiaaGreatRows
import Derived.Deep.RegionLaw
import Derived.Deep.RegionHeld3
import Derived.Deep.Cut
import Derived.Test.YtegmognpofcfiaaGreatUPkL
import Derived.Test.YtegmognpofcfiaaGreatUDrawExts
import Derived.Test.YtegmognpofcfiaaGreatUPkIf
import Derived.Test.YtegmognpofcfiaaGreatUPkEi
import Derived.Test.YtegmognpofcfiaaGreatUPkLk
namespace Go.Proofs.YtegmognpofcfiaaGreat
open Go.ChangeShapes Go.WideShapes Go.ChangeAt Go.RowKit
set_option linter.unusedVariables false
namespace fnIssueKeys

set_option maxRecDepth 20000 in
set_option maxHeartbeats 2000000 in
theorem walk (w : World) (v : Value) (x : List Int) (h : BytesR (.old w) w v x) : Calls Tryz.prog 7 #[v] w (Ret w fun r _ => r = .bool true) := by
  have hcall := big_c w v _ x h
  have H := Lib.hid (fun (w' : World) (e : Ext w w') => stable_bytes.ext h e)
  clear h
  cases hb : decide (4096 < x.length) with
  | true =>
    rw [hb] at hcall
    clear hb
    go_enter Tryz.func7, Tryz.ntmps7
    go_wp2_with fail
    refine Calls.mono hcall ?_
    rintro e w1 hr
    obtain ⟨rfl, hd, e1⟩ := retq_ext hr
    clear hr hcall
    go_wp2_with fail
    go_ret
    exact ⟨_, rfl, rfl, e1⟩
  | false =>
    rw [hb] at hcall
    clear hb
    go_enter Tryz.func7, Tryz.ntmps7
    go_wp2_with fail
    refine Calls.mono hcall ?_
    rintro e w1 hr
    obtain ⟨rfl, hd, e1⟩ := retq_ext hr
    clear hr hcall hd
    have hcall := DrawIssueKeys_c w1 v _ x (H.out w1 e1)
    go_wp2_with fail
    refine Calls.mono hcall ?_
    rintro e w2 hr
    obtain ⟨_, rfl, ⟨mk, vt, t, vc, cuts, vp, row, most, rfl, hmost, ht, hc, hp⟩, e2⟩ := ret_ext hr
    clear hr hcall
    have HE := Lib.hid (e1.trans e2)
    obtain ⟨a1, n1, k1, rfl, -⟩ := SliceR.shape ht
    obtain ⟨a2, n2, k2, rfl, -⟩ := SliceR.shape hc
    obtain ⟨a3, n3, k3, rfl, -⟩ := SliceR.shape hp
    have HM := Lib.hid hmost
    clear e1 e2 hmost
    obtain ⟨⟨L, bad⟩, hiss⟩ : ∃ q, issueKeys mk t cuts row most = q := ⟨_, rfl⟩
    have HF : Hid (bad = 0 → ∀ l ∈ L, canIssue mk t cuts row l = (true, 0) ∧ ∃ c, changedOf mk t cuts row l = (c, 0) ∧ (easiest mk t cuts row).2.2 = 0 ∧ (easiest mk t cuts row).2.1 ≤ (c.length : Int)) := fun h0 l hl => issue_facts (by rw [hiss, h0]) l hl
    unfold sysV
    go_wp2_with fail
    generalize hw3 : World.alloc w2 _ = w3
    obtain ⟨e3, S3⟩ := sys_box hw3
    clear hw3
    obtain ⟨b3, hb3⟩ : ∃ b3, w2.heap.size = b3 := ⟨_, rfl⟩
    rw [hb3] at S3
    simp only [hb3]
    have HS := Lib.hid S3
    have HT := Lib.hid (fun (w' : World) (e : Ext w3 w') => stable_rows.ext ht (e3.trans e))
    have HC := Lib.hid (fun (w' : World) (e : Ext w3 w') => stable_rows.ext hc (e3.trans e))
    have HP := Lib.hid (fun (w' : World) (e : Ext w3 w') => stable_ints.ext hp (e3.trans e))
    replace HE := Lib.hid (HE.out.trans e3)
    have r3 := Ext.refl w3
    clear ht hc hp S3 e3 hb3
    have hcall := IssueKeys_c w3 mk _ _ t (HT.out _ r3) _ _ cuts (HC.out _ r3) _ _ row (HP.out _ r3) most HM.out
    rw [hiss] at hcall
    unfold sysV at hcall
    refine Calls.mono hcall ?_
    rintro e w4 hr
    obtain ⟨_, rfl, ⟨u1, rfl, i1⟩, e4⟩ := ret_ext hr
    clear hr hcall
    simp only at i1
    obtain ⟨a4, n4, k4, rfl, hn4, hm4, -⟩ := SliceR.shape i1
    have Hn4 := Lib.hid hn4
    have hcall := IssueKeysSpec_c w4 mk _ _ t (HT.out _ e4) _ _ cuts (HC.out _ e4) _ _ row (HP.out _ e4) most HM.out
    rw [hiss] at hcall
    unfold sysV at hcall
    obtain ⟨c0, c1, c2, c3, c4, c5⟩ := HS.out.ext e4
    have HI := Lib.hid (fun (w' : World) (e : Ext w4 w') => stable_rows.ext i1 e)
    clear hiss i1 hn4
    go_wp2_with fail
    refine Calls.mono hcall ?_
    rintro e w5 hr
    obtain ⟨_, rfl, ⟨u2, rfl, i2⟩, b5⟩ := ret_ext hr
    clear hr hcall c0 c1 c2 c3 c4 c5
    simp only at i2
    obtain ⟨a5, n5, k5, rfl, -⟩ := SliceR.shape i2
    have HJ := Lib.hid (fun (w' : World) (e : Ext w5 w') => stable_rows.ext i2 e)
    have HE5 := Lib.hid (e4.trans b5)
    have HE45 := Lib.hid b5
    have hcall := DrawEasiestKey_c w5 v _ x (H.out w5 (HE.out.trans HE5.out))
    clear i2 e4 b5
    go_wp2_with fail
    refine Calls.mono hcall ?_
    rintro e w6 hr
    obtain ⟨_, rfl, ⟨mk2, vt2, t2, vc2, cuts2, vp2, row2, rfl, ht, hc, hp⟩, e6⟩ := ret_ext hr
    clear hr hcall
    obtain ⟨a6, n6, k6, rfl, -⟩ := SliceR.shape ht
    obtain ⟨a7, n7, k7, rfl, -⟩ := SliceR.shape hc
    obtain ⟨a8, n8, k8, rfl, -⟩ := SliceR.shape hp
    obtain ⟨⟨kk, en, one⟩, heas⟩ : ∃ q, easiest mk2 t2 cuts2 row2 = q := ⟨_, rfl⟩
    have HG : Hid (one = 0 → ∃ c, changedOf mk2 t2 cuts2 row2 kk = (c, 0) ∧ (c.length : Int) = en) := fun h0 => easy_facts (by rw [heas, h0])
    unfold sysV
    go_wp2_with fail
    generalize hw7 : World.alloc w6 _ = w7
    obtain ⟨e7, S7⟩ := sys_box hw7
    clear hw7
    obtain ⟨b11, hb11⟩ : ∃ b11, w6.heap.size = b11 := ⟨_, rfl⟩
    rw [hb11] at S7
    simp only [hb11]
    have HS2 := Lib.hid S7
    have HT2 := Lib.hid (fun (w' : World) (e : Ext w7 w') => stable_rows.ext ht (e7.trans e))
    have HC2 := Lib.hid (fun (w' : World) (e : Ext w7 w') => stable_rows.ext hc (e7.trans e))
    have HP2 := Lib.hid (fun (w' : World) (e : Ext w7 w') => stable_ints.ext hp (e7.trans e))
    have HE57 := Lib.hid (e6.trans e7)
    have r7 := Ext.refl w7
    clear ht hc hp S7 e7 e6 hb11
    have hcall := EasiestKey_c w7 mk2 _ _ t2 (HT2.out _ r7) _ _ cuts2 (HC2.out _ r7) _ _ row2 (HP2.out _ r7)
    rw [heas] at hcall
    unfold sysV at hcall
    refine Calls.mono hcall ?_
    rintro e w8 hr
    obtain ⟨_, rfl, ⟨u3, rfl, i3⟩, e8⟩ := ret_ext hr
    clear hr hcall
    simp only at i3
    obtain ⟨a9, n9, k9, rfl, -⟩ := SliceR.shape i3
    have hcall := EasiestKeySpec_c w8 mk2 _ _ t2 (HT2.out _ e8) _ _ cuts2 (HC2.out _ e8) _ _ row2 (HP2.out _ e8)
    rw [heas] at hcall
    unfold sysV at hcall
    obtain ⟨c0, c1, c2, c3, c4, c5⟩ := HS2.out.ext e8
    have HK := Lib.hid (fun (w' : World) (e : Ext w8 w') => stable_ints.ext i3 e)
    clear heas i3
    go_wp2_with fail
    refine Calls.mono hcall ?_
    rintro e w9 hr
    obtain ⟨_, rfl, ⟨u4, rfl, i4⟩, b9⟩ := ret_ext hr
    clear hr hcall c0 c1 c2 c3 c4 c5
    simp only at i4
    obtain ⟨aA, nA, kA, rfl, -⟩ := SliceR.shape i4
    have HE79 := Lib.hid (e8.trans b9)
    have HE89 := Lib.hid b9
    have HK2 := Lib.hid (fun (w' : World) (e : Ext w9 w') => stable_ints.ext i4 e)
    have HE59 := Lib.hid (HE57.out.trans HE79.out)
    clear i4 b9 e8
    have hcall := likeLists_c w9 _ _ _ _ L L (HI.out _ (HE45.out.trans HE59.out)) (HJ.out _ HE59.out)
    rw [show decide (L = L) = true by simp] at hcall
    go_wp2_with fail
    refine Calls.mono hcall ?_
    rintro e wa hr
    obtain ⟨rfl, -, ba⟩ := retq_ext hr
    clear hr hcall
    have hcall := likeInts_c wa _ _ _ _ kk kk (HK.out _ (HE89.out.trans ba)) (HK2.out _ ba)
    rw [show decide (kk = kk) = true by simp] at hcall
    have HBa := Lib.hid ba
    clear ba
    go_wp2_with fail
    refine Calls.mono hcall ?_
    rintro e wb hr
    obtain ⟨rfl, -, bb⟩ := retq_ext hr
    clear hr hcall
    have HB9 := Lib.hid (HBa.out.trans bb)
    clear bb
    go_upto_if 103 with fail
    go_cut [] (fun wx => Ext wb wx)
    case first =>
      by_cases h1 : one = 0
      · subst h1
        obtain ⟨c, hch, hcl⟩ := HG.out rfl
        have hcall := ChangedDoors_c wb mk2 _ _ t2 (HT2.out _ (HE79.out.trans HB9.out)) _ _ cuts2 (HC2.out _ (HE79.out.trans HB9.out)) _ _ row2 (HP2.out _ (HE79.out.trans HB9.out)) _ _ kk (HK.out _ (HE89.out.trans HB9.out))
        rw [hch] at hcall
        unfold sysV at hcall
        obtain ⟨c0, c1, c2, c3, c4, c5⟩ := HS2.out.ext (HE79.out.trans HB9.out)
        have HCl := Lib.hid hcl
        clear hch hcl
        go_wp2_with fail
        refine Calls.mono hcall ?_
        rintro e wc hr
        obtain ⟨_, rfl, ⟨u5, rfl, i5⟩, bc⟩ := ret_ext hr
        clear hr hcall c0 c1 c2 c3 c4 c5
        simp only at i5
        obtain ⟨aB, nB, kB, rfl, hnB, -⟩ := SliceR.shape i5
        have hne : ((nB : Int) != en) = false := by rw [← HCl.out, hnB]; simp
        have HBc := Lib.hid bc
        clear i5 hnB bc
        go_wp2_with fail
        go_meet
        exact HBc.out
      · have h1' : (one == 0) = false := by rw [beq_eq_false_iff_ne]; exact h1
        go_wp2_with fail
        go_meet
        exact Ext.refl _
    case rest =>
      have HEx := Lib.hid hcut
      clear hcut
      by_cases hbad : bad = 0
      · subst hbad
        have HF' := Lib.hid (HF.out rfl)
        obtain ⟨⟨ek, ln, lc⟩, he2⟩ : ∃ q, easiest mk t cuts row = q := ⟨_, rfl⟩
        rw [he2] at HF'
        have HEc := Lib.hid (HE5.out.trans (HE59.out.trans (HB9.out.trans HEx.out)))
        have hcall := EasiestKey_c wc mk _ _ t (HT.out _ HEc.out) _ _ cuts (HC.out _ HEc.out) _ _ row (HP.out _ HEc.out)
        rw [he2] at hcall
        unfold sysV at hcall
        obtain ⟨c0, c1, c2, c3, c4, c5⟩ := HS.out.ext HEc.out
        clear he2 HF HG
        go_wp2_with fail
        refine Calls.mono hcall ?_
        rintro e wd hr
        obtain ⟨_, rfl, ⟨u6, rfl, -⟩, bd⟩ := ret_ext hr
        clear hr hcall c0 c1 c2 c3 c4 c5
        have HEd := Lib.hid (HEc.out.trans bd)
        have HLd : Hid (∀ w', Ext wd w' → RowsR (.new w3 w4) w' (.slice a4 n4 k4) L) := fun w' e => HI.out w' ((HE45.out.trans (HE59.out.trans (HB9.out.trans HEx.out))).trans (bd.trans e))
        clear bd
        go_wp2_with fail
        go_loopw [25, 26, 27, 28, 29] (fun s25 _ _ _ _ wr => ∃ k : Nat, k ≤ n4 ∧ s25 = .int .i64 k ∧ Ext wd wr) (fun s25 _ _ _ _ _ => n4 - (intOf s25).toNat)
        case atStart => exact ⟨0, Nat.zero_le _, rfl, Ext.refl _⟩
        case round =>
          obtain ⟨k, hk, rfl, ew⟩ := hrel
          by_cases hlt : k < n4
          · obtain ⟨aq, nq', cq, heq, hnq, -, -, -, -, hel⟩ := SliceR.shape (HLd.out wr ew)
            injection heq with q1 q2 q3
            subst q1; subst q2; subst q3
            have hkL : k < L.length := by rw [← Hn4.out]; exact hlt
            obtain ⟨bq, oq, rfl, -, -, -, uq, yq, hcq, -, -, hEq⟩ := hel k hkL
            obtain ⟨ai, ni, ki, rfl, -⟩ := SliceR.shape hEq
            obtain ⟨hcan, c, hch, hlc, hle⟩ := HF'.out L[k] (List.getElem_mem hkL)
            try simp only at hlc hle
            subst hlc
            generalize L[k] = key at *
            have hki : (k : Int) < (n4 : Int) := by omega
            have HCel : Hid (∀ w', Ext wr w' → w'.cell? ⟨b3, 0, none⟩ = some (.int .i64 mk.c) ∧ w'.cell? ⟨b3, 1, none⟩ = some (.int .i64 mk.d) ∧ w'.cell? ⟨b3, 2, none⟩ = some (.int .i64 mk.s) ∧ w'.cell? ⟨b3, 3, none⟩ = some (.int .i64 mk.m) ∧ w'.cell? ⟨b3, 4, none⟩ = some (.int .i64 mk.l) ∧ w'.cell? ⟨b3, 5, none⟩ = some (.slice a1 n1 k1) ∧ w'.cell? ⟨bq, oq + k, none⟩ = some (.slice ai ni ki)) := fun w' e => by
              have q := HS.out.ext (HEd.out.trans (ew.trans e))
              exact ⟨q.c0, q.c1, q.c2, q.c3, q.c4, q.c5, e.cell hcq⟩
            have HCan : Hid (∀ w', Ext wr w' → Calls Tryz.prog 42 #[.agg #[.int .i64 mk.c, .int .i64 mk.d, .int .i64 mk.s, .int .i64 mk.m, .int .i64 mk.l, .slice a1 n1 k1], .slice a2 n2 k2, .slice a3 n3 k3, .slice ai ni ki] w' (Ret w' fun r _ => r = .tuple #[.bool true, .int .i64 0])) := fun w' e => by
              have q := CanIssue_c w' mk _ _ t (HT.out _ (HEd.out.trans (ew.trans e))) _ _ cuts (HC.out _ (HEd.out.trans (ew.trans e))) _ _ row (HP.out _ (HEd.out.trans (ew.trans e))) _ _ key (stable_ints.ext hEq e)
              rw [hcan] at q
              exact q
            have HChg : Hid (∀ w', Ext wr w' → Calls Tryz.prog 23 #[.agg #[.int .i64 mk.c, .int .i64 mk.d, .int .i64 mk.s, .int .i64 mk.m, .int .i64 mk.l, .slice a1 n1 k1], .slice a2 n2 k2, .slice a3 n3 k3, .slice ai ni ki] w' (Ret w' (IntsCode w' (c, 0)))) := fun w' e => by
              have q := ChangedDoors_c w' mk _ _ t (HT.out _ (HEd.out.trans (ew.trans e))) _ _ cuts (HC.out _ (HEd.out.trans (ew.trans e))) _ _ row (HP.out _ (HEd.out.trans (ew.trans e))) _ _ key (stable_ints.ext hEq e)
              rw [hch] at q
              exact q
            have HEw := Lib.hid ew
            have HLe := Lib.hid hle
            have hr0 := Ext.refl wr
            clear hel hcq hEq hcan hch hle hnq hkL ew
            go_wp2_with fail
            first | (go_region_held3 (fun w' => w'.cell? ⟨b3, 0, none⟩ = some (.int .i64 mk.c) ∧ w'.cell? ⟨b3, 1, none⟩ = some (.int .i64 mk.d) ∧ w'.cell? ⟨b3, 2, none⟩ = some (.int .i64 mk.s) ∧ w'.cell? ⟨b3, 3, none⟩ = some (.int .i64 mk.m) ∧ w'.cell? ⟨b3, 4, none⟩ = some (.int .i64 mk.l) ∧ w'.cell? ⟨b3, 5, none⟩ = some (.slice a1 n1 k1) ∧ w'.cell? ⟨bq, oq + k, none⟩ = some (.slice ai ni ki)) (exact HCel.out _ (by repeat (first | exact Ext.refl _ | assumption | (refine Ext.trans ?_ (Ext.alloc _ _)) | (refine Ext.trans ?_ (Ext.drew _)) | (refine Ext.trans ?_ (by assumption))))) (first | (go_at_call 42; (with_reducible refine (HCan.out _ (by repeat (first | exact Ext.refl _ | assumption | (refine Ext.trans ?_ (Ext.alloc _ _)) | (refine Ext.trans ?_ (Ext.drew _)) | (refine Ext.trans ?_ (by assumption))))).mono ?_); rintro e w7 hr7; obtain ⟨r7, rfl, rfl, e7⟩ := ret_ext hr7; clear hr7; have e77 : Ext wr w7 := (by repeat (first | exact Ext.refl _ | assumption | (refine Ext.trans ?_ (Ext.alloc _ _)) | (refine Ext.trans ?_ (Ext.drew _)) | (refine Ext.trans ?_ (by assumption))))) | fail)) | fail
            clear e7
            go_wp2_with fail
            first | (go_region_held3 (fun w' => w'.cell? ⟨b3, 0, none⟩ = some (.int .i64 mk.c) ∧ w'.cell? ⟨b3, 1, none⟩ = some (.int .i64 mk.d) ∧ w'.cell? ⟨b3, 2, none⟩ = some (.int .i64 mk.s) ∧ w'.cell? ⟨b3, 3, none⟩ = some (.int .i64 mk.m) ∧ w'.cell? ⟨b3, 4, none⟩ = some (.int .i64 mk.l) ∧ w'.cell? ⟨b3, 5, none⟩ = some (.slice a1 n1 k1) ∧ w'.cell? ⟨bq, oq + k, none⟩ = some (.slice ai ni ki)) (exact HCel.out _ (by repeat (first | exact Ext.refl _ | assumption | (refine Ext.trans ?_ (Ext.alloc _ _)) | (refine Ext.trans ?_ (Ext.drew _)) | (refine Ext.trans ?_ (by assumption))))) (first | (go_at_call 23; (with_reducible refine (HChg.out _ (by repeat (first | exact Ext.refl _ | assumption | (refine Ext.trans ?_ (Ext.alloc _ _)) | (refine Ext.trans ?_ (Ext.drew _)) | (refine Ext.trans ?_ (by assumption))))).mono ?_); rintro e w8 hr8; obtain ⟨r8, rfl, ⟨u8, rfl, i8⟩, e8⟩ := ret_ext hr8; clear hr8; obtain ⟨aC, nC, kC, rfl, hnC, -⟩ := SliceR.shape i8; have e88 : Ext wr w8 := (by repeat (first | exact Ext.refl _ | assumption | (refine Ext.trans ?_ (Ext.alloc _ _)) | (refine Ext.trans ?_ (Ext.drew _)) | (refine Ext.trans ?_ (by assumption))))) | fail)) | fail
            try simp only at hnC
            have hlt2 : decide ((nC : Int) < ln) = false := decide_eq_false (by have := HLe.out; rw [hnC]; omega)
            have hlt3 : decide ((c.length : Int) < ln) = false := decide_eq_false (by have := HLe.out; omega)
            have hlt4 : ¬ ((nC : Int) < ln) := by have := HLe.out; rw [hnC]; omega
            have hlt5 : ¬ ((c.length : Int) < ln) := by have := HLe.out; omega
            have HE8 := Lib.hid (HEw.out.trans e88)
            clear i8 e8 e88 e77 hnC hr0
            go_wp2_with fail
            exact ⟨⟨k + 1, by omega, by go_num, HE8.out⟩, by simp [intOf]; omega⟩
          · have HEw := Lib.hid ew
            clear ew
            go_wp2_with fail
            go_ret
            exact ⟨_, rfl, rfl, HE.out.trans (HEd.out.trans HEw.out)⟩
      · have hne : (bad != 0) = true := by rw [bne_iff_ne]; exact hbad
        go_wp2_with fail
        go_ret
        exact ⟨_, rfl, rfl, HE.out.trans (HE5.out.trans (HE59.out.trans (HB9.out.trans HEx.out)))⟩


/-! ### the row -/
theorem own : ownKnob Tryz.prog.godebug = none := by kernel_rfl
theorem laidOut : laidOutB Tryz.prog = true := by kernel_rfl
set_option maxRecDepth 100000 in
theorem lifted (os : Os) (started : os.Started) (H : Type) (enc : TypeId × Value → H) :
    ReturnsInHanded {} Tryz.checked os 7 .any (Rows.fnIssueKeysSpec.pre6 enc Tryz.prog Tryz.f7 Rows.fnIssueKeysRow.domain false) (Rows.fnIssueKeysSpec.post enc Tryz.prog Tryz.f7 false true false false) := by
  refine returnsInHanded_of_change (C := Tryz.checked) own started (by kernel_rfl) Tryz.func7
    (ChangeSpec.witness6 (enc := enc) (C := Tryz.checked) false ⟨#[], #[.slice none 0 0], []⟩ 8 (by kernel_rfl) (by kernel_rfl) (by kernel_rfl) (by kernel_rfl)) ?_
  intro W base args ds gs before hval0 hW hcnd _
  have hval : ∀ (j : Nat) t v, Tryz.f7.params[j]? = some t → args[j]? = some v → Value.okWide Tryz.prog W .any base t v := hval0
  have hW' := hW
  obtain ⟨p, q, hA0, hV, rfl, hfz, hnd⟩ := hW
  have hA : DataW.TrodAll enc Tryz.prog W 0 (fun _ => true) true Tryz.f7.params.toList args.toList ds p := hA0
  rw [Tryz.params7] at hA hval
  obtain ⟨v0, vs0, d0, ds0, p0, q0, hargs, rfl, rfl, h0, r0⟩ := trodAll_cons hA
  obtain ⟨rfl, rfl, rfl⟩ := trodAll_nil r0
  obtain rfl : args = #[v0] := by cases args; simp_all
  obtain ⟨rfl, rfl⟩ := trodVars_none hV
  have k0 := h0
  have lt0 : ∀ x ∈ p0, x.block < W.heap.size := by obtain ⟨m, hm⟩ := k0; exact DataW.trod_lt m _ _ _ hm
  obtain ⟨a0, len0, cap0, rfl⟩ := okWide_slice Tryz.underlying22 (hval 0 22 v0 rfl rfl)
  obtain ⟨x0, w0⟩ : ∃ xs, BytesR (.old W) W (.slice a0 len0 cap0) xs := by obtain ⟨fuel, hf⟩ := h0; exact open_BytesR Tryz.underlying22 Tryz.underlying5 (by kernel_rfl) hf
  clear hA0 hval0
  refine (walk W _ x0 w0).mono fun e W' hret => ?_
  obtain ⟨r, rfl, rfl, bel⟩ := hret
  exact ⟨_, rfl, _, _, _, [], _, [], hW', trodAll_mk1 (shut_bool Tryz.underlying4 _), (trodAll_cons_mk (Below.trod laidOut (by kernel_rfl) (of_decide_eq_true (by kernel_rfl)) k0 bel lt0) trodAll_mk0), rfl, bel.frame _, fun h => by cases h⟩

theorem over : Rows.fnIssueKeysRow.holds Tryz.pinned (OpenSpec.ofChange Rows.fnIssueKeysSpec) :=
  OpenClaim.holds_of_wide 7 Tryz.f7 rfl rfl rfl rfl rfl rfl rfl ⟨rfl, rfl, rfl, rfl, rfl⟩ rfl rfl rfl rfl rfl (by kernel_rfl) Tryz.func7 (by kernel_rfl)
    (of_decide_eq_true (by kernel_rfl)) (by unfold Func.isWrapper; first | (rw [if_pos (by decide +kernel)]; kernel_rfl) | (rw [if_neg (by decide +kernel)]; exact ⟨rfl, rfl⟩))
    (fun os started H enc _ => lifted os started H enc)

theorem proved : Rows.FnIssueKeysSaid := over

end fnIssueKeys
end Go.Proofs.YtegmognpofcfiaaGreat
