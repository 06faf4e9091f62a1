/- Proved: the text of a chart, the reference. -/
import Derived.Test.YtkeikjedbfomnaaGreatDoorChecked
import Derived.Deep.RegionHeld3
import Derived.Test.YtkeikjedbfomnaaGreatDoorUChartBody
import Derived.Test.YtkeikjedbfomnaaGreatDoorUDoorLineS
import Derived.Test.YtkeikjedbfomnaaGreatDoorUPinTextS
namespace Go.Proofs.YtkeikjedbfomnaaGreatDoor
open Go.ChangeShapes Go.WideShapes Go.ChangeAt Go.RowKit
set_option linter.unusedVariables false

theorem joinI_snoc (sep : List UInt8) (st : List Int) {k : Nat} (h : k < st.length) : joinI (st.take (k + 1)) sep = if k = 0 then numD (st.getD k 0) else joinI (st.take k) sep ++ (sep ++ numD (st.getD k 0)) := by
  unfold joinI
  rw [take_snocG 0 st h, List.map_append]
  show Lib.join ((st.take k).map numD ++ [numD (st.getD k 0)]) sep = _
  rw [join_snoc]
  by_cases hi : k = 0
  · subst hi; rfl
  · rw [if_neg hi, if_neg (by simp; exact ⟨hi, fun e => by rw [e] at h; simp at h⟩)]
theorem joinI_first (sep : List UInt8) (st : List Int) (h : 0 < st.length) : strOf (joinI (st.take 0) sep) ++ strOf (numD (st.getD 0 0)) = strOf (joinI (st.take 1) sep) := by
  rw [strOf_app, show (1 : Nat) = 0 + 1 from rfl, joinI_snoc sep st h, if_pos rfl]
  rfl
theorem joinI_next (st : List Int) {k : Nat} (h0 : k ≠ 0) (h : k < st.length) : (strOf (joinI (st.take k) [32]) ++ (⟨#[32]⟩ : ByteArray)) ++ strOf (numD (st.getD k 0)) = strOf (joinI (st.take (k + 1)) [32]) := by
  have e : (⟨#[32]⟩ : ByteArray) = strOf [32] := rfl
  rw [e, strOf_app, strOf_app, joinI_snoc [32] st h, if_neg h0]
  simp [List.append_assoc]
theorem joinI_size {st : List Int} (hl : st.length ≤ 5) (h : ∀ x ∈ st, 0 ≤ x ∧ x < 10) (k : Nat) : (strOf (joinI (st.take k) [32])).size ≤ 60 := by
  have h1 := join_len [32] 1 ((st.take k).map numD) (fun y hy => by
    obtain ⟨x, hx, rfl⟩ := List.mem_map.1 hy
    rw [numD_one (h x (List.mem_of_mem_take hx))]
    exact Nat.le_refl _)
  rw [List.length_map, List.length_take] at h1
  rw [strOf_size]
  have e : (joinI (st.take k) [32]).length = (Lib.join ((st.take k).map numD) [32]).length := rfl
  rw [e]
  simp only [List.length_singleton] at h1
  omega

set_option maxRecDepth 20000 in
set_option maxHeartbeats 1000000 in
theorem l27Blanks_c (w : World) (v : Value) (z : Zone) (xs : List Int) (h : IntsR z w v xs) (hin : ∀ x ∈ xs, 0 ≤ x ∧ x < 10) (hl : xs.length ≤ 5) :
    Calls Tryz.prog 45 #[v] w (Ret w fun r _ => r = .string (strOf (joinI xs [32]))) := by
  have HD : Hid (∀ (k : Nat) (_ : k < xs.length) (w' : World), Calls Tryz.prog 67 #[.int .i64 (xs.getD k 0)] w' (Ret w' fun r _ => r = .string (strOf (numD (xs.getD k 0))))) := fun k hk w' => by
    have hx := hin (xs.getD k 0) (by rw [List.getD_eq_getElem?_getD, List.getElem?_eq_getElem hk]; exact List.getElem_mem hk)
    have := l01Dec_c (xs.getD k 0).toNat w' (by omega)
    rw [Int.toNat_of_nonneg hx.1] at this
    exact this
  have HNz : Hid (∀ k, k < xs.length → (strOf (numD (xs.getD k 0))).size = 1) := fun k hk => by
    rw [strOf_size]
    exact numD_one (hin _ (by rw [List.getD_eq_getElem?_getD, List.getElem?_eq_getElem hk]; exact List.getElem_mem hk))
  have HF := Lib.hid (fun (h : 0 < xs.length) => joinI_first [32] xs h)
  have HNx := Lib.hid (fun (k : Nat) (h0 : k ≠ 0) (h : k < xs.length) => joinI_next xs h0 h)
  have HSz := Lib.hid (fun (k : Nat) => joinI_size hl hin k)
  have HR : Hid (strOf (joinI (xs.take xs.length) [32]) = strOf (joinI xs [32])) := by show _ = _; rw [List.take_length]
  have H0 : Hid (strOf (joinI (xs.take 0) [32]) = ⟨#[]⟩) := rfl
  generalize strOf (joinI xs [32]) = res at *
  generalize hqq : (fun k => strOf (joinI (xs.take k) [32])) = Q at *
  have HEQ : Hid (∀ k, strOf (joinI (xs.take k) [32]) = Q k) := fun k => by rw [← hqq]
  clear hqq
  obtain ⟨a, n, cap, rfl, hn, hmax, -⟩ := SliceR.shape h
  have HX := Lib.hid (fun (k : Nat) (hk : k < n) => ints_at h hk)
  rw [← hn] at HD HNz HF HNx HR hl
  clear h hin hn
  go_enter Tryz.func45, Tryz.ntmps45
  go_wp2_with fail
  go_loopw [3, 4] (fun s3 s4 wr => ∃ k : Nat, k ≤ n ∧ s4 = .int .i64 (k : Int) ∧ s3 = .string (Q k) ∧ Ext w wr) (fun _ s4 _ => n - (intOf s4).toNat)
  case atStart => exact ⟨0, Nat.zero_le _, rfl, by rw [← HEQ.out, H0.out], Ext.refl _⟩
  case round =>
    obtain ⟨k, hk, rfl, rfl, ew⟩ := hrel
    have hq := HSz.out k
    rw [HEQ.out] at hq
    by_cases hlk : k < n
    · obtain ⟨b1, o1, rfl, -, hcy⟩ := HX.out k hlk
      replace hcy := hcy wr ew
      have HDk := Lib.hid (HD.out k hlk wr)
      have hnz := HNz.out k hlk
      have hs2 : ¬ (9223372036854775807 < (Q k).size + 1) := by omega
      have Hfst : Hid (k = 0 → Q k ++ strOf (numD (xs.getD k 0)) = Q (k + 1)) := fun h => by subst h; rw [← HEQ.out, ← HEQ.out]; exact HF.out (by omega)
      have Hnxt : Hid (k ≠ 0 → (Q k ++ (⟨#[32]⟩ : ByteArray)) ++ strOf (numD (xs.getD k 0)) = Q (k + 1)) := fun h => by rw [← HEQ.out, ← HEQ.out]; exact HNx.out k h hlk
      generalize strOf (numD (xs.getD k 0)) = sk at *
      generalize xs.getD k 0 = x at *
      by_cases hk0 : k = 0
      · have hbk : decide ((0 : Int) < (k : Int)) = false := decide_eq_false (by omega)
        have hbn2 : decide (0 < k) = false := decide_eq_false (by omega)
        have HH := Lib.hid (Hfst.out hk0)
        have hs3 : ¬ (9223372036854775807 < (Q k).size + sk.size) := by omega
        clear Hfst Hnxt hk0
        go_wp2_with fail
        refine Calls.mono HDk.out ?_
        rintro e w4 hr
        obtain ⟨r, rfl, rfl, e4⟩ := ret_ext hr
        clear hr
        go_wp2_with fail
        go_roundw
        case rel => exact ⟨k + 1, by omega, by go_num, by rw [← HH.out], ew.trans e4⟩
        case measure => simp [intOf]; omega
      · have hbk : decide ((0 : Int) < (k : Int)) = true := decide_eq_true (by omega)
        have hbn2 : decide (0 < k) = true := decide_eq_true (by omega)
        have HH := Lib.hid (Hnxt.out hk0)
        have hs3 : ¬ (9223372036854775807 < (Q k).size + 1 + sk.size) := by omega
        clear Hfst Hnxt hk0
        go_wp2_with fail
        refine Calls.mono HDk.out ?_
        rintro e w4 hr
        obtain ⟨r, rfl, rfl, e4⟩ := ret_ext hr
        clear hr
        go_wp2_with fail
        go_roundw
        case rel => exact ⟨k + 1, by omega, by go_num, by rw [← HH.out], ew.trans e4⟩
        case measure => simp [intOf]; omega
    · have hkn : k = n := by omega
      subst hkn
      have HRr := HR.out
      rw [HEQ.out] at HRr
      have HH := Lib.hid HRr
      clear HRr
      go_wp2_with fail
      go_ret
      exact ⟨_, rfl, by rw [← HH.out]; rfl, ew⟩

set_option maxRecDepth 20000 in
set_option maxHeartbeats 1000000 in
theorem l27Chart_c (w : World) (mk : MK) (v : Value) (z : Zone) (t : List (List Int)) (h : RowsR z w v t) (u : Value) (y : Zone) (cuts : List (List Int)) (hc : RowsR y w u cuts) (ok : DesignOk mk t cuts) :
    Calls Tryz.prog 25 #[sysV mk v, u] w (Ret w fun r _ => r = .string (chartV mk t cuts)) := by
  have hm := design_maker ok
  have hdg := makerDigs hm
  have HBl : Hid (∀ (w' : World) (x : Value) (zx : Zone), IntsR zx w' x [mk.c, mk.d, mk.s, mk.m, mk.l] → Calls Tryz.prog 45 #[x] w' (Ret w' fun r _ => r = .string (strOf (joinI [mk.c, mk.d, mk.s, mk.m, mk.l] [32])))) := fun w' x zx g => l27Blanks_c w' x zx _ g hdg (by simp)
  have HI : Hid (∀ x ∈ [mk.c, mk.d, mk.s, mk.m, mk.l], I64 x) := fun x hx => by have := hdg x hx; unfold I64; omega
  have HMv : Hid (((⟨#[109, 97, 107, 101, 114, 32]⟩ : ByteArray) ++ strOf (joinI [mk.c, mk.d, mk.s, mk.m, mk.l] [32])) ++ (⟨#[10]⟩ : ByteArray) = strOf (chartD ((makerV mk :: keyLines t cuts 0) ++ doorLines mk t cuts 0))) := chartD_one (makerV mk)
  have hA : (strOf (joinI [mk.c, mk.d, mk.s, mk.m, mk.l] [32])).size ≤ 60 := by rw [strOf_size]; exact makerL_len hm
  have HKl := Lib.hid (fun (k : Nat) (hk : k < cuts.length) (w' : World) (e : Ext w w') => l27Key_c w' mk v z t (stable_rows.ext h e) u y cuts (stable_rows.ext hc e) ok k hk)
  have HDl := Lib.hid (fun (m : Nat) (hm : m < doorsOf t) (w' : World) (e : Ext w w') => l27Door_c w' mk v z t (stable_rows.ext h e) u y cuts (stable_rows.ext hc e) ok m hm)
  have HKs : Hid (∀ k, (strOf (chartD ((makerV mk :: keyLines t cuts k) ++ doorLines mk t cuts 0)) ++ keyLineV t cuts k) ++ (⟨#[10]⟩ : ByteArray) = strOf (chartD ((makerV mk :: keyLines t cuts (k + 1)) ++ doorLines mk t cuts 0))) := fun k => by
    rw [chartD_snoc, keyLines_succ]
    have e : doorLines mk t cuts 0 = [] := rfl
    rw [e]
    simp
  have HDs : Hid (∀ d, (strOf (chartD ((makerV mk :: keyLines t cuts cuts.length) ++ doorLines mk t cuts d)) ++ doorLineV d (pinsAt mk t cuts d)) ++ (⟨#[10]⟩ : ByteArray) = strOf (chartD ((makerV mk :: keyLines t cuts cuts.length) ++ doorLines mk t cuts (d + 1)))) := fun d => by
    rw [chartD_snoc, doorLines_succ]
    simp
  have HPz : Hid (∀ k, k ≤ cuts.length → (strOf (chartD ((makerV mk :: keyLines t cuts k) ++ doorLines mk t cuts 0))).size ≤ 10000) := fun k hk => part_size ok hk (Nat.zero_le _)
  have HQz : Hid (∀ d, d ≤ doorsOf t → (strOf (chartD ((makerV mk :: keyLines t cuts cuts.length) ++ doorLines mk t cuts d))).size ≤ 10000) := fun d hd => part_size ok (Nat.le_refl _) hd
  have HKz : Hid (∀ k, k < cuts.length → (keyLineV t cuts k).size ≤ 200) := fun k hk => keyLine_size ok hk
  have HDz : Hid (∀ d, d < doorsOf t → (doorLineV d (pinsAt mk t cuts d)).size ≤ 200) := fun d hd => doorLine_size ok hd
  have HPQ : Hid (strOf (chartD ((makerV mk :: keyLines t cuts cuts.length) ++ doorLines mk t cuts 0)) = strOf (chartD ((makerV mk :: keyLines t cuts cuts.length) ++ doorLines mk t cuts 0))) := rfl
  have HEnd : Hid (strOf (chartD ((makerV mk :: keyLines t cuts cuts.length) ++ doorLines mk t cuts (doorsOf t))) = chartV mk t cuts) := rfl
  have hk10 : cuts.length ≤ 10 := by have := ok.len; have := ok.eq; omega
  have hd12 : doorsOf t ≤ 12 := ok.doors.2
  have hl10 := ok.len
  obtain ⟨a, n, cap, rfl, hn, -⟩ := SliceR.shape h
  obtain ⟨b, off, rfl, a0, m0, cp, hmE, -, -, hcr, -⟩ := rows_at h (k := 0) (by omega)
  have hmE2 : doorsOf t = m0 := hmE.symm
  obtain ⟨a2, n2, cap2, rfl, hn2, -⟩ := SliceR.shape hc
  rw [hmE2] at HDl HQz HDz HEnd hd12
  rw [← hn2] at HKl HDs HPz HQz HKz HPQ HEnd hk10
  have hn0 : 0 < n := by omega
  have HCr : Hid (∀ w', Ext w w' → w'.cell? ⟨b, off, none⟩ = some (.slice a0 m0 cp)) := fun w' e => hcr w' e
  clear h hc ok hn hn2 hmE hmE2 hm hdg hcr hl10
  generalize hp : (fun k => strOf (chartD ((makerV mk :: keyLines t cuts k) ++ doorLines mk t cuts 0))) = Pk at *
  have HEP : Hid (∀ k, strOf (chartD ((makerV mk :: keyLines t cuts k) ++ doorLines mk t cuts 0)) = Pk k) := fun k => by rw [← hp]
  clear hp
  generalize hq : (fun d => strOf (chartD ((makerV mk :: keyLines t cuts n2) ++ doorLines mk t cuts d))) = Qd at *
  have HEQ : Hid (∀ d, strOf (chartD ((makerV mk :: keyLines t cuts n2) ++ doorLines mk t cuts d)) = Qd d) := fun d => by rw [← hq]
  clear hq
  have HKs' : Hid (∀ k, (Pk k ++ keyLineV t cuts k) ++ (⟨#[10]⟩ : ByteArray) = Pk (k + 1)) := fun k => by rw [← HEP.out, ← HEP.out]; exact HKs.out k
  have HDs' : Hid (∀ d, (Qd d ++ doorLineV d (pinsAt mk t cuts d)) ++ (⟨#[10]⟩ : ByteArray) = Qd (d + 1)) := fun d => by rw [← HEQ.out, ← HEQ.out]; exact HDs.out d
  have HPz' : Hid (∀ k, k ≤ n2 → (Pk k).size ≤ 10000) := fun k hk => by rw [← HEP.out]; exact HPz.out k hk
  have HQz' : Hid (∀ d, d ≤ m0 → (Qd d).size ≤ 10000) := fun d hd => by rw [← HEQ.out]; exact HQz.out d hd
  have HPQ' : Hid (Pk n2 = Qd 0) := by show _ = _; rw [← HEP.out, ← HEQ.out]
  have HEnd' : Hid (Qd m0 = chartV mk t cuts) := by show _ = _; rw [← HEQ.out]; exact HEnd.out
  have HMv' : Hid (((⟨#[109, 97, 107, 101, 114, 32]⟩ : ByteArray) ++ strOf (joinI [mk.c, mk.d, mk.s, mk.m, mk.l] [32])) ++ (⟨#[10]⟩ : ByteArray) = Pk 0) := by rw [← HEP.out]; exact HMv.out
  clear HKs HDs HPz HQz HPQ HEnd HMv HEP HEQ
  generalize chartV mk t cuts = res at *
  generalize hdv : (fun m => doorLineV m (pinsAt mk t cuts m)) = dV at *
  have HDV : Hid (∀ m, doorLineV m (pinsAt mk t cuts m) = dV m) := fun m => by rw [← hdv]
  clear hdv
  generalize keyLineV t cuts = kV at *
  generalize strOf (joinI [mk.c, mk.d, mk.s, mk.m, mk.l] [32]) = A at *
  have hs1 : ¬ (9223372036854775807 < 6 + A.size) := by omega
  have hs2 : ¬ (9223372036854775807 < 6 + A.size + 1) := by omega
  clear hA
  unfold sysV
  go_enter Tryz.func25, Tryz.ntmps25
  go_wp2_with fail
  generalize hw0 : World.alloc w _ = w0
  obtain ⟨e0, S0⟩ := sys_box hw0
  have z0 : w0.heap.size = w.heap.size + 1 := by rw [← hw0]; simp
  clear hw0
  have HS := Lib.hid S0
  clear S0
  generalize hw1 : World.alloc w0 _ = w1
  have e1 : Ext w0 w1 := by rw [← hw1]; exact Ext.alloc _ _
  have z1 : w1.heap.size = w.heap.size + 1 + 1 := by rw [← hw1]; simp; exact z0
  clear hw1
  have HO : IntsR ⟨w1.heap.size, (w1.alloc (.cells #[.int .i64 mk.c, .int .i64 mk.d, .int .i64 mk.s, .int .i64 mk.m, .int .i64 mk.l] 2)).heap.size, true⟩ (w1.alloc (.cells #[.int .i64 mk.c, .int .i64 mk.d, .int .i64 mk.s, .int .i64 mk.m, .int .i64 mk.l] 2)) (.slice (some ⟨w.heap.size + 1 + 1, 0, none⟩) 5 5) [mk.c, mk.d, mk.s, mk.m, mk.l] := by
    rw [← z1]
    exact OwnP.ints (OwnP.lit (f := Value.int .i64) (e := 2) (w := w1) (Nat.le_refl _) [mk.c, mk.d, mk.s, mk.m, mk.l] #[.int .i64 mk.c, .int .i64 mk.d, .int .i64 mk.s, .int .i64 mk.m, .int .i64 mk.l] rfl (by unfold maxLen; simp)) HI.out (Nat.le_refl _)
  have e2 : Ext w1 (w1.alloc (.cells #[.int .i64 mk.c, .int .i64 mk.d, .int .i64 mk.s, .int .i64 mk.m, .int .i64 mk.l] 2)) := Ext.alloc _ _
  have HB2 := Lib.hid (HBl.out _ _ _ HO)
  clear HO HBl HI z0 z1
  generalize w1.alloc (.cells #[.int .i64 mk.c, .int .i64 mk.d, .int .i64 mk.s, .int .i64 mk.m, .int .i64 mk.l] 2) = w2 at *
  refine Calls.mono HB2.out ?_
  rintro e w3 hr
  obtain ⟨r, rfl, rfl, e3⟩ := ret_ext hr
  clear hr HB2
  have e03 := (e1.trans e2).trans e3
  clear e1 e2 e3
  go_wp2_with fail
  go_loopw [6, 7] (fun s6 s7 wr => ∃ k : Nat, k ≤ n2 ∧ s7 = .int .i64 (k : Int) ∧ s6 = .string (Pk k) ∧ Ext w0 wr) (fun _ s7 _ => n2 - (intOf s7).toNat)
  case atStart => exact ⟨0, Nat.zero_le _, rfl, by rw [← HMv'.out], e03⟩
  case round =>
    obtain ⟨k, hk, rfl, rfl, ew⟩ := hrel
    have etw := e0.trans ew
    obtain ⟨c0, c1, c2, c3, c4, c5⟩ := HS.out.all ew
    by_cases hlt : k < n2
    · have HKk := Lib.hid (HKl.out k hlt wr etw)
      have hz1 := HPz'.out k hk
      have hz2 := HKz.out k hlt
      have HKe := Lib.hid (HKs'.out k)
      generalize kV k = km at *
      have hs3 : ¬ (9223372036854775807 < (Pk k).size + km.size) := by omega
      have hs4 : ¬ (9223372036854775807 < (Pk k).size + km.size + 1) := by omega
      go_wp2_with fail
      refine Calls.mono HKk.out ?_
      rintro e w4 hr
      obtain ⟨r, rfl, rfl, e4⟩ := ret_ext hr
      clear hr
      go_wp2_with fail
      go_roundw
      case rel => exact ⟨k + 1, by omega, by go_num, by rw [← HKe.out], ew.trans e4⟩
      case measure => simp [intOf]; omega
    · have hkn : k = n2 := by omega
      subst hkn
      have HPQ2 := Lib.hid HPQ'.out
      clear HKl HKs' HPz' HKz hlt
      obtain ⟨wo, rfl⟩ : ∃ wo, wo = wr := ⟨_, rfl⟩
      go_wp2_with fail
      go_loopw [6, 8] (fun s6 s8 wr => ∃ d : Nat, d ≤ m0 ∧ s8 = .int .i64 (d : Int) ∧ s6 = .string (Qd d) ∧ Ext w0 wr) (fun _ s8 _ => m0 - (intOf s8).toNat)
      case atStart => exact ⟨0, Nat.zero_le _, by go_num, by rw [← HPQ2.out], ew⟩
      case round =>
        obtain ⟨d, hd, rfl, rfl, ewd⟩ := hrel
        have etd := e0.trans ewd
        obtain ⟨d0, d1, d2, d3, d4, d5⟩ := HS.out.all ewd
        have hcr := HCr.out wr etd
        by_cases hlt : d < m0
        · have hdl := HDl.out d hlt wr etd
          rw [HDV.out] at hdl
          have HDd := Lib.hid hdl
          have hz1 := HQz'.out d hd
          have hz2 := HDz.out d hlt
          rw [HDV.out] at hz2
          have hde := HDs'.out d
          rw [HDV.out] at hde
          have HDe := Lib.hid hde
          generalize dV d = dm at *
          have hs3 : ¬ (9223372036854775807 < (Qd d).size + dm.size) := by omega
          have hs4 : ¬ (9223372036854775807 < (Qd d).size + dm.size + 1) := by omega
          clear hdl hde
          go_wp2_with fail
          refine Calls.mono HDd.out ?_
          rintro e w4 hr
          obtain ⟨r, rfl, rfl, e4⟩ := ret_ext hr
          clear hr
          go_wp2_with fail
          go_roundw
          case rel => exact ⟨d + 1, by omega, by go_num, by rw [← HDe.out], ewd.trans e4⟩
          case measure => simp [intOf]; omega
        · have hdn : d = m0 := by omega
          subst hdn
          go_wp2_with fail
          go_ret
          exact ⟨_, rfl, by rw [← HEnd'.out]; rfl, etd⟩

set_option maxRecDepth 20000 in
set_option maxHeartbeats 1000000 in
theorem ChartTextSpec_c (w : World) (mk : MK) (v : Value) (z : Zone) (t : List (List Int)) (h : RowsR z w v t) (u : Value) (y : Zone) (cuts : List (List Int)) (hc : RowsR y w u cuts) :
    Calls Tryz.prog 16 #[sysV mk v, u] w (Ret w fun r _ => r = StrCode (chartM mk t cuts)) := by
  have HD := Lib.hid (fun (w' : World) (e : Ext w w') => l21Code_c w' mk v z t (stable_rows.ext h e) u y cuts (stable_rows.ext hc e))
  have HK := Lib.hid (fun (h0 : designCode mk t cuts = 0) (w' : World) (e : Ext w w') => l27Chart_c w' mk v z t (stable_rows.ext h e) u y cuts (stable_rows.ext hc e) (designCode_zero h0))
  have H1 : Hid (designCode mk t cuts ≠ 0 → chartM mk t cuts = (⟨#[]⟩, designCode mk t cuts)) := chart_bad
  have H2 : Hid (designCode mk t cuts = 0 → 240 < (chartV mk t cuts).size → chartM mk t cuts = (⟨#[]⟩, 3)) := chart_long
  have H3 : Hid (designCode mk t cuts = 0 → ¬ 240 < (chartV mk t cuts).size → chartM mk t cuts = (chartV mk t cuts, 0)) := chart_ok
  obtain ⟨a, n, cap, rfl, -⟩ := SliceR.shape h
  obtain ⟨a2, n2, cap2, rfl, -⟩ := SliceR.shape hc
  clear h hc
  generalize chartV mk t cuts = cV at *
  generalize chartM mk t cuts = res at *
  generalize designCode mk t cuts = dc at *
  unfold sysV at *
  go_enter Tryz.func16, Tryz.ntmps16
  go_wp2_with fail
  generalize hw0 : World.alloc _ _ = w0
  obtain ⟨e0, S0⟩ := sys_box hw0
  clear hw0
  have HS := Lib.hid S0
  refine Calls.mono (HD.out w0 e0) ?_
  rintro e w1 hr
  obtain ⟨r, rfl, rfl, e1⟩ := ret_ext hr
  clear hr S0
  have et := e0.trans e1
  obtain ⟨c0, c1, c2, c3, c4, c5⟩ := HS.out.all e1
  by_cases hd : dc = 0
  · have hb : (dc != 0) = false := by rw [hd]; rfl
    have H2' := Lib.hid (H2.out hd)
    have H3' := Lib.hid (H3.out hd)
    have HK' := Lib.hid (HK.out hd w1 et)
    clear H1 H2 H3 HK HD
    subst hd
    go_wp2_with fail
    refine Calls.mono HK'.out ?_
    rintro e w2 hr
    obtain ⟨r, rfl, rfl, e2⟩ := ret_ext hr
    clear hr
    by_cases hl : 240 < cV.size
    · have hb1 : decide ((240 : Int) < (cV.size : Int)) = true := decide_eq_true (by omega)
      have hb2 : decide (240 < cV.size) = true := decide_eq_true hl
      have HH := Lib.hid (H2'.out hl)
      clear H2' H3'
      go_wp2_with fail
      go_ret2
      exact ⟨_, rfl, by rw [HH.out]; rfl, et.trans e2⟩
    · have hb1 : decide ((240 : Int) < (cV.size : Int)) = false := decide_eq_false (by omega)
      have hb2 : decide (240 < cV.size) = false := decide_eq_false hl
      have HH := Lib.hid (H3'.out hl)
      clear H2' H3'
      go_wp2_with fail
      go_ret2
      exact ⟨_, rfl, by rw [HH.out]; rfl, et.trans e2⟩
  · have hb : (dc != 0) = true := by rw [bne_iff_ne]; exact hd
    have HH := Lib.hid (H1.out hd)
    clear H1 H2 H3 HK HD
    go_wp2_with fail
    go_ret2
    exact ⟨_, rfl, by rw [HH.out]; rfl, et⟩
end Go.Proofs.YtkeikjedbfomnaaGreatDoor
