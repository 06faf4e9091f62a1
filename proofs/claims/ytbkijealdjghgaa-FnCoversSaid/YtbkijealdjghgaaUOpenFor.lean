/- Proved: spec.l11Open, for keys and doors that are indices of a table. -/
import Derived.Test.YtbkijealdjghgaaChecked
import Derived.Test.YtbkijealdjghgaaUPkA
import Derived.Test.YtbkijealdjghgaaURisingFacts
namespace Go.Proofs.Ytbkijealdjghgaa
open Go.ChangeShapes Go.WideShapes Go.ChangeAt Go.RowKit
set_option linter.unusedVariables false

def entry (t : List (List Int)) (k d : Int) : Int := (t.getD k.toNat []).getD d.toNat 0
theorem entry_eq {t : List (List Int)} {k : Int} (d : Int) (h : k.toNat < t.length) : entry t k d = (t[k.toNat]).getD d.toNat 0 := by unfold entry; simp [h]
def openAny (t : List (List Int)) (keys : List Int) (d : Int) : Bool := keys.any fun k => entry t k d == 1
def openAll (t : List (List Int)) (keys doors : List Int) : Bool := doors.all (openAny t keys)
theorem openAny_take {t : List (List Int)} {keys : List Int} {d : Int} (i : Nat) (h : i < keys.length) : openAny t (keys.take (i+1)) d = (openAny t (keys.take i) d || entry t (keys.getD i 0) d == 1) := by
  unfold openAny
  rw [List.take_add_one, List.getElem?_eq_getElem h, List.any_append]
  simp [h]
theorem openAll_bad {t : List (List Int)} {keys doors : List Int} (i : Nat) (h : i < doors.length) (hx : openAny t keys (doors.getD i 0) = false) : openAll t keys doors = false := by
  unfold openAll; rw [List.all_eq_false]; exact ⟨doors[i], List.getElem_mem h, by rw [show doors[i] = doors.getD i 0 by simp [h], hx]; simp⟩
theorem openAll_good {t : List (List Int)} {keys doors : List Int} (h : ∀ i, i < doors.length → openAny t keys (doors.getD i 0) = true) : openAll t keys doors = true := by
  unfold openAll; rw [List.all_eq_true]; intro y hy
  obtain ⟨i, hi, rfl⟩ := List.getElem_of_mem hy
  have := h i hi
  simpa [hi] using this

set_option maxRecDepth 20000 in
set_option maxHeartbeats 2000000 in
theorem l11Open_c (w : World) (u v x : Value) (z1 z2 z3 : Zone) (t : List (List Int)) (keys doors : List Int) (ht : RowsR z1 w u t) (hk : IntsR z2 w v keys) (hd : IntsR z3 w x doors)
    (gk : ∀ k ∈ keys, 0 ≤ k ∧ k < t.length) (gd : ∀ d ∈ doors, 0 ≤ d ∧ ∀ r ∈ t, d < r.length) :
    Calls Try.prog 46 #[u, v, x] w (RetQ w (.bool (openAll t keys doors))) := by
  obtain ⟨a, nt, ct, rfl, hnt, hmt, hel⟩ := SliceR.elem stable_ints ht
  obtain ⟨ak, nk, ck, rfl, hnk, hmk, -, -, -, hek⟩ := IntsR.shape hk
  obtain ⟨ad, nd, cd, rfl, hnd, hmd, -, -, -, hed⟩ := IntsR.shape hd
  have HT : Hid (∀ i j, i < nk → j < nd → ∃ b off b2 o2 n2 c2, a = some ⟨b, off, none⟩ ∧ (keys.getD i 0).toNat < nt ∧ w.cell? ⟨b, off + (keys.getD i 0).toNat, none⟩ = some (.slice (some ⟨b2, o2, none⟩) n2 c2) ∧ (doors.getD j 0).toNat < n2 ∧ 0 ≤ keys.getD i 0 ∧ keys.getD i 0 < (nt : Int) ∧ 0 ≤ doors.getD j 0 ∧ doors.getD j 0 < (n2 : Int) ∧ (n2 : Int) ≤ 9223372036854775807 ∧
      w.cell? ⟨b2, o2 + (doors.getD j 0).toNat, none⟩ = some (.int .i64 (entry t (keys.getD i 0) (doors.getD j 0)))) := fun i j hi hj => by
    have k1 := gk (keys.getD i 0) (by simp [show i < keys.length by omega])
    have d1 := gd (doors.getD j 0) (by simp [show j < doors.length by omega])
    have hkt : (keys.getD i 0).toNat < t.length := by omega
    obtain ⟨b, off, rfl, hb0, u, hc, hu⟩ := hel _ hkt
    have d2 := d1.2 _ (List.getElem_mem hkt)
    obtain ⟨a2, n2, c2, rfl, hn2, hm2, -, -, -, he2⟩ := IntsR.shape hu
    obtain ⟨b2, o2, rfl, hx, -, -⟩ := he2 (doors.getD j 0).toNat (by omega)
    refine ⟨b, off, b2, o2, n2, c2, rfl, by omega, hc, by omega, k1.1, by omega, d1.1, by omega, by omega, ?_⟩
    rw [hx, entry_eq _ hkt]
  have Hek := Lib.hid hek; clear hek
  have Hed := Lib.hid hed; clear hed
  have Hnt := Lib.hid hnt
  have Hnk := Lib.hid hnk
  have Hnd := Lib.hid hnd
  clear hnt hnk hnd hel ht hk hd gk gd
  go_enter Try.func46, Try.ntmps46
  go_wp2_with fail
  go_loopw [7, 8, 9] (fun s _ _ wr => ∃ k : Nat, k ≤ nd ∧ s = .int .i64 k ∧ (∀ j, j < k → openAny t keys (doors.getD j 0) = true) ∧ Drew w wr) (fun s _ _ _ => nd - (intOf s).toNat)
  case atStart => exact ⟨0, Nat.zero_le _, rfl, by simp, Drew.refl _⟩
  case round =>
    obtain ⟨j, hj, rfl, hall, hd⟩ := hrel
    have Hall := Lib.hid hall; clear hall
    by_cases hlt : j < nd
    · have Hgo : Hid (openAny t keys (doors.getD j 0) = true → ∀ i, i < j + 1 → openAny t keys (doors.getD i 0) = true) := fun h i hi => by
        by_cases e : i = j
        · rw [e]; exact h
        · exact Hall.out i (by omega)
      have Hbad : Hid (openAny t keys (doors.getD j 0) = false → openAll t keys doors = false) := fun h => openAll_bad j (by have := Hnd.out; omega) h
      obtain ⟨wo, hwo⟩ : ∃ wo, wo = wr := ⟨_, rfl⟩
      rw [← hwo] at hd ⊢
      clear hwo
      go_wp2_with fail
      go_loopw [8, 9] (fun o s wi => ∃ i : Nat, i ≤ nk ∧ s = .int .i64 i ∧ o = .bool (openAny t (keys.take i) (doors.getD j 0)) ∧ Drew wo wi) (fun _ s _ => nk - (intOf s).toNat)
      case atStart => exact ⟨0, Nat.zero_le _, rfl, rfl, Drew.refl _⟩
      case round =>
        obtain ⟨i, hi, rfl, rfl, hdi⟩ := hrel
        have hdt := hd.trans hdi
        by_cases hlti : i < nk
        · have HO := Lib.hid (openAny_take (t := t) (keys := keys) (d := doors.getD j 0) i (by have := Hnk.out; omega))
          cases hq : openAny t (keys.take i) (doors.getD j 0) with
          | true =>
            have HQ := Lib.hid hq
            clear hq
            go_wp2_with fail
            go_quiet (fail)
            go_wp2_with fail
            go_roundw
            case rel => exact ⟨i + 1, by omega, by go_num, by rw [HO.out, HQ.out]; rfl, hdi.drewN _⟩
            case measure => simp [intOf]; omega
          | false =>
            have HQ := Lib.hid hq
            clear hq
            obtain ⟨b, off, b2, o2, n2, c2, rfl, g1, g2, g3, g4, g5, g6, g7, g8, g9⟩ := HT.out i j hlti hlt
            obtain ⟨b3, o3, rfl, e1, -, -⟩ := Hek.out i hlti
            obtain ⟨b4, o4, rfl, e2, -, -⟩ := Hed.out j hlt
            replace g2 := (hdt.cell _).trans g2
            replace g9 := (hdt.cell _).trans g9
            replace e1 := (hdt.cell _).trans e1
            replace e2 := (hdt.cell _).trans e2
            generalize entry t (keys.getD i 0) (doors.getD j 0) = x at *
            generalize keys.getD i 0 = kk at *
            generalize doors.getD j 0 = dd at *
            go_wp2_with fail
            go_quiet (fail)
            go_wp2_with fail
            go_roundw
            case rel => exact ⟨i + 1, by omega, by go_num, by rw [HO.out, HQ.out]; rfl, hdi.drewN _⟩
            case measure => simp [intOf]; omega
        · have hik : i = nk := by omega
          have HK : Hid (keys.take i = keys) := by show _ = _; exact List.take_of_length_le (by have := Hnk.out; omega)
          rw [HK.out]
          cases hq : openAny t keys (doors.getD j 0) with
          | true =>
            have HH := Lib.hid (Hgo.out hq)
            clear hq
            go_wp2_with fail
            go_roundw
            case rel => exact ⟨j + 1, by omega, by go_num, HH.out, hdt⟩
            case measure => simp [intOf]; omega
          | false =>
            have HH := Lib.hid (Hbad.out hq)
            clear hq
            go_wp2_with fail
            go_ret
            exact ⟨ret_bool' HH.out, hdt⟩
    · go_wp2_with fail
      go_ret
      exact ⟨ret_bool' (openAll_good (fun i hi => Hall.out i (by have := Hnd.out; omega))), hd⟩

def openFor (t : List (List Int)) (keys : List Int) : List Int × Int :=
  if isTable t = true then (if rising keys t.length = true then (upto (openAny t keys) (t.getD 0 []).length, 0) else ([], 2)) else ([], 1)
theorem openFor_no {t : List (List Int)} {keys : List Int} (h : isTable t = false) : openFor t keys = ([], 1) := by unfold openFor; rw [if_neg (by simp [h])]
theorem openFor_bad {t : List (List Int)} {keys : List Int} (h : isTable t = true) (h' : rising keys t.length = false) : openFor t keys = ([], 2) := by unfold openFor; rw [if_pos h, if_neg (by simp [h'])]
theorem openFor_ok {t : List (List Int)} {keys : List Int} (h : isTable t = true) (h' : rising keys t.length = true) : openFor t keys = (upto (openAny t keys) (t.getD 0 []).length, 0) := by unfold openFor; rw [if_pos h, if_pos h']
theorem isTable_mem {t : List (List Int)} (h : isTable t = true) : 1 ≤ t.length ∧ t.length ≤ 10 ∧ 1 ≤ (t.getD 0 []).length ∧ (t.getD 0 []).length ≤ 12 ∧ ∀ r ∈ t, r.length = (t.getD 0 []).length ∧ ∀ x ∈ r, x = 0 ∨ x = 1 := by
  unfold isTable at h
  simp only [Bool.and_eq_true, decide_eq_true_eq, List.all_eq_true] at h
  obtain ⟨h1, h2, h3⟩ := h
  have h0 := h1 (t.getD 0 []) (by simp [show 0 < t.length by omega])
  have each : ∀ r ∈ t, r.length = (t.getD 0 []).length ∧ (1 ≤ r.length ∧ r.length ≤ 12) ∧ ∀ x ∈ r, x = 0 ∨ x = 1 := fun r hr => by
    have := h1 r hr
    unfold tabRow allB at this
    simp only [Bool.and_eq_true, decide_eq_true_eq, List.all_eq_true] at this
    refine ⟨this.1, this.2.1, fun x hx => ?_⟩
    have := this.2.2 x hx
    simp only [inB, Bool.and_eq_true, decide_eq_true_eq] at this
    omega
  have e0 := each (t.getD 0 []) (by simp [show 0 < t.length by omega])
  exact ⟨h2, h3, e0.2.1.1, e0.2.1.2, fun r hr => ⟨(each r hr).1, (each r hr).2.2⟩⟩
theorem rising_mem {xs : List Int} {n : Int} (h : rising xs n = true) : ∀ x ∈ xs, 0 ≤ x ∧ x < n := by
  intro x hx
  obtain ⟨i, hi, rfl⟩ := List.getElem_of_mem hx
  have := rising_ge h i hi
  simp [hi] at this
  omega

theorem openAny_one (t : List (List Int)) (keys : List Int) (d : Int) : openAll t keys [d] = openAny t keys d := by simp [openAll]

set_option maxRecDepth 20000 in
set_option maxHeartbeats 2000000 in
theorem OpenForSpec_c (w : World) (u v : Value) (z1 z2 : Zone) (t : List (List Int)) (keys : List Int) (ht : RowsR z1 w u t) (hk : IntsR z2 w v keys) :
    Calls Try.prog 14 #[u, v] w (Ret w (IntsCode w (openFor t keys))) := by
  have hc1 := IsTableSpec_c w u z1 t ht
  cases hT : isTable t with
  | false =>
    have HH := Lib.hid (openFor_no (keys := keys) hT)
    rw [hT] at hc1
    clear hT
    go_enter Try.func14, Try.ntmps14
    go_wp2_with fail
    refine Calls.mono hc1 ?_
    rintro e w1 ⟨rfl, hd⟩
    go_wp2_with fail
    go_ret2
    exact ⟨_, rfl, IntsCode_nil HH.out, hd.below _⟩
  | true =>
    rw [hT] at hc1
    obtain ⟨m1, m2, m3, m4, m5⟩ := isTable_mem hT
    obtain ⟨a, nt, ct, rfl, hnt, hmt, hel⟩ := SliceR.elem stable_ints ht
    have hc2 : ∀ wq, Drew w wq → Calls Try.prog 45 #[v, .int .i64 nt] wq (RetQ wq (.bool (rising keys nt))) := fun wq hq => l01Rises_c wq v z2 keys nt (stable_ints.drew hk hq) (by unfold I64; omega)
    rw [hnt] at hc2
    rw [← hnt] at hc2
    cases hR : rising keys nt with
    | false =>
      have HH := Lib.hid (openFor_bad hT (by rw [← hnt]; exact hR))
      rw [hR] at hc2
      have HC := Lib.hid hc2
      clear hT hR hc2 m5 hnt
      go_enter Try.func14, Try.ntmps14
      go_wp2_with fail
      refine Calls.mono hc1 ?_
      rintro e w1 ⟨rfl, hd⟩
      go_wp2_with fail
      refine Calls.mono (HC.out _ hd) ?_
      rintro e w2 ⟨rfl, hd2⟩
      go_wp2_with fail
      go_ret2
      exact ⟨_, rfl, IntsCode_nil HH.out, (hd.trans hd2).below _⟩
    | true =>
      have HH := Lib.hid (openFor_ok hT (by rw [← hnt]; exact hR))
      have gk : ∀ k ∈ keys, 0 ≤ k ∧ k < t.length := by
        intro k hk; have := rising_mem hR k hk; omega
      rw [hR] at hc2
      have HC := Lib.hid hc2
      obtain ⟨b, off, rfl, hb0, u0, hcu0, hu0⟩ := hel 0 (by omega)
      have e0 : t[0]'(by omega) = t.getD 0 [] := by simp [show 0 < t.length by omega]
      rw [e0] at hu0
      have Hlen : Hid (∀ d : Int, 0 ≤ d → d < ((t.getD 0 []).length : Int) → ∀ r ∈ t, d < r.length) := fun d h1 h2 r hr => by rw [(m5 r hr).1]; exact h2
      obtain ⟨a0, n0, c0, rfl, hn0, -⟩ := SliceR.shape hu0
      rw [← hn0] at m3 m4
      have Hgk := Lib.hid gk
      have Hn0 := Lib.hid hn0
      rw [Nat.add_zero] at hcu0
      generalize t.getD 0 [] = r0 at *
      have hnt0 : 0 < nt := by omega
      clear hT hR hc2 m5 e0 hel hnt gk hn0
      go_enter Try.func14, Try.ntmps14
      go_wp2_with fail
      refine Calls.mono hc1 ?_
      rintro e w1 ⟨rfl, hd⟩
      clear hc1
      go_wp2_with fail
      refine Calls.mono (HC.out _ hd) ?_
      rintro e w2 ⟨rfl, hd2⟩
      have hd2' := hd.trans hd2
      have sz2 := hd2'.size
      go_wp2_with fail
      generalize hw3 : World.alloc _ _ = w3
      have b3 : Below w.heap.size w w3 := by rw [← hw3]; exact (hd2'.below _).alloc (by omega) _
      have o3 : OwnP (Value.int .i64) 2 w.heap.size w3 (.slice (some ⟨w.heap.size, 0, none⟩) 0 0) [] := by rw [← hw3, ← sz2]; exact OwnP.empty (Nat.le_refl _)
      clear hw3
      go_loopw [6, 7] (fun o s wr => ∃ k : Nat, k ≤ n0 ∧ s = .int .i64 k ∧ OwnP (Value.int .i64) 2 w.heap.size wr o (upto (openAny t keys) k) ∧ Below w.heap.size w wr) (fun _ s _ => n0 - (intOf s).toNat)
      case atStart => exact ⟨0, Nat.zero_le _, rfl, o3, b3⟩
      case round =>
        obtain ⟨k, hk', rfl, hown, hb⟩ := hrel
        have hbs := hb.size
        have hq0 := (hb.cell (p := ⟨b, off, none⟩) hb0).trans hcu0
        by_cases hlt : k < n0
        · go_wp2_with fail
          generalize hw4 : World.alloc _ _ = w4
          have b4 : Below wr.heap.size wr w4 := by rw [← hw4]; exact (Below.refl _ _).alloc (Nat.le_refl _) _
          have o4 : OwnP (Value.int .i64) 2 wr.heap.size w4 (.slice (some ⟨wr.heap.size, 0, none⟩) 1 1) [(k : Int)] := by rw [← hw4]; exact OwnP.one (Nat.le_refl _) _
          clear hw4
          have b4' := hb.trans (b4.mono hbs)
          have hcall := l11Open_c w4 _ _ _ _ _ _ t keys [(k : Int)] (stable_rows.below ht b4') (stable_ints.below hk b4') (OwnP.ints o4 (by intro x hx; simp at hx; subst hx; unfold I64; omega) (Nat.le_refl _)) Hgk.out (by intro d hd; simp at hd; subst hd; exact ⟨by omega, Hlen.out k (by omega) (by have := Hn0.out; omega)⟩)
          rw [openAny_one] at hcall
          have HY := Lib.hid (upto_yes (p := openAny t keys) (k := k))
          have HN := Lib.hid (upto_no (p := openAny t keys) (k := k))
          have HL := Lib.hid (upto_length (openAny t keys) k)
          generalize openAny t keys k = q at *
          generalize hup : upto (openAny t keys) k = up at *
          clear hup
          refine Calls.mono hcall ?_
          rintro e w5 ⟨rfl, hd5⟩
          clear hcall o4
          have b5 := b4'.trans (hd5.below _)
          have hown5 := hown.below (b4.trans (hd5.below _))
          have hs5 : w.heap.size ≤ w5.heap.size := b5.size
          cases q with
          | true =>
            go_wp2_with (at_builtin; (refine wpList_append1 (f := Value.int .i64) (e := 2) (B := w.heap.size) (xs := up) rfl _ _ 29 rfl 0 8 Try.underlying29 Try.infoI64 rfl (fun _ => rfl) rfl hown5 (k : Int) rfl (by have := HL.out; omega) (by omega) hs5 ?_); intro v6 w6 hown6 hg6 hb6)
            go_roundw
            case rel => exact ⟨k + 1, by omega, by go_num, by rw [HY.out (by simp)]; exact hown6, b5.trans hb6⟩
            case measure => simp [intOf]; omega
          | false =>
            go_wp2_with fail
            go_roundw
            case rel => exact ⟨k + 1, by omega, by go_num, by rw [HN.out (by simp)]; exact hown5, b5⟩
            case measure => simp [intOf]; omega
        · have hkn : k = n0 := by omega
          go_wp2_with fail
          go_ret2
          rw [hkn] at hown
          exact ⟨_, rfl, IntsCode_own (by rw [HH.out, Hn0.out]) hown (upto_i64 (by omega)), hb⟩
end Go.Proofs.Ytbkijealdjghgaa
