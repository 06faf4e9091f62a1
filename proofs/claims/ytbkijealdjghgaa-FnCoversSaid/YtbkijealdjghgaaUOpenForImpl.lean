/- Proved: impl.OpenFor computes what the reference computes. -/
import Derived.Test.YtbkijealdjghgaaChecked
import Derived.Test.YtbkijealdjghgaaUOpenFor
import Derived.Test.YtbkijealdjghgaaUFuncs
namespace Go.Proofs.Ytbkijealdjghgaa
open Go.ChangeShapes Go.WideShapes Go.ChangeAt Go.RowKit
set_option linter.unusedVariables false

theorem Try.goesOpenFor1 : Goes Try.prog 43 := goes_of Try.func43 (by kernel_rfl) (by kernel_rfl)

set_option maxHeartbeats 1000000 in
theorem OpenFor1_c (w : World) (u : Value) (z : Zone) (t : List (List Int)) (ht : RowsR z w u t) (k d : Int) (a1 a2 : Addr) (h1 : w.cell? a1 = some u) (h2 : w.cell? a2 = some (.int .i64 d)) (hk : 0 ≤ k ∧ k < t.length) (hd : 0 ≤ d ∧ ∀ r ∈ t, d < r.length) :
    Calls Try.prog 43 #[.int .i64 k, .pointer (some a1), .pointer (some a2)] w (RetQ w (.bool (entry t k d == 1))) := by
  obtain ⟨a, nt, ct, rfl, hnt, hmt, hel⟩ := SliceR.elem stable_ints ht
  have hkt : k.toNat < t.length := by omega
  obtain ⟨b, off, rfl, hb0, u, hc, hu⟩ := hel _ hkt
  have d2 := hd.2 _ (List.getElem_mem hkt)
  obtain ⟨a2', n2, c2, rfl, hn2, hm2, -, -, -, he2⟩ := IntsR.shape hu
  obtain ⟨b2, o2, rfl, hx, -, -⟩ := he2 d.toNat (by omega)
  rw [← entry_eq _ hkt] at hx
  generalize entry t k d = x at *
  have g1 : k.toNat < nt := by omega
  have g2 : d.toNat < n2 := by omega
  have g3 : k < (nt : Int) := by omega
  have g4 : d < (n2 : Int) := by omega
  obtain ⟨g5, -⟩ := hk
  obtain ⟨g6, -⟩ := hd
  clear hel he2 hn2 hnt ht hu d2 hkt
  go_enter Try.func43, Try.ntmps43
  go_wp2_with fail
  go_quiet (fail)
  go_wp2_with fail
  go_ret
  exact ⟨rfl, (Drew.refl _).drewN _⟩

set_option maxRecDepth 20000 in
set_option maxHeartbeats 2000000 in
theorem OpenFor_c (w : World) (u v : Value) (z1 z2 : Zone) (t : List (List Int)) (keys : List Int) (ht : RowsR z1 w u t) (hk : IntsR z2 w v keys) :
    Calls Try.prog 13 #[u, v] w (Ret w (IntsCode w (openFor t keys))) := by
  obtain ⟨a, nt, ct, rfl, hnt, hmt, hel⟩ := SliceR.elem stable_ints ht
  have Hnt := Lib.hid hnt; clear hnt
  go_enter Try.func13, Try.ntmps13
  go_wp2_with fail
  generalize hw0 : World.alloc _ _ = w0
  have b0 : Below w.heap.size w w0 := by rw [← hw0]; exact (Below.refl _ _).alloc (Nat.le_refl _) _
  have s0 : w0.heap.size = w.heap.size + 1 := by rw [← hw0]; simp
  have q0 : w0.cell? ⟨w.heap.size, 0, none⟩ = some (.slice a nt ct) := by rw [← hw0]; clear hw0; go_simp
  clear hw0
  have S0 := Lib.hid s0; clear s0
  have hc1 := IsTable_c w0 _ z1 t (stable_rows.below ht b0)
  have hnt := Hnt.out
  cases hT : isTable t with
  | false =>
    have HH := Lib.hid (openFor_no (keys := keys) hT)
    rw [hT] at hc1
    clear hT hnt
    refine Calls.mono hc1 ?_
    rintro e w1 ⟨rfl, hd⟩
    go_wp2_with fail
    go_ret2
    exact ⟨_, rfl, IntsCode_nil HH.out, b0.trans (hd.below _)⟩
  | true =>
    rw [hT] at hc1
    obtain ⟨m1, m2, m3, m4, m5⟩ := isTable_mem hT
    have hc2 : ∀ wq, Below w.heap.size w wq → Calls Try.prog 41 #[v, .int .i64 nt] wq (RetQ wq (.bool (rising keys nt))) := fun wq hq => IsRising_c wq v z2 keys nt (stable_ints.below hk hq) (by unfold I64; omega)
    cases hR : rising keys nt with
    | false =>
      have HH := Lib.hid (openFor_bad hT (by rw [← hnt]; exact hR))
      rw [hR] at hc2
      have HC := Lib.hid hc2
      clear hT hR hc2 m5 hnt
      refine Calls.mono hc1 ?_
      rintro e w1 ⟨rfl, hd⟩
      have b1 := b0.trans (hd.below w.heap.size)
      replace q0 := (hd.cell _).trans q0
      go_wp2_with fail
      refine Calls.mono (HC.out _ b1) ?_
      rintro e w2 ⟨rfl, hd2⟩
      go_wp2_with fail
      go_ret2
      exact ⟨_, rfl, IntsCode_nil HH.out, b1.trans (hd2.below _)⟩
    | true =>
      have HH := Lib.hid (openFor_ok hT (by rw [← hnt]; exact hR))
      have gk : ∀ k ∈ keys, 0 ≤ k ∧ k < t.length := by
        intro k hk; have := rising_mem hR k hk; omega
      rw [hR] at hc2
      have HC := Lib.hid hc2
      obtain ⟨b, off, rfl, hb0, u0, hcu0, hu0⟩ := hel 0 (by omega)
      have e0 : t[0]'(by omega) = t.getD 0 [] := by simp [show 0 < t.length by omega]
      rw [e0] at hu0
      have Hlen : Hid (∀ d : Int, 0 ≤ d → d < ((t.getD 0 []).length : Int) → ∀ r ∈ t, d < r.length) := fun d h1 h2 r hr => by rw [(m5 r hr).1]; exact h2
      obtain ⟨a0, n0, c0, rfl, hn0, -⟩ := SliceR.shape hu0
      rw [← hn0] at m3 m4
      have Hgk := Lib.hid gk
      have Hn0 := Lib.hid hn0
      rw [Nat.add_zero] at hcu0
      generalize t.getD 0 [] = r0 at *
      have hnt0 : 0 < nt := by omega
      clear hT hR hc2 m5 e0 hel hnt gk hn0
      refine Calls.mono hc1 ?_
      rintro e w1 ⟨rfl, hd⟩
      clear hc1
      have b1 := b0.trans (hd.below w.heap.size)
      replace q0 := (hd.cell _).trans q0
      have z1' : w.heap.size < w1.heap.size := by have := S0.out; have := hd.size; omega
      go_wp2_with fail
      refine Calls.mono (HC.out _ b1) ?_
      rintro e w2 ⟨rfl, hd2⟩
      have b2 := b1.trans (hd2.below w.heap.size)
      replace q0 := (hd2.cell _).trans q0
      have z2' : w.heap.size < w2.heap.size := by have := hd2.size; omega
      have hq2 := (b2.cell (p := ⟨b, off, none⟩) hb0).trans hcu0
      have hbw2 : b < w2.heap.size := by omega
      go_wp2_with fail
      generalize hw3 : World.alloc _ _ = w3
      have b3 : Below w.heap.size w w3 := by rw [← hw3]; exact b2.alloc (by omega) _
      have z3 : w.heap.size < w3.heap.size := by rw [← hw3]; simp; omega
      have o3 : OwnP (Value.int .i64) 2 (w.heap.size + 1) w3 (.slice (some ⟨w2.heap.size, 0, none⟩) 0 0) [] := by rw [← hw3]; exact OwnP.empty (by omega)
      have q3 : w3.cell? ⟨w.heap.size, 0, none⟩ = some (.slice (some ⟨b, off, none⟩) nt ct) := by rw [← hw3, World.cell?_alloc_lt _ _ _ (by simp; omega)]; exact q0
      clear hw3 hq2
      have hq2 := (b3.cell (p := ⟨b, off, none⟩) hb0).trans hcu0
      go_loopw [6, 7, 21] (fun o _ s wr => ∃ k : Nat, k ≤ n0 ∧ s = .int .i64 k ∧ OwnP (Value.int .i64) 2 (w.heap.size + 1) wr o (upto (openAny t keys) k) ∧ Below w.heap.size w wr ∧ wr.cell? ⟨w.heap.size, 0, none⟩ = some (.slice (some ⟨b, off, none⟩) nt ct) ∧ w.heap.size < wr.heap.size) (fun _ _ s _ => n0 - (intOf s).toNat)
      case atStart => exact ⟨0, Nat.zero_le _, rfl, o3, b3, q3, z3⟩
      case round =>
        obtain ⟨k, hk', rfl, hown, hb, hq, hbs⟩ := hrel
        clear q3 hq2 o3 b3 z3
        by_cases hlt : k < n0
        · go_wp2_with fail
          generalize hw4 : World.alloc _ _ = w4
          have b4 : Below wr.heap.size wr w4 := by rw [← hw4]; exact (Below.refl _ _).alloc (Nat.le_refl _) _
          have s4 : wr.heap.size < w4.heap.size := by rw [← hw4]; simp
          have q4 : w4.cell? ⟨wr.heap.size, 0, none⟩ = some (.int .i64 k) := by rw [← hw4]; clear hw4; go_simp
          clear hw4
          have b4' := hb.trans (b4.mono (Nat.le_of_lt hbs))
          have q5 := (b4.cell (p := ⟨w.heap.size, 0, none⟩) hbs).trans hq
          have hcall := ContainsFuncInts_c w4 v z2 keys (stable_ints.below hk b4') _ Try.goesOpenFor1 #[.pointer (some ⟨w.heap.size, 0, none⟩), .pointer (some ⟨wr.heap.size, 0, none⟩)] (fun x => entry t x k == 1) (fun i hi w5 u5 hb5 hu5 => by
            obtain ⟨rfl, -⟩ := hu5
            refine (OpenFor1_c w5 _ z1 t (stable_rows.below ht (b4'.trans (hb5.mono b4'.size))) _ (k : Int) ⟨w.heap.size, 0, none⟩ ⟨wr.heap.size, 0, none⟩ ((hb5.cell (by simp; omega)).trans q5) ((hb5.cell (by simp; omega)).trans q4) (Hgk.out _ (List.getElem_mem hi)) ⟨by omega, Hlen.out k (by omega) (by have := Hn0.out; omega)⟩).mono (fun _ _ hq => hq.ret))
          have HY := Lib.hid (upto_yes (p := openAny t keys) (k := k))
          have HN := Lib.hid (upto_no (p := openAny t keys) (k := k))
          have HL := Lib.hid (upto_length (openAny t keys) k)
          have hcall : Calls Try.prog 42 #[v, .func (.func 43) #[] #[.pointer (some ⟨w.heap.size, 0, none⟩), .pointer (some ⟨wr.heap.size, 0, none⟩)]] w4 (Ret w4 fun r _ => r = .bool (openAny t keys k)) := hcall
          generalize openAny t keys k = q at *
          generalize hup : upto (openAny t keys) k = up at *
          clear hup
          refine Calls.mono hcall ?_
          rintro e w5 ⟨r5, rfl, rfl, b5⟩
          clear hcall
          have b5' := b4'.trans (b5.mono b4'.size)
          have b45 := b4.trans (b5.mono (Nat.le_of_lt s4))
          have hown5 := hown.below b45
          have z5 : wr.heap.size < w5.heap.size := by have := b5.size; omega
          replace q4 := (b5.cell (p := ⟨wr.heap.size, 0, none⟩) s4).trans q4
          replace q5 := (b5.cell (p := ⟨w.heap.size, 0, none⟩) (by simp; omega)).trans q5
          clear b45 s4 b4 b5 hq hb
          cases q with
          | true =>
            go_wp2_with (at_builtin; (refine wpList_append1 (f := Value.int .i64) (e := 2) (B := w.heap.size + 1) (xs := up) rfl _ _ 29 rfl 0 8 Try.underlying29 Try.infoI64 rfl (fun _ => rfl) rfl hown5 (k : Int) rfl (by have := HL.out; omega) (by omega) (by omega) ?_); intro v6 w6 hown6 hg6 hb6)
            go_roundw
            case rel => exact ⟨k + 1, by omega, by go_num, by rw [HY.out (by simp)]; exact hown6, b5'.trans (hb6.mono (by omega)), (hb6.cell (by simp)).trans q5, by have := hb6.size; omega⟩
            case measure => simp [intOf]; omega
          | false =>
            go_wp2_with fail
            go_roundw
            case rel => exact ⟨k + 1, by omega, by go_num, by rw [HN.out (by simp)]; exact hown5, b5', q5, by omega⟩
            case measure => simp [intOf]; omega
        · have hkn : k = n0 := by omega
          go_wp2_with fail
          go_ret2
          rw [hkn] at hown
          refine ⟨_, rfl, ?_, hb⟩
          rw [HH.out, ← Hn0.out]
          exact ⟨_, rfl, OwnP.ints hown (upto_i64 (by omega)) (Nat.le_succ _)⟩
end Go.Proofs.Ytbkijealdjghgaa
