/- Proved: spec.l26Draw gives some number and some sets. -/
import Derived.Test.YtaogpbhgoeepbaaChecked
import Derived.Test.YtaogpbhgoeepbaaUDrawKit
namespace Go.Proofs.Ytaogpbhgoeepbaa
open Go.ChangeShapes Go.WideShapes Go.ChangeAt Go.RowKit
set_option linter.unusedVariables false

def Sets26 (w : World) (r : Value) (w' : World) : Prop := ∃ (n : Int) (u : Value) (xss : List (List Int)), r = .tuple #[.int .i64 n, u] ∧ I64 n ∧ n ≤ 13 ∧ RowsR ⟨w.heap.size, w'.heap.size, false⟩ w' u xss

set_option maxRecDepth 20000 in
set_option maxHeartbeats 2000000 in
theorem l26Draw_c (w : World) (g : Nat) (h : Src g w) : Calls Try.prog 80 #[.pointer (some ⟨g, 0, none⟩)] w (DrawR g w (Sets26 w)) := by
  have hcall := l01Next_c w g h 7 (by unfold I64; omega)
  have hlt := h.lt
  clear h
  go_enter Try.func80, Try.ntmps80
  go_wp2_with fail
  refine Calls.mono hcall ?_
  rintro e w1 ⟨_, rfl, ⟨x, rfl, hx0, hx1⟩, hd1⟩
  clear hcall
  go_wp2_with fail
  obtain ⟨n, hn⟩ : ∃ n : Nat, 1 + x = n := ⟨(1 + x).toNat, by omega⟩
  have hn7 : 1 ≤ n ∧ n ≤ 7 := by omega
  rw [hn]
  have hcall := l01Next_c _ g (hd1.alloc (.cells #[] 25)).src 6 (by unfold I64; omega)
  have o1 : OwnR false w.heap.size IntsR 25 w.heap.size (w1.alloc (.cells #[] 25)) (.slice (some ⟨w1.heap.size, 0, none⟩) 0 0) [] := OwnR.empty hd1.size
  have d1 := hd1.alloc (.cells #[] 25)
  generalize w1.alloc (.cells #[] 25) = w2 at *
  refine Calls.mono hcall ?_
  rintro e w3 ⟨_, rfl, ⟨k0, rfl, hk0, hk1⟩, hd3⟩
  clear hcall
  obtain ⟨k, rfl⟩ : ∃ k : Nat, k0 = k := ⟨k0.toNat, by omega⟩
  have hk6 : k ≤ 6 := by omega
  clear hk0 hk1 hn hx0 hx1
  replace o1 := OwnR.dr stable_ints o1 hd3 hlt hlt
  replace d1 := d1.trans hd3
  clear hd3 hd1
  go_wp2_with fail
  go_loopw [5, 6] (fun s5 s6 wr => ∃ (j : Nat) (xss : List (List Int)), s6 = .int .i64 j ∧ xss.length + j ≤ 6 ∧ OwnR false w.heap.size IntsR 25 w.heap.size wr s5 xss ∧ Dr g w wr) (fun _ s6 _ => (intOf s6).toNat)
  case atStart => exact ⟨k, [], rfl, by simpa using hk6, o1, d1⟩
  case round =>
    obtain ⟨j, xss, rfl, hj6, hown, hd⟩ := hrel
    obtain ⟨wo, rfl⟩ : ∃ wo, wo = wr := ⟨_, rfl⟩
    clear o1 d1
    by_cases hj : 0 < j
    · go_wp2_with fail
      have oi : OwnP (Value.int .i64) 2 wo.heap.size (wo.alloc (.cells #[] 2)) (.slice (some ⟨wo.heap.size, 0, none⟩) 0 0) [] := OwnP.empty (Nat.le_refl _)
      have di : Dr g wo (wo.alloc (.cells #[] 2)) := ⟨(hd.alloc _).src, Nat.lt_of_lt_of_le hd.lt hd.size, World.grownBy_alloc _ _ _⟩
      generalize hwi : wo.alloc (.cells #[] 2) = wi at *
      clear hwi
      have Hown := Lib.hid hown
      clear hown
      have hsz : w.heap.size ≤ wo.heap.size := hd.size
      have hgr : g < wo.heap.size := by omega
      go_loopw [7, 8] (fun s7 s8 wx => ∃ (m : Nat) (l : List Int), s8 = .int .i64 m ∧ m ≤ n ∧ l.length ≤ m ∧ OwnP (Value.int .i64) 2 wo.heap.size wx s7 l ∧ (∀ y ∈ l, I64 y) ∧ Dr g wo wx ∧ wo.heap.size ≤ wx.heap.size) (fun _ s8 _ => n - (intOf s8).toNat)
      case atStart => exact ⟨0, [], rfl, by omega, by simp, oi, by simp, di, di.size⟩
      case round =>
        obtain ⟨m, l, rfl, hm, hlm, ho, hy, hdx, hsx⟩ := hrel
        clear oi di
        by_cases hmn : m < n
        · have hcall := l01Next_c _ g hdx.src 3 (by unfold I64; omega)
          go_wp2_with fail
          refine Calls.mono hcall ?_
          rintro e w4 ⟨_, rfl, ⟨x4, rfl, -, -⟩, hd4⟩
          clear hcall
          replace ho := ho.dr hd4 hgr
          have hd5 := hdx.trans hd4
          have hs4 := hd4.size
          have Hy := Lib.hid hy
          clear hd4 hdx hy
          by_cases hx4 : x4 = 0
          · subst hx4
            go_wp2_with (at_builtin; (refine wpList_drawInt (g := g) (w0 := wo) rfl _ _ 25 rfl Try.underlying25 Try.infoI64 rfl ho (m : Int) rfl (by omega) hd5 (Nat.le_refl _) (by omega) ?_); intro v6 w6 hown6 hd6 hs6)
            go_wp2_with fail
            refine ⟨⟨m + 1, l ++ [(m : Int)], by go_num, by omega, by simp; omega, hown6, fun y hy => ?_, hd6, by omega⟩, by simp [intOf]; omega⟩
            rcases List.mem_append.1 hy with hy | hy
            · exact Hy.out y hy
            · rw [List.mem_singleton.1 hy]; unfold I64; omega
          · have hb : (x4 == 0) = false := by simpa using hx4
            go_wp2_with fail
            exact ⟨⟨m + 1, l, by go_num, by omega, by omega, ho, Hy.out, hd5, by omega⟩, by simp [intOf]; omega⟩
        · have ho' := ho
          obtain ⟨a7, n7, c7, rfl, hn7', -⟩ := OwnP.shape ho'
          have Hn7 := Lib.hid hn7'
          have Hy := Lib.hid hy
          clear ho' hn7' hy
          by_cases h7 : n7 = 0
          · subst h7
            have hcall := l01Next_c _ g hdx.src n (by unfold I64; omega)
            go_wp2_with fail
            refine Calls.mono hcall ?_
            rintro e w4 ⟨_, rfl, ⟨x4, rfl, hx1, hx2⟩, hd4⟩
            clear hcall
            replace ho := ho.dr hd4 hgr
            have hd5 := hdx.trans hd4
            have hs4 := hd4.size
            clear hd4 hdx
            have HV : Hid (∀ k, u5.ownBlock = some k → k < wo.heap.size) := fun k hk => (OwnA.block Hown.out k hk).2
            have HI4 : I64 x4 := by unfold I64; omega
            go_wp2_with (first
              | (at_builtin; (refine wpList_drawInt (g := g) (w0 := wo) rfl _ _ 25 rfl Try.underlying25 Try.infoI64 rfl ho x4 rfl (by omega) hd5 (Nat.le_refl _) (by omega) ?_); intro v6 w6 hown6 hd6 hs6; obtain ⟨a6, n6, c6, rfl, -⟩ := OwnP.shape hown6)
              | (at_builtin; (refine wpList_drawRow (v := u5) (g := g) (w0 := w) stable_ints slRepr_slice rfl _ _ 22 rfl Try.underlying22 Try.infoInts rfl (OwnR.dr stable_ints Hown.out hd6 hlt hlt) (a6, n6, c6) _ (ints_new hown6 (ints_snoc Hy.out HI4)) rfl rfl (by omega) (by omega) (by omega) HV.out (hd.trans hd6) (Nat.le_refl _) ?_); intro v8 w8 hown8 hd8 hs8))
            go_wp2_with fail
            exact ⟨⟨j - 1, _, by go_num, by simp; omega, hown8, hd8⟩, by simp [intOf]; omega⟩
          · have hb : ((n7 : Int) == 0) = false := by simpa using h7
            have hr6 := ints_new ho Hy.out
            have hO := OwnR.dr stable_ints Hown.out hdx hlt hlt
            have HV : Hid (∀ k, u5.ownBlock = some k → k < wo.heap.size) := fun k hk => (OwnA.block Hown.out k hk).2
            have hd7 := hd.trans hdx
            go_wp2_with (at_builtin; (refine wpList_drawRow (v := u5) (g := g) (w0 := w) stable_ints slRepr_slice rfl _ _ 22 rfl Try.underlying22 Try.infoInts rfl hO (a7, n7, c7) _ hr6 rfl rfl (by omega) (by omega) (by omega) HV.out hd7 (Nat.le_refl _) ?_); intro v8 w8 hown8 hd8 hs8)
            go_wp2_with fail
            exact ⟨⟨j - 1, _, by go_num, by simp; omega, hown8, hd8⟩, by simp [intOf]; omega⟩
    · have hcall := l01Next_c _ g hd.src 30 (by unfold I64; omega)
      go_wp2_with fail
      refine Calls.mono hcall ?_
      rintro e w4 ⟨_, rfl, ⟨x4, rfl, hx1, hx2⟩, hd4⟩
      clear hcall
      have hown4 := OwnR.dr stable_ints hown hd4 hlt hlt
      have hd5 := hd.trans hd4
      have hsz : w.heap.size ≤ w4.heap.size := hd5.size
      have hl6 : xss.length ≤ 6 := by omega
      clear hown hd hd4 hj hj6 hx1 hx2
      by_cases e0 : x4 = 0
      · subst e0
        have hlit := OwnP.ints (OwnP.lit (f := Value.int .i64) (e := 2) (B := w4.heap.size) (Nat.le_refl _) [0, 12, 13] #[.int .i64 0, .int .i64 12, .int .i64 13] rfl (by simp [maxLen])) (by simp [I64]) (Nat.le_refl _)
        have hcall := l01Pick_c _ g (hd5.alloc (.cells #[.int .i64 0, .int .i64 12, .int .i64 13] 2)).src _ _ _ hlit (.inl (by show g < w4.heap.size; omega)) (by simp)
        have hd6 := hd5.alloc (.cells #[.int .i64 0, .int .i64 12, .int .i64 13] 2)
        have hown6 := OwnR.alloc stable_ints hown4 (.cells #[.int .i64 0, .int .i64 12, .int .i64 13] 2)
        go_wp2_with fail
        refine Calls.mono hcall ?_
        rintro e w5 ⟨_, rfl, ⟨y, hy, rfl⟩, hd7⟩
        have hI : I64 y := by
          simp only [List.mem_cons, List.not_mem_nil, or_false] at hy
          unfold I64; omega
        have hy13 : y ≤ 13 := by
          simp only [List.mem_cons, List.not_mem_nil, or_false] at hy
          omega
        have hown7 := OwnR.dr stable_ints hown6 hd7 hlt hlt
        have hd8 := hd6.trans hd7
        clear hcall hlit hown6 hown4 hd6 hd7
        go_wp2_with fail
        go_ret2
        exact ⟨_, rfl, ⟨y, u5, xss, rfl, hI, hy13, OwnR.reads hown7 (Nat.le_refl _)⟩, hd8⟩
      · have b0 : (x4 == 0) = false := by simpa using e0
        have HV : Hid (∀ k, u5.ownBlock = some k → k < w4.heap.size) := fun k hk => (OwnA.block hown4 k hk).2
        have hIn : I64 n := by unfold I64; omega
        by_cases e1 : x4 = 1
        · subst e1
          have hown5 := OwnR.alloc stable_ints hown4 (.cells #[] 2)
          have hd6 := hd5.alloc (.cells #[] 2)
          have hu := OwnP.ints (OwnP.empty (f := Value.int .i64) (e := 2) (w := w4) (Nat.le_refl _)) (by simp) (Nat.le_refl _)
          go_wp2_with (at_builtin; (refine wpList_drawRow (v := u5) (g := g) (w0 := w) stable_ints slRepr_slice rfl _ _ 22 rfl Try.underlying22 Try.infoInts rfl hown5 (some ⟨w4.heap.size, 0, none⟩, 0, 0) _ hu (by simp) rfl (by omega) hsz (by simp) HV.out hd6 (Nat.le_refl _) ?_); intro v8 w8 hown8 hd8 hs8)
          go_wp2_with fail
          go_ret2
          exact ⟨_, rfl, ⟨n, v8, _, rfl, hIn, by omega, OwnR.reads hown8 (Nat.le_refl _)⟩, hd8⟩
        · have b1 : (x4 == 1) = false := by simpa using e1
          by_cases e2 : x4 = 2
          · subst e2
            have hlit := OwnP.ints (OwnP.lit (f := Value.int .i64) (e := 2) (B := w4.heap.size) (Nat.le_refl _) [-1, 0, (n : Int)] #[.int .i64 (-1), .int .i64 0, .int .i64 n] rfl (by simp [maxLen])) (by simp only [List.mem_cons, List.not_mem_nil, or_false]; unfold I64; omega) (Nat.le_refl _)
            have hcall := l01Pick_c _ g (hd5.alloc (.cells #[.int .i64 (-1), .int .i64 0, .int .i64 n] 2)).src _ _ _ hlit (.inl (by show g < w4.heap.size; omega)) (by simp)
            have hd6 := hd5.alloc (.cells #[.int .i64 (-1), .int .i64 0, .int .i64 n] 2)
            have hown6 := OwnR.alloc stable_ints hown4 (.cells #[.int .i64 (-1), .int .i64 0, .int .i64 n] 2)
            go_wp2_with fail
            refine Calls.mono hcall ?_
            rintro e w5 ⟨_, rfl, ⟨y, hy, rfl⟩, hd7⟩
            have hI : I64 y := by
              simp only [List.mem_cons, List.not_mem_nil, or_false] at hy
              unfold I64; omega
            have hown7 := OwnR.dr stable_ints hown6 hd7 hlt hlt
            have hd8 := hd6.trans hd7
            have hs5 : w.heap.size ≤ w5.heap.size := hd8.size
            clear hcall hlit hown6 hown4 hd6 hd7 HV
            have HV : Hid (∀ k, u5.ownBlock = some k → k < w5.heap.size) := fun k hk => (OwnA.block hown7 k hk).2
            have hown5 := OwnR.alloc stable_ints hown7 (.cells #[.int .i64 y] 2)
            have hd6 := hd8.alloc (.cells #[.int .i64 y] 2)
            have hu := ints_one w5 y 2 hI
            go_wp2_with (at_builtin; (refine wpList_drawRow (v := u5) (g := g) (w0 := w) stable_ints slRepr_slice rfl _ _ 22 rfl Try.underlying22 Try.infoInts rfl hown5 (some ⟨w5.heap.size, 0, none⟩, 1, 1) _ hu (by simp) rfl (by omega) hs5 (by simp) HV.out hd6 (Nat.le_refl _) ?_); intro v8 w8 hown8 hd8 hs8)
            go_wp2_with fail
            go_ret2
            exact ⟨_, rfl, ⟨n, v8, _, rfl, hIn, by omega, OwnR.reads hown8 (Nat.le_refl _)⟩, hd8⟩
          · have b2 : (x4 == 2) = false := by simpa using e2
            by_cases e3 : x4 = 3
            · subst e3
              clear HV
              go_wp2_with fail
              go_loopw [5] (fun s5 wr => ∃ (yss : List (List Int)), yss.length ≤ 61 ∧ OwnR false w.heap.size IntsR 25 w.heap.size wr s5 yss ∧ Dr g w wr) (fun s5 _ => 61 - drawLen s5)
              case atStart => exact ⟨xss, by omega, hown4, hd5⟩
              case round =>
                obtain ⟨yss, hy, ho, hd⟩ := hrel
                clear hown4 hd5
                obtain ⟨a5, n5, c5, rfl, hn5, -⟩ := OwnA.shape ho
                have HN5 := Lib.hid hn5
                clear hn5
                have hcall := l01Next_c _ g hd.src 2 (by unfold I64; omega)
                go_wp2_with fail
                refine Calls.mono hcall ?_
                rintro e w5 ⟨_, rfl, ⟨y, rfl, hy0, hy1⟩, hd7⟩
                have ho7 := OwnR.dr stable_ints ho hd7 hlt hlt
                have hd8 := hd.trans hd7
                have hs5 : w.heap.size ≤ w5.heap.size := hd8.size
                clear hcall ho hd hd7
                by_cases hlt5 : (n5 : Int) < 60 + y
                · have HV : Hid (∀ k, (Value.slice a5 n5 c5).ownBlock = some k → k < w5.heap.size) := fun k hk => (OwnA.block ho7 k hk).2
                  have hown5 := OwnR.alloc stable_ints ho7 (.cells #[.int .i64 0] 2)
                  have hd6 := hd8.alloc (.cells #[.int .i64 0] 2)
                  have hu := ints_one w5 0 2 (by unfold I64; omega)
                  have hy60 : yss.length ≤ 60 := by have := HN5.out; omega
                  go_wp2_with (at_builtin; (refine wpList_drawRow (v := Value.slice a5 n5 c5) (g := g) (w0 := w) stable_ints slRepr_slice rfl _ _ 22 rfl Try.underlying22 Try.infoInts rfl hown5 (some ⟨w5.heap.size, 0, none⟩, 1, 1) _ hu (by simp) rfl (by omega) hs5 (by simp) HV.out hd6 (Nat.le_refl _) ?_); intro v8 w8 hown8 hd8' hs8; obtain ⟨a8, n8, c8, rfl, hn8, -⟩ := OwnA.shape hown8; have HN8 := Lib.hid hn8; clear hn8)
                  go_wp2_with fail
                  have hl8 := HN5.out
                  have hm8 := HN8.out
                  rw [List.length_append, List.length_singleton] at hm8
                  exact ⟨⟨_, by simp; omega, hown8, hd8'⟩, by simp only [drawLen]; omega⟩
                · go_wp2_with fail
                  go_ret2
                  exact ⟨_, rfl, ⟨n, .slice a5 n5 c5, yss, rfl, hIn, by omega, OwnR.reads ho7 (Nat.le_refl _)⟩, hd8⟩
            · have b3 : (x4 == 3) = false := by simpa using e3
              go_wp2_with fail
              go_ret2
              exact ⟨_, rfl, ⟨n, u5, xss, rfl, hIn, by omega, OwnR.reads hown4 (Nat.le_refl _)⟩, hd5⟩

set_option maxHeartbeats 400000 in
theorem DrawLeastHitting_c (w : World) (v : Value) (z : Zone) (xs : List Int) (h : BytesR z w v xs) :
    Calls Try.prog 29 #[v] w (Ret w fun r w' => ∃ w1, Sets26 w1 r w') := by
  have hcall := l01From_c w v z xs h
  go_enter Try.func29, Try.ntmps29
  go_wp2_with fail
  refine Calls.mono hcall ?_
  rintro e w1 ⟨_, rfl, ⟨g, hg, rfl, hs⟩, hb⟩
  have hcall := l26Draw_c w1 g hs
  go_wp2_with fail
  refine Calls.mono hcall ?_
  rintro e w2 ⟨r, rfl, ⟨n, u, xss, rfl, hn, hn13, hr⟩, hd⟩
  have hb2 : Below w.heap.size w w2 := hb.trans (hd.below'.mono hg)
  go_wp2_with fail
  go_ret2
  exact ⟨_, rfl, ⟨w1, n, u, xss, rfl, hn, hn13, hr⟩, hb2⟩
end Go.Proofs.Ytaogpbhgoeepbaa
