/- Proved: the draws of systems: l15DrawCuts, l15Draw. -/
import Derived.Test.YtegmognpofcfiaaGreatChecked
import Derived.Deep.RegionLaw
import Derived.Deep.RegionHeld3
import Derived.Test.YtegmognpofcfiaaGreatUDrawSys
namespace Go.Proofs.YtegmognpofcfiaaGreat
open Go.ChangeShapes Go.WideShapes Go.ChangeAt Go.RowKit
set_option linter.unusedVariables false

theorem SysAt.dr {g b : Nat} {w w' : World} {mk : MK} {v : Value} (h : SysAt w b mk v) (hd : Dr g w w') (hb : b ≠ g) : SysAt w' b mk v := h.of (hd.grown.block b h.lt (by intro e; injection e with e; omega))
/-- a store of an element that lies from block lo on -/
theorem SliceR.storeLo {α : Type} {E : Repr α} (hE : Stable E) {z : Zone} {w1 : World} {b off n cap : Nat} {xs : List α} (h : SliceR E z w1 (.slice (some ⟨b, off, none⟩) n cap) xs) (ho : z.own = true) {lo : Nat} (hz : z.hi ≤ lo) (hlo : lo ≤ w1.heap.size) (i : Nat) (hi : i < n) (u : Value) (x : α)
    (hu : E ⟨lo, w1.heap.size, true⟩ w1 u x) :
    SliceR E ⟨z.lo, w1.heap.size, true⟩ (w1.setCell ⟨b, off + i, none⟩ u) (.slice (some ⟨b, off, none⟩) n cap) (xs.set i x) := by
  obtain ⟨a, cap', he, h1, h2, h3, h4⟩ := h
  injection he with ha hn hc
  subst ha; subst hc; subst hn
  refine ⟨some ⟨b, off, none⟩, cap, by simp, by simpa using h1, h2, (fun h => by cases h), fun ad had _ => ?_⟩
  cases had
  obtain ⟨k1, k2, k3, k4, Z, k5, k6, k7⟩ := h4 _ rfl (by omega)
  simp only at k2 k3 k4 k7
  have hbz := k2.2
  have k6' := k6 ho
  have hset : ∀ k, k ≠ b → (w1.setCell ⟨b, off + i, none⟩ u).heap[k]? = w1.heap[k]? := fun k hk => Below.heap_setCell _ _ _ _ hk
  refine ⟨k1, ⟨k2.1, by show b < w1.heap.size; omega⟩, by simp only [World.setCell, Array.size_modify]; omega, fun _ j hj => ?_, fun j => if j = i then ⟨lo, w1.heap.size, true⟩ else Z j, fun j hj => ?_, fun _ => ⟨fun j hj => ?_, fun j l hjl hl => ?_⟩, fun j hj => ?_⟩
  · rw [World.frozen?_setCell]; exact k4 ho j (by simpa using hj)
  · by_cases e : j = i
    · simp only [e, if_true]
      exact ⟨fun k hk => ⟨by have h1 := k2.1; have h2 := hk.1; simp only at h1 h2 ⊢; omega, hk.2⟩, fun _ => rfl⟩
    · simp only [e, if_false]
      have hs := k5 j (by simpa using hj)
      exact ⟨fun k hk => ⟨(hs.1 k hk).1, by have := (hs.1 k hk).2; show k < w1.heap.size; omega⟩, fun _ => hs.2 ho⟩
  · by_cases e : j = i
    · simp only [e, if_true]; intro hk; have := hk.1; simp only at this; omega
    · simp only [e, if_false]; exact k6'.1 j (by simpa using hj)
  · have hl' : l < xs.length := by simpa using hl
    have hj' : j < xs.length := by omega
    intro k ha hc
    by_cases e1 : j = i
    · have e2 : l ≠ i := by omega
      simp only [e1, e2, if_true, if_false] at ha hc
      have q1 := ha.1
      have q2 := ((k5 l hl').1 k hc).2
      simp only at q1; omega
    · by_cases e2 : l = i
      · simp only [e1, e2, if_true, if_false] at ha hc
        have q1 := hc.1
        have q2 := ((k5 j hj').1 k ha).2
        simp only at q1; omega
      · simp only [e1, e2, if_false] at ha hc
        exact k6'.2 j l hjl hl' k ha hc
  · have hj' : j < xs.length := by simpa using hj
    obtain ⟨u', c1, c2⟩ := k7 j hj'
    by_cases e : j = i
    · subst e
      refine ⟨u, World.cell?_setCell_same _ _ _ c1, ?_⟩
      simp only [if_true, List.getElem_set_self]
      refine hE.keep hu (fun k hk _ => hset k ?_)
      have q := hk.1; simp only at q; omega
    · refine ⟨u', ?_, ?_⟩
      · rw [World.cell?_setCell_other _ _ _ _ (by intro h; injection h with _ h _; simp only at h; omega)]; exact c1
      · simp only [e, if_false]
        rw [List.getElem_set_ne (by omega)]
        refine hE.keep c2 (fun k hk _ => hset k (fun e => ?_))
        exact k6'.1 j hj' (e ▸ hk)
/-- cuts that a draw hands back -/
def CutsD (w : World) (r : Value) (w' : World) : Prop := ∃ cuts : List (List Int), RowsR ⟨w.heap.size, w'.heap.size, false⟩ w' r cuts ∧ cuts.length ≤ 20

set_option maxRecDepth 20000 in
set_option maxHeartbeats 4000000 in
theorem l15DrawCuts_c (w : World) (g : Nat) (h : Src g w) (mk : MK) (hm : isMaker mk = true) (hmr : MkR mk) (a : Option Addr) (n cap : Nat) (hn : 1 ≤ n ∧ n ≤ 14) :
    Calls Tryz.prog 231 #[.pointer (some ⟨g, 0, none⟩), sysV mk (.slice a n cap)] w (DrawR g w (CutsD w)) := by
  have hlt := h.lt
  have HSo := Lib.hid (fun (w' : World) (h : Src g w') => l02Some_c w' g h mk hm)
  have HDc := Lib.hid (fun (w' : World) (h : Src g w') => l02DrawCuts_c w' g h mk hmr)
  have hd0 := Dr.refl h
  clear h hm hmr
  unfold sysV MK.v at *
  go_enter Tryz.func231, Tryz.ntmps231
  go_wp2_with fail
  generalize hwb : w.alloc (.cells #[.int .i64 mk.c, .int .i64 mk.d, .int .i64 mk.s, .int .i64 mk.m, .int .i64 mk.l, .slice a n cap] 28) = wb
  obtain ⟨S0, hb0, hsz⟩ : SysAt wb w.heap.size mk (.slice a n cap) ∧ Dr g w wb ∧ wb.heap.size = w.heap.size + 1 := by
    obtain ⟨e, s⟩ := sys_box hwb
    exact ⟨s, by rw [← hwb]; exact hd0.alloc _, by rw [← hwb]; simp⟩
  clear hwb hd0
  have HB0 := Lib.hid hb0
  have HS0 := Lib.hid S0
  have hgn : w.heap.size ≠ g := by omega
  have hgw : g < wb.heap.size := by omega
  have hsz' : w.heap.size + 1 = wb.heap.size := hsz.symm
  simp only [hsz']
  have hsrc := hb0.src
  have o0 : OwnR true wb.heap.size IntsR 29 wb.heap.size (wb.alloc (.cells #[] 29)) (.slice (some ⟨wb.heap.size, 0, none⟩) 0 0) [] := OwnR.empty (Nat.le_refl _)
  have d0 := (Dr.refl hsrc).alloc (.cells #[] 29)
  generalize wb.alloc (.cells #[] 29) = w0 at *
  clear hb0 S0 hsz hsrc
  go_loopw [5, 6] (fun s5 s6 wr => ∃ (k : Nat) (cuts : List (List Int)), s6 = .int .i64 k ∧ k ≤ n ∧ cuts.length = k ∧ OwnR true wb.heap.size IntsR 29 wb.heap.size wr s5 cuts ∧ Dr g wb wr) (fun _ s6 _ => n - (intOf s6).toNat)
  case atStart => exact ⟨0, [], rfl, Nat.zero_le _, rfl, o0, d0⟩
  case round =>
    clear o0 d0
    obtain ⟨k, cuts, rfl, hk, hkl, hown, hd⟩ := hrel
    have HO := Lib.hid hown
    have HD := Lib.hid hd
    have Hkl := Lib.hid hkl
    obtain ⟨c0, c1, c2, c3, c4, c5⟩ := HS0.out.dr hd hgn
    by_cases hlt2 : k < n
    · have hcall := HSo.out wr hd.src
      have HOc := Lib.hid hown.cap
      have HV : Hid (∀ k, u5.ownBlock = some k → k < wr.heap.size) := fun k hk => (OwnA.block HO.out k hk).2
      have hrl : wb.heap.size ≤ wr.heap.size := hd.size
      clear hown hd hkl
      go_wp2_with fail
      refine Calls.mono hcall ?_
      rintro e w7 ⟨r7, rfl, ⟨l, hl⟩, hd7⟩
      clear hcall
      obtain ⟨a7, n7, k7, rfl, -⟩ := SliceR.shape hl
      have HX := Lib.hid hl
      have HOr : Hid (OwnA true (fun k => wb.heap.size ≤ k ∧ k < wr.heap.size) IntsR 29 wb.heap.size w7 _ cuts) := OwnA.drA stable_ints HOc.out hd7 hgw (fun q => by omega)
      have HDx := Lib.hid (HD.out.trans hd7)
      have hs7 := hd7.size
      have HL1 : Hid (cuts.length ≤ 1000000) := by show _ ≤ _; rw [Hkl.out]; omega
      clear hl hd7 HOc c0 c1 c2 c3 c4 c5
      go_wp2_with (at_builtin; (refine wpList_drawRowT (v := u5) (g := g) (w0 := wb) (B := wb.heap.size) (L := wb.heap.size) stable_ints slRepr_slice rfl _ _ 26 rfl Tryz.underlying26 Tryz.infoInts rfl HOr.out (a7, n7, k7) l HX.out rfl rfl HL1.out hrl hs7 HV.out HDx.out (Nat.le_refl _) (by omega) ?_); intro v8 w8 hown8 hd8 hs8)
      go_wp2_with fail
      exact ⟨⟨k + 1, cuts ++ [l], by go_num, by omega, by rw [List.length_append, List.length_singleton, Hkl.out], hown8, hd8⟩, by simp [intOf]; omega⟩
    · have hcall := l01Next_c wr g hd.src 30 (by unfold I64; omega)
      obtain ⟨a5, n5, k5, rfl, hn5, -⟩ := OwnR.shape hown
      have Hn5 := Lib.hid hn5
      have hn5' : n5 = n := by omega
      clear hown hd hkl hn5
      go_wp2_with fail
      refine Calls.mono hcall ?_
      rintro e w7 ⟨_, rfl, ⟨x, rfl, hx0, hx1⟩, hd7⟩
      clear hcall
      have hO7 := OwnR.dr stable_ints HO.out hd7 hgw hgw
      have hd7t := HD.out.trans hd7
      have HO7 := Lib.hid hO7
      have HD7 := Lib.hid hd7t
      have hwz : w.heap.size ≤ wb.heap.size := by omega
      have hs7 := hd7t.size
      have HFin : Hid (∀ w' u (cs : List (List Int)), Dr g wb w' → RowsR ⟨w.heap.size, w'.heap.size, false⟩ w' u cs → cs.length ≤ 20 → DrawR g w (CutsD w) (.returned u) w') := fun w' u cs hd hr hl => ⟨_, rfl, ⟨cs, hr, hl⟩, HB0.out.trans hd⟩
      have HRow : Hid (RowsR ⟨w.heap.size, w7.heap.size, false⟩ w7 (.slice a5 n5 k5) cuts) := stable_rows.sub (OwnR.rows hO7) ⟨fun k hk => ⟨Nat.le_trans hwz hk.1, hk.2⟩, fun h => by cases h⟩
      have hcl : cuts.length ≤ 14 := by have := Hkl.out; omega
      have Hcl := Lib.hid hcl
      clear hO7 hd7t hd7 c0 c1 c2 c3 c4 c5
      obtain ⟨c0, c1, c2, c3, c4, c5⟩ := HS0.out.dr HD7.out hgn
      by_cases e0 : x = 0
      · subst e0
        have hcall := HDc.out w7 HD7.out.src
        obtain ⟨gb, ha5, hg1, hg2, hcell, hfr⟩ : ∃ gb, a5 = some ⟨gb, 0, none⟩ ∧ wb.heap.size ≤ gb ∧ gb < w7.heap.size ∧ (∃ u, w7.cell? ⟨gb, 0, none⟩ = some u) ∧ w7.frozen? ⟨gb, 0, none⟩ = false := by
          obtain ⟨us, Z, hl, ho, -⟩ := HO7.out
          obtain ⟨a', n', c', he, hn', -, hel⟩ := ho.shape
          injection he with q1 q2 q3
          subst q1
          obtain ⟨gb, rfl, h1, h2, h3, h4⟩ := hel 0 (by have := Hkl.out; omega)
          exact ⟨gb, rfl, h1, h2, ⟨_, h3⟩, h4⟩
        subst ha5
        clear hn5' hcl
        have hgbg : gb ≠ g := by omega
        have hRd : SliceR IntsR ⟨wb.heap.size, w7.heap.size, true⟩ w7 (.slice (some ⟨gb, 0, none⟩) n5 k5) cuts := OwnR.reads HO7.out (Nat.le_refl _)
        have HRd := Lib.hid hRd
        have hn50 : 0 < n5 := by have h1 := Hn5.out; have h2 := Hkl.out; omega
        have hn50' : (0 : Int) < (n5 : Int) := by omega
        obtain ⟨uc, hcell⟩ := hcell
        clear hRd
        go_wp2_with fail
        refine Calls.mono hcall ?_
        rintro e w8 ⟨r8, rfl, ⟨l, hl⟩, hd8⟩
        clear hcall c0 c1 c2 c3 c4 c5
        obtain ⟨a8, n8, k8, rfl, -⟩ := SliceR.shape hl
        have hc8 := hd8.cell hcell hgbg
        have hf8 := (hd8.frozen hg2 hgbg).trans hfr
        have hR8 := stable_rows.dr HRd.out hd8 (.inl hgw)
        have hSt := SliceR.storeLo stable_ints hR8 rfl (Nat.le_refl _) hd8.size 0 hn50 _ l hl
        rw [Nat.zero_add] at hSt
        have HSt := Lib.hid hSt
        have HDs := Lib.hid ((HD7.out.trans hd8).put (p := ⟨gb, 0, none⟩) hg1 (.slice a8 n8 k8))
        clear hSt hR8 hl hd8
        go_wp2_with fail
        go_ret
        exact HFin.out _ _ _ HDs.out (stable_rows.sub HSt.out ⟨fun k hk => ⟨Nat.le_trans hwz hk.1, by have := hk.2; simpa [World.setCell] using this⟩, fun h => by cases h⟩) (by rw [List.length_set]; have := Hcl.out; omega)
      · by_cases e1 : x = 1
        · subst e1
          have hcall := HSo.out w7 HD7.out.src
          have HOc := Lib.hid HO7.out.cap
          have HV : Hid (∀ k, (Value.slice a5 n5 k5).ownBlock = some k → k < w7.heap.size) := fun k hk => (OwnA.block HO7.out k hk).2
          clear hn5' hcl
          go_wp2_with fail
          refine Calls.mono hcall ?_
          rintro e w8 ⟨r8, rfl, ⟨l, hl⟩, hd8⟩
          clear hcall
          obtain ⟨a8, n8, k8, rfl, -⟩ := SliceR.shape hl
          have HX := Lib.hid hl
          have HOr : Hid (OwnA true (fun k => wb.heap.size ≤ k ∧ k < w7.heap.size) IntsR 29 wb.heap.size w8 _ cuts) := OwnA.drA stable_ints HOc.out hd8 hgw (fun q => by omega)
          have HDx := Lib.hid (HD7.out.trans hd8)
          have hs8 := hd8.size
          have HL1 : Hid (cuts.length ≤ 1000000) := by show _ ≤ _; have := Hcl.out; omega
          clear hl hd8 HOc c0 c1 c2 c3 c4 c5
          go_wp2_with (at_builtin; (refine wpList_drawRowT (v := .slice a5 n5 k5) (g := g) (w0 := wb) (B := wb.heap.size) (L := wb.heap.size) stable_ints slRepr_slice rfl _ _ 26 rfl Tryz.underlying26 Tryz.infoInts rfl HOr.out (a8, n8, k8) l HX.out rfl rfl HL1.out hs7 hs8 HV.out HDx.out (Nat.le_refl _) (by omega) ?_); intro v9 w9 hown9 hd9 hs9)
          go_wp2_with fail
          go_ret
          exact HFin.out _ _ _ hd9 (stable_rows.sub (OwnR.rows hown9) ⟨fun k hk => ⟨Nat.le_trans hwz hk.1, hk.2⟩, fun h => by cases h⟩) (by rw [List.length_append, List.length_singleton]; have := Hcl.out; omega)
        · clear hn5' hcl
          go_wp2_with fail
          go_ret
          exact HFin.out _ _ _ HD7.out HRow.out (by have := Hcl.out; omega)
end Go.Proofs.YtegmognpofcfiaaGreat
