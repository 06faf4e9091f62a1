/- Proved: whether two lists are the same, slices.Equal; where a key stands, the program; the stamp of a key, the program. -/
import Derived.Test.YtnndaboaeijbkaaDoorChecked
import Derived.Test.YtnndaboaeijbkaaDoorUOpens
import Derived.Test.YtnndaboaeijbkaaDoorUFirstIdx
import Derived.Test.YtnndaboaeijbkaaDoorUPkSm
import Derived.Test.YtnndaboaeijbkaaDoorUPkW
import Derived.Test.YtnndaboaeijbkaaDoorURowCode
namespace Go.Proofs.YtnndaboaeijbkaaDoor
open Go.ChangeShapes Go.WideShapes Go.ChangeAt Go.RowKit
set_option linter.unusedVariables false

theorem eq_of_getD {α : Type} (d : α) {a b : List α} (h : a.length = b.length) (h2 : ∀ i, i < a.length → a.getD i d = b.getD i d) : a = b := by
  refine List.ext_getElem h (fun i h1 h3 => ?_)
  have := h2 i h1
  simpa [h1, h3] using this
theorem ne_of_getD {α : Type} [DecidableEq α] (d : α) {a b : List α} (i : Nat) (h : a.getD i d ≠ b.getD i d) : decide (a = b) = false := decide_eq_false (fun e => h (by rw [e]))
theorem ne_of_len {α : Type} [DecidableEq α] {a b : List α} (h : a.length ≠ b.length) : decide (a = b) = false := decide_eq_false (fun e => h (by rw [e]))

set_option maxHeartbeats 400000 in
theorem EqualInts_c (w : World) (u v : Value) (y z : Zone) (xs ys : List Int) (hx : IntsR y w u xs) (hy : IntsR z w v ys) :
    Calls Tryd.prog 52 #[u, v] w (RetQ w (.bool (decide (xs = ys)))) := by
  have HL : Hid (xs.length ≠ ys.length → decide (xs = ys) = false) := ne_of_len
  have HN : Hid (∀ i, xs.getD i 0 ≠ ys.getD i 0 → decide (xs = ys) = false) := fun i h => ne_of_getD 0 i h
  have HY : Hid (xs.length = ys.length → (∀ i, i < xs.length → xs.getD i 0 = ys.getD i 0) → decide (xs = ys) = true) := fun h h2 => decide_eq_true (eq_of_getD 0 h h2)
  generalize decide (xs = ys) = res at *
  obtain ⟨a, n, cap, rfl, hn, hmax, -⟩ := SliceR.shape hx
  obtain ⟨a2, n2, cap2, rfl, hn2, hmax2, -⟩ := SliceR.shape hy
  have HX := Lib.hid (fun (k : Nat) (hk : k < n) => ints_at hx hk)
  have HYY := Lib.hid (fun (k : Nat) (hk : k < n2) => ints_at hy hk)
  have Hn := Lib.hid hn
  have Hn2 := Lib.hid hn2
  clear hn hn2 hx hy
  go_enter Tryd.func52, Tryd.ntmps52
  by_cases hl : n = n2
  · subst hl
    go_wp2_with fail
    go_loopw [5, 13] (fun _ s13 wr => ∃ k : Nat, k ≤ n ∧ s13 = .int .i64 k ∧ (∀ i, i < k → xs.getD i 0 = ys.getD i 0) ∧ Drew w wr) (fun _ s13 _ => n - (intOf s13).toNat)
    case atStart => exact ⟨0, Nat.zero_le _, rfl, by simp, Drew.refl _⟩
    case round =>
      obtain ⟨k, hk, rfl, hall, hd⟩ := hrel
      have Hall := Lib.hid hall
      clear hall
      by_cases hlt : k < n
      · obtain ⟨b, off, rfl, -, hc⟩ := HX.out k hlt
        obtain ⟨b2, off2, rfl, -, hc2⟩ := HYY.out k hlt
        replace hc := hc wr (Ext.ofDrew hd)
        replace hc2 := hc2 wr (Ext.ofDrew hd)
        have HNk := Lib.hid (HN.out k)
        have Hgo : Hid (xs.getD k 0 = ys.getD k 0 → ∀ i, i < k + 1 → xs.getD i 0 = ys.getD i 0) := fun h j hj => by
          by_cases e : j = k
          · rw [e]; exact h
          · exact Hall.out j (by omega)
        generalize xs.getD k 0 = x at *
        generalize ys.getD k 0 = y at *
        by_cases hxy : x = y
        · have HG := Lib.hid (Hgo.out hxy)
          have hb : (x != y) = false := by simpa using hxy
          clear hxy Hgo HNk
          go_wp2_with fail
          go_quiet (fail)
          go_wp2_with fail
          go_roundw
          case rel => exact ⟨k+1, by omega, by go_num, HG.out, hd.drewN _⟩
          case measure => simp [intOf]; omega
        · have HG := Lib.hid (HNk.out hxy)
          have hb : (x != y) = true := by simpa using hxy
          clear hxy Hgo HNk
          go_wp2_with fail
          go_quiet (fail)
          go_wp2_with fail
          go_ret
          exact ⟨ret_bool' HG.out, hd.drewN _⟩
      · have HG : Hid (res = true) := HY.out (by rw [← Hn.out, ← Hn2.out]) (fun i hi => Hall.out i (by have := Hn.out; omega))
        go_wp2_with fail
        go_ret
        exact ⟨ret_bool' HG.out, hd⟩
  · have hb : ((n : Int) != (n2 : Int)) = true := by rw [bne_iff_ne]; omega
    have HG := Lib.hid (HL.out (by rw [← Hn.out, ← Hn2.out]; exact hl))
    clear hl
    go_wp2_with fail
    go_ret
    exact ⟨ret_bool' HG.out, Drew.refl _⟩

open Go.ChangeShapes Go.WideShapes Go.ChangeAt Go.RowKit
set_option linter.unusedVariables false

theorem Tryd.goesRankOf1 : Goes Tryd.prog 51 := goes_of Tryd.func51 (by kernel_rfl) (by kernel_rfl)
def rkStep (k0 : List Int) (s : Int) (k : List Int) : Int := if k = k0 then s else wrap64 (s + 1)
def rkMore (k0 : List Int) (_ : Int) (k : List Int) : Bool := !decide (k = k0)
theorem visits_rk {k0 : List Int} (B : List (List Int)) : ∀ (A : List (List Int)) (s : Nat), k0 ∉ A → s + A.length ≤ 1000000 → (visits (rkStep k0) (rkMore k0) (s : Int) (A ++ k0 :: B)).1 = ((s + A.length : Nat) : Int)
  | [], s, _, _ => by
    show (visits (rkStep k0) (rkMore k0) (s : Int) (k0 :: B)).1 = _
    unfold visits rkMore rkStep
    simp
  | k :: A, s, hn, h => by
    rw [List.length_cons] at h
    have hk : k ≠ k0 := fun e => hn (by rw [e]; exact List.mem_cons_self)
    have hA : k0 ∉ A := fun e => hn (List.mem_cons_of_mem _ e)
    have e : visits (rkStep k0) (rkMore k0) (s : Int) (k :: A ++ k0 :: B) = visits (rkStep k0) (rkMore k0) (rkStep k0 s k) (A ++ k0 :: B) := by
      show visits (rkStep k0) (rkMore k0) (s : Int) (k :: (A ++ k0 :: B)) = _
      conv => lhs; unfold visits
      rw [if_pos (by unfold rkMore; rw [decide_eq_false hk]; rfl)]
    have e2 : rkStep k0 (s : Int) k = ((s + 1 : Nat) : Int) := by unfold rkStep; rw [if_neg hk]; unfold wrap64; omega
    rw [e, e2, visits_rk B A (s + 1) hA (by omega), List.length_cons]
    congr 1; omega

set_option maxRecDepth 20000 in
set_option maxHeartbeats 2000000 in
theorem rankOf1_c {b : Nat} {F : Nat → Prop} {s : Int} (w : World) (v : Value) (z : Zone) (key : List Int) (hI : CntInv b F s w) (hk : IntsR z w v key) (kb : Nat) (kv : Value) (kz : Zone) (k0 : List Int) (hc : w.cell? ⟨kb, 0, none⟩ = some kv) (hk0 : IntsR kz w kv k0) :
    Calls Tryd.prog 51 #[v, .pointer (some ⟨kb, 0, none⟩), .pointer (some ⟨b, 0, none⟩)] w (fun e w' => e = .returned (.bool (rkMore k0 s key)) ∧ ∃ F', CntInv b F' (rkStep k0 s key) w' ∧ (∀ k, F' k → F k ∨ w.heap.size ≤ k) ∧ Frame F w w') := by
  have HE := Lib.hid (EqualInts_c w v kv z kz key k0 hk hk0)
  have HI := Lib.hid hI
  have H1 : Hid (rkMore k0 s key = !decide (key = k0)) := rfl
  have H2 : Hid (decide (key = k0) = true → rkStep k0 s key = s) := fun h => by show _ = _; unfold rkStep; rw [if_pos (of_decide_eq_true h)]
  have H3 : Hid (decide (key = k0) = false → rkStep k0 s key = wrap64 (s + 1)) := fun h => by show _ = _; unfold rkStep; rw [if_neg (of_decide_eq_false h)]
  generalize rkStep k0 s key = st at *
  generalize rkMore k0 s key = mo at *
  generalize decide (key = k0) = q at *
  obtain ⟨a, n, c, rfl, -⟩ := SliceR.shape hk
  obtain ⟨a2, n2, c2, rfl, -⟩ := SliceR.shape hk0
  clear hI hk hk0
  go_enter Tryd.func51, Tryd.ntmps51
  go_wp2_with fail
  refine Calls.mono HE.out ?_
  rintro e w1 hr
  obtain ⟨rfl, hd, e1⟩ := retq_ext hr
  clear hr
  have HI1 : CntInv b F s w1 := HI.out.keep (fun k hk => Below.block e1 k (HI.out.lt k hk)) e1.size
  have HS := Lib.hid (HI1.set (wrap64 (s + 1)))
  have HI1' := Lib.hid HI1
  have hc1 := HI1.cell
  have hf1 := HI1.free
  clear HI1
  have HF : Hid (Frame F w w1) := Frame.of_ext e1
  cases q with
  | true =>
    have HH := H2.out rfl
    subst HH
    go_wp2_with fail
    go_ret
    exact ⟨by rw [H1.out]; rfl, F, HI1'.out, fun k hk => .inl hk, HF.out⟩
  | false =>
    have HH := H3.out rfl
    subst HH
    go_wp2_with fail
    go_ret
    exact ⟨by rw [H1.out]; rfl, F, HS.out.1, fun k hk => .inl hk, HF.out.trans HS.out.2 (fun i hi _ => hi)⟩

theorem visitRk {b : Nat} {w0 : World} {F0 : Nat → Prop} {kb : Nat} {kv : Value} {kz : Zone} {k0 : List Int} (hc : w0.cell? ⟨kb, 0, none⟩ = some kv) (hkb : ¬ F0 kb) (hk0 : IntsR kz w0 kv k0) (hz : ∀ k, kz.Has k → ¬ F0 k) :
    VisitK 51 #[.pointer (some ⟨kb, 0, none⟩), .pointer (some ⟨b, 0, none⟩)] w0 F0 (CntInv b) (rkStep k0) (rkMore k0) (fun _ => True) where
  goes := Tryd.goesRankOf1
  keep := fun h hk hs => h.keep hk hs
  fresh := fun h => h.lt
  call := by
    rintro F s w v z key hI hF hK hr _ _
    exact rankOf1_c w v z key hI hr kb kv kz k0 (hK.cell hkb hc) (hK.read stable_ints hk0 hz)

set_option maxRecDepth 20000 in
set_option maxHeartbeats 1000000 in
theorem keysCode1_c (w : World) (mk : MK) (v : Value) (z : Zone) (key : List Int) (h : RowsR z w v [key]) :
    Calls Tryd.prog 49 #[mk.v, v] w (Ret w fun r _ => r = .int .i64 (if isMaker mk = true then (if isKeyB mk key = true then 0 else 2) else 1)) := by
  have HM := Lib.hid (fun (w' : World) => IsMaker_c w' mk)
  obtain ⟨a, n, cap, rfl, hn, -⟩ := SliceR.shape h
  have hn1 : n = 1 := by simpa using hn
  subst hn1
  obtain ⟨b, off, rfl, a1, n1, c1, -, -, -, hcell, ⟨y, -, hy⟩, -⟩ := rows_at h (k := 0) (by omega)
  have e0 : [key].getD 0 [] = key := rfl
  rw [e0] at hy
  have HIK := Lib.hid (fun (hm : isMaker mk = true) (w' : World) (e : Ext w w') => isKey_c w' mk (mkOk hm).d8 (by have := (mkOk hm).m1; omega) (.slice a1 n1 c1) y key (hy w' e))
  have HCl := Lib.hid hcell
  generalize isKeyB mk key = qk at *
  generalize isMaker mk = q at *
  clear h hn hy hcell
  obtain ⟨c, d, s, m, l⟩ := mk
  unfold MK.v at *
  go_enter Tryd.func49, Tryd.ntmps49
  go_wp2_with fail
  generalize hw2 : World.alloc w _ = w1
  obtain ⟨e1, S1⟩ := mk_box (mk := ⟨c, d, s, m, l⟩) hw2
  clear hw2
  have HS := Lib.hid S1
  obtain ⟨c0, c1', c2, c3, c4⟩ := S1
  go_wp2_with fail
  refine Calls.mono (HM.out w1) ?_
  rintro e w2 hr
  obtain ⟨r, rfl, rfl, e2⟩ := ret_ext hr
  clear hr c0 c1' c2 c3 c4
  obtain ⟨c0, c1', c2, c3, c4⟩ := HS.out.ext e2
  have et := e1.trans e2
  cases q with
  | false =>
    go_wp2_with fail
    go_ret
    exact ⟨_, rfl, rfl, et⟩
  | true =>
    have HIK2 := Lib.hid (HIK.out rfl)
    clear HIK HM
    go_wp2_with fail
    go_loopw [6, 12] (fun _ s12 wr => ∃ k : Nat, k ≤ 1 ∧ s12 = .int .i64 (k : Int) ∧ (k = 1 → qk = true) ∧ Ext w1 wr) (fun _ s12 _ => 1 - (intOf s12).toNat)
    case atStart => exact ⟨0, by omega, rfl, fun h => by omega, e2⟩
    case round =>
      obtain ⟨k, hk, rfl, hq, ew⟩ := hrel
      have etw := e1.trans ew
      obtain ⟨c0, c1', c2, c3, c4⟩ := HS.out.ext ew
      by_cases hk0 : k = 0
      · subst hk0
        have hcl : wr.cell? ⟨b, off, none⟩ = some (.slice a1 n1 c1) := HCl.out wr etw
        have hz0 : ((0 : Nat) : Int) = 0 := rfl
        rw [hz0]
        go_wp2_with fail
        refine Calls.mono (HIK2.out wr etw) ?_
        rintro e w3 hr
        obtain ⟨r, rfl, rfl, e3⟩ := ret_ext hr
        clear hr
        cases qk with
        | false =>
          go_wp2_with fail
          go_ret
          exact ⟨_, rfl, rfl, etw.trans e3⟩
        | true =>
          go_wp2_with fail
          go_roundw
          case rel => exact ⟨1, by omega, by go_num, fun _ => by trivial, ew.trans e3⟩
          case measure => simp [intOf]
      · have hk1 : k = 1 := by omega
        subst hk1
        obtain rfl := hq rfl
        have hz1 : ((1 : Nat) : Int) = 1 := rfl
        rw [hz1]
        go_wp2_with fail
        go_ret
        exact ⟨_, rfl, rfl, etw⟩

def rankCode (mk : MK) (key : List Int) : Value := if isMaker mk = true then (if isKeyB mk key = true then .tuple #[.int .i64 (rankM mk key : Nat), .int .i64 0] else .tuple #[.int .i64 0, .int .i64 2]) else .tuple #[.int .i64 0, .int .i64 1]

set_option maxRecDepth 20000 in
set_option maxHeartbeats 2000000 in
theorem RankOf_c (w : World) (mk : MK) (v : Value) (z : Zone) (key : List Int) (h : IntsR z w v key) :
    Calls Tryd.prog 33 #[mk.v, v] w (Ret w fun r _ => r = rankCode mk key) := by
  have HKC := Lib.hid (fun (w' : World) (u : Value) (y : Zone) (g : RowsR y w' u [key]) => keysCode1_c w' mk u y key g)
  have HE := Lib.hid (fun (ok : MkOk mk) (w' : World) (e : Ext w w') (b kb : Nat) (F0 : Nat → Prop) (hI : CntInv b F0 0 w') (hc : w'.cell? ⟨kb, 0, none⟩ = some v) (hkb : ¬ F0 kb) (hz : ∀ k, (⟨0, w.heap.size, false⟩ : Zone).Has k → ¬ F0 k) (hr : IntsR ⟨0, w.heap.size, false⟩ w' v key) => eachKeyK_c (visitRk (b := b) (w0 := w') (F0 := F0) hc hkb hr hz) mk ok (fun _ _ => trivial) 0 hI)
  have HV2 : Hid (isMaker mk = true → isKeyB mk key = true → (visits (rkStep key) (rkMore key) 0 (allK mk)).1 = ((rankM mk key : Nat) : Int)) := fun hm hk => by
    have hmem := allK_of (mk := mk) (k := key) (by have := (mkOk hm).d8; omega) (of_decide_eq_true hk)
    obtain ⟨A, B, hAB, hn⟩ := List.eq_append_cons_of_mem hmem
    have hl := (rank_le (mkOk hm) hmem).2
    have h3 := visits_rk B A 0 hn (by rw [hAB, List.length_append] at hl; omega)
    rw [Nat.zero_add] at h3
    rw [hAB, rank_at hAB]
    exact h3
  have HR : Hid (rankCode mk key = if isMaker mk = true then (if isKeyB mk key = true then .tuple #[.int .i64 (rankM mk key : Nat), .int .i64 0] else .tuple #[.int .i64 0, .int .i64 2]) else .tuple #[.int .i64 0, .int .i64 1]) := rfl
  have HOk : Hid (isMaker mk = true → MkOk mk) := mkOk
  have HFr := Lib.hid (IntsR.free h)
  obtain ⟨a, n, cap, rfl, -⟩ := SliceR.shape h
  generalize rankCode mk key = res at *
  generalize rankM mk key = R at *
  generalize isKeyB mk key = qk at *
  generalize isMaker mk = q at *
  generalize (visits (rkStep key) (rkMore key) 0 (allK mk)).1 = cl at *
  have hGo := Tryd.goesRankOf1
  unfold Goes at hGo
  have HStb : Hid (∀ w', Ext w w' → IntsR ⟨0, w.heap.size, false⟩ w' (.slice a n cap) key) := fun w' e => stable_ints.ext HFr.out e
  clear h HFr
  obtain ⟨c, d, s, m, l⟩ := mk
  unfold MK.v at *
  go_enter Tryd.func33, Tryd.ntmps33
  go_wp2_with fail
  generalize hw0 : World.alloc _ _ = w0
  obtain ⟨e0, S0, c7, z0, HRow⟩ : Ext w w0 ∧ MkAt w0 w.heap.size ⟨c, d, s, m, l⟩ ∧ w0.cell? ⟨w.heap.size + 1, 0, none⟩ = some (.slice a n cap) ∧ w0.heap.size = w.heap.size + 1 + 1 + 1 ∧ RowsR ⟨0, w0.heap.size, false⟩ w0 (.slice (some ⟨w.heap.size + 1 + 1, 0, none⟩) 1 1) [key] := by
    subst hw0
    refine ⟨((Ext.alloc _ _).trans (Ext.alloc _ _)).trans (Ext.alloc _ _), ⟨?_, ?_, ?_, ?_, ?_⟩, ?_, ?_, ?_⟩
    rotate_right
    · have hrow := (rows_one (e := 28) (HStb.out _ ((Ext.alloc w (.cells #[.int .i64 c, .int .i64 d, .int .i64 s, .int .i64 m, .int .i64 l] 25)).trans (Ext.alloc _ (.cells #[.slice a n cap] 28)))) rfl).2
      simp only [World.size_alloc] at hrow ⊢
      exact hrow
    all_goals (clear HKC HE HV2 HR HOk HStb hGo; go_simp; done)
  clear hw0
  have HS := Lib.hid S0
  have H7 := Lib.hid c7
  clear S0 c7
  refine Calls.mono (HKC.out w0 _ _ HRow) ?_
  clear HRow HKC
  rintro e w1 hr
  obtain ⟨r, rfl, rfl, e1⟩ := ret_ext hr
  clear hr
  have et := e0.trans e1
  obtain ⟨c0, c1, c2, c3, c4⟩ := HS.out.ext e1
  have c7 := e1.cell H7.out
  cases q with
  | false =>
    have HH : Hid (res = .tuple #[.int .i64 0, .int .i64 1]) := HR.out
    clear HR HE HV2
    go_wp2_with fail
    go_ret2
    exact ⟨_, rfl, HH.out.symm, et⟩
  | true =>
    cases qk with
    | false =>
      have HH : Hid (res = .tuple #[.int .i64 0, .int .i64 2]) := HR.out
      clear HR HE HV2
      go_wp2_with fail
      go_ret2
      exact ⟨_, rfl, HH.out.symm, et⟩
    | true =>
      have HH : Hid (res = .tuple #[.int .i64 (R : Nat), .int .i64 0]) := HR.out
      have HV3 := Lib.hid (HV2.out rfl rfl)
      have HE3 := Lib.hid (HE.out (HOk.out rfl))
      clear HR HE HV2 HOk
      have Hsz : Hid (w.heap.size + 1 + 1 + 1 ≤ w1.heap.size) := by show _ ≤ _; rw [← z0]; exact e1.size
      clear z0
      have d0 := fun o => (Ext.alloc w1 o).cell c0
      have d1 := fun o => (Ext.alloc w1 o).cell c1
      have d2 := fun o => (Ext.alloc w1 o).cell c2
      have d3 := fun o => (Ext.alloc w1 o).cell c3
      have d4 := fun o => (Ext.alloc w1 o).cell c4
      go_wp2_with fail
      have HC := cnt_new (w2 := w1)
      have e3 : Ext w1 (w1.alloc (.cells #[.int .i64 0] 2)) := Ext.alloc _ _
      generalize hw3 : World.alloc w1 _ = w3 at HC e3 ⊢
      clear hw3
      have c7' := e3.cell c7
      clear c7 c0 c1 c2 c3 c4 d0 d1 d2 d3 d4
      refine Calls.mono (HE3.out w3 (et.trans e3) w1.heap.size (w.heap.size + 1) _ HC c7' (fun hk => by have h3 : w.heap.size + 1 = w1.heap.size := hk; have := Hsz.out; omega) (fun k hk hk2 => by have h1 : k < w.heap.size := hk.2; have h3 : k = w1.heap.size := hk2; have := Hsz.out; omega) (HStb.out _ (et.trans e3))) ?_
      rintro e w4 ⟨rfl, F', i4, g4, f4⟩
      have hc4 := i4.cell
      have HX : Hid (Ext w w4) := (Frame.trans (Frame.of_ext (F := fun k => k = w1.heap.size) (et.trans e3)) f4 (fun i hi _ => hi)).below (B := w.heap.size) (fun k hk => by have := Hsz.out; rw [hk]; omega) (Nat.le_refl _)
      clear i4 g4 f4 HC HE3
      go_wp2_with fail
      go_ret2
      exact ⟨_, rfl, by rw [HH.out, ← HV3.out]; rfl, HX.out⟩

open Go.ChangeShapes Go.WideShapes Go.ChangeAt Go.RowKit
set_option linter.unusedVariables false

theorem stampOf_no {mk : MK} {key : List Int} {ser sec : Int} (h : isMaker mk = false) : stampOfM mk key ser sec = .tuple #[.string ⟨#[]⟩, .int .i64 1] := by
  have h1 : codeM mk ser sec = 1 := by unfold codeM; rw [if_neg (by rw [h]; decide)]
  unfold stampOfM
  rw [h1, if_pos (by decide)]
theorem stampOf_key {mk : MK} {key : List Int} {ser sec : Int} (h : isMaker mk = true) (hk : isKeyB mk key = false) : stampOfM mk key ser sec = .tuple #[.string ⟨#[]⟩, .int .i64 2] := by
  have hkf : keyFault mk key ≠ 0 := of_decide_eq_false hk
  have h1 : codeM mk ser sec = 0 ∨ codeM mk ser sec = 2 := by
    unfold codeM; rw [if_pos h]; split
    · exact .inl rfl
    · exact .inr rfl
  unfold stampOfM
  rcases h1 with h1 | h1
  · rw [h1, if_neg (by decide), if_pos hkf]
  · rw [h1, if_pos (by decide)]
theorem stampOf_range {mk : MK} {key : List Int} {ser sec : Int} (h : isMaker mk = true) (hb : (inB ser 0 25 && inB sec 0 ((countM mk : Int) - 1)) = false) : stampOfM mk key ser sec = .tuple #[.string ⟨#[]⟩, .int .i64 2] := by
  have h1 : codeM mk ser sec = 2 := by unfold codeM; rw [if_pos h, if_neg (by rw [hb]; decide)]
  unfold stampOfM
  rw [h1, if_pos (by decide)]
theorem stampOf_yes {mk : MK} {key : List Int} {ser sec : Int} (h : isMaker mk = true) (hk : isKeyB mk key = true) (hb : (inB ser 0 25 && inB sec 0 ((countM mk : Int) - 1)) = true) : stampOfM mk key ser sec = .tuple #[stampV (lenM mk) ser.toNat ((rankM mk key + sec.toNat) % countM mk), .int .i64 0] := by
  have h1 : codeM mk ser sec = 0 := by unfold codeM; rw [if_pos h, if_pos hb]
  have hkf : keyFault mk key = 0 := of_decide_eq_true hk
  unfold stampOfM
  rw [h1, hkf, if_neg (by decide), if_neg (by decide)]

set_option maxRecDepth 20000 in
set_option maxHeartbeats 1000000 in
theorem StampOf_c (w : World) (hT : Pow10 w) (mk : MK) (v : Value) (z : Zone) (key : List Int) (h : IntsR z w v key) (ser sec : Int) : Calls Tryd.prog 19 #[mk.v, v, .int .i64 ser, .int .i64 sec] w (Ret w fun r _ => r = stampOfM mk key ser sec) := by
  have HRk := Lib.hid (fun (w' : World) (e : Ext w w') => RankOf_c w' mk v z key (stable_ints.ext h e))
  unfold rankCode at HRk
  have HC := Lib.hid (fun (hm : isMaker mk = true) (w' : World) => countKeys_c w' mk (mkOk hm))
  have hcn : (allK mk).length = countM mk := rfl
  rw [hcn] at HC
  have hln : (Lib.decDigits (countM mk)).length = lenM mk := rfl
  have HTx := Lib.hid (fun (h : isMaker mk = true) (a b : Nat) (ha : a ≤ 25) (hb : b ≤ 262144) (w' : World) (e : Ext w w') => stampText_c w' (hT.ext e) (countM mk) a b (countM_le (mkOk h)) ha hb)
  rw [hln] at HTx
  have HNm : Hid (isMaker mk = true → countM mk ≤ 262144) := fun h => countM_le (mkOk h)
  have HRl := Lib.hid (fun (hm : isMaker mk = true) (hk : isKeyB mk key = true) => rank_le (mkOk hm) (allK_of (mk := mk) (k := key) (by have := (mkOk hm).d8; omega) (of_decide_eq_true hk)))
  rw [hcn] at HRl
  have H1 := Lib.hid (fun (h : isMaker mk = false) => stampOf_no (key := key) (ser := ser) (sec := sec) h)
  have H2 := Lib.hid (fun (h : isMaker mk = true) (hk : isKeyB mk key = false) => stampOf_key (ser := ser) (sec := sec) h hk)
  have H3 := Lib.hid (fun (h : isMaker mk = true) (hb : (inB ser 0 25 && inB sec 0 ((countM mk : Int) - 1)) = false) => stampOf_range (key := key) h hb)
  have H4 := Lib.hid (fun (h : isMaker mk = true) (hk : isKeyB mk key = true) (hb : (inB ser 0 25 && inB sec 0 ((countM mk : Int) - 1)) = true) => stampOf_yes h hk hb)
  have HV : Hid (∀ a b, ∃ st, stampV (lenM mk) a b = .string st) := fun a b => ⟨_, rfl⟩
  obtain ⟨a, n, cap, rfl, -⟩ := SliceR.shape h
  clear hcn hln hT h
  generalize stampOfM mk key ser sec = res at *
  generalize stampV (lenM mk) = sV at *
  generalize countM mk = N at *
  generalize rankM mk key = R at *
  generalize isKeyB mk key = qk at *
  generalize isMaker mk = q at *
  obtain ⟨c, d, s', m, l⟩ := mk
  unfold MK.v at *
  go_enter Tryd.func19, Tryd.ntmps19
  go_wp2_with fail
  generalize hw2 : World.alloc w _ = w1
  obtain ⟨e1, S1⟩ := mk_box (mk := ⟨c, d, s', m, l⟩) hw2
  clear hw2
  have HS := Lib.hid S1
  obtain ⟨c0, c1, c2, c3, c4⟩ := S1
  go_wp2_with fail
  refine Calls.mono (HRk.out w1 e1) ?_
  rintro e w2 hr
  obtain ⟨r, rfl, rfl, e2⟩ := ret_ext hr
  clear hr c0 c1 c2 c3 c4
  obtain ⟨c0, c1, c2, c3, c4⟩ := HS.out.ext e2
  have et := e1.trans e2
  cases q with
  | false =>
    have HH := Lib.hid (H1.out rfl)
    clear H1 H2 H3 H4 HRk HRl HTx
    go_wp2_with fail
    go_ret2
    exact ⟨_, rfl, HH.out.symm, et⟩
  | true =>
    cases qk with
    | false =>
      have HH := Lib.hid (H2.out rfl rfl)
      clear H1 H2 H3 H4 HRk HRl HTx
      go_wp2_with fail
      go_ret2
      exact ⟨_, rfl, HH.out.symm, et⟩
    | true =>
      have hN := HNm.out rfl
      have hR := (HRl.out rfl rfl).1
      have H3' := Lib.hid (H3.out rfl)
      have H4' := Lib.hid (H4.out rfl rfl)
      have HC' := Lib.hid (HC.out rfl)
      have HTx' := Lib.hid (HTx.out rfl)
      clear H1 H2 H3 H4 HRk HRl HTx HC HNm
      have hwN : IntKind.i64.wrap ((N : Int) - 1) = (N : Int) - 1 := IntWalk.i64_in _ (by omega)
      go_wp2_with fail
      refine Calls.mono (HC'.out w2) ?_
      rintro e w3 hr
      obtain ⟨r, rfl, rfl, e3⟩ := ret_ext hr
      clear hr c0 c1 c2 c3 c4
      have et3 := et.trans e3
      go_wp2_with fail
      refine Calls.mono (within_c w3 ser 0 25) ?_
      rintro e w4 hr
      obtain ⟨rfl, hd4, g4⟩ := retq_ext hr
      clear hr
      have et4 := et3.trans g4
      cases h0 : inB ser 0 25 with
      | false =>
        have HH := Lib.hid (H3'.out (by rw [h0]; rfl))
        clear H3' H4' h0
        go_wp2_with fail
        go_ret2
        exact ⟨_, rfl, HH.out.symm, et4⟩
      | true =>
        have h0' := inB_iff.1 h0
        go_wp2_with fail
        refine Calls.mono (within_c w4 sec 0 ((N : Int) - 1)) ?_
        rintro e w5 hr
        obtain ⟨rfl, hd5, g5⟩ := retq_ext hr
        clear hr
        have et5 := et4.trans g5
        cases h1 : inB sec 0 ((N : Int) - 1) with
        | false =>
          have HH := Lib.hid (H3'.out (by rw [h0, h1]; rfl))
          clear H3' H4' h0 h1
          go_wp2_with fail
          go_ret2
          exact ⟨_, rfl, HH.out.symm, et5⟩
        | true =>
          have h1' := inB_iff.1 h1
          have HH := Lib.hid (H4'.out (by rw [h0, h1]; rfl))
          obtain ⟨sn, rfl⟩ := Int.eq_ofNat_of_zero_le h0'.1
          obtain ⟨tn, rfl⟩ := Int.eq_ofNat_of_zero_le h1'.1
          have HH2 : Hid (res = .tuple #[sV sn ((R + tn) % N), .int .i64 0]) := HH.out
          have HT3 := Lib.hid (HTx'.out sn ((R + tn) % N) (by omega) (by have := Nat.mod_lt (R + tn) (show N > 0 by omega); omega) w5 et5)
          obtain ⟨st, hst⟩ := HV.out sn ((R + tn) % N)
          rw [hst] at HT3 HH2
          have hw1 : IntKind.i64.wrap ((R : Int) + (tn : Int)) = (R : Int) + (tn : Int) := IntWalk.i64_in _ (by omega)
          have hmod : ((R : Int) + (tn : Int)).tmod (N : Int) = (((R + tn) % N : Nat) : Int) := by rw [Int.tmod_eq_emod_of_nonneg (by omega)]; norm_cast
          have hmod2 : ((R : Int) + (tn : Int)) % (N : Int) = (((R + tn) % N : Nat) : Int) := by norm_cast
          have hlt : (R + tn) % N < N := Nat.mod_lt _ (by omega)
          generalize (R + tn) % N = ix at *
          have hw4 : IntKind.i64.wrap (ix : Int) = (ix : Int) := IntWalk.i64_in _ (by omega)
          have hN0 : ((N : Int) == 0) = false := by rw [beq_eq_false_iff_ne]; omega
          have hN1 : ¬ N = 0 := by omega
          clear HH H3' H4' HTx' hst h0 h1 h0' h1' hR
          go_wp2_with fail
          refine Calls.mono HT3.out ?_
          rintro e w6 hr
          obtain ⟨r, rfl, rfl, e6⟩ := ret_ext hr
          clear hr
          go_wp2_with fail
          go_ret2
          exact ⟨_, rfl, HH2.out.symm, et5.trans e6⟩
end Go.Proofs.YtnndaboaeijbkaaDoor
