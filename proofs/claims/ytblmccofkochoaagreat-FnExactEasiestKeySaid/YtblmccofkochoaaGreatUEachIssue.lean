/- Proved: the program's visit of all keys that can be issued. -/
import Derived.Test.YtblmccofkochoaaGreatChecked
import Derived.Laws.EntriesVeiled
import Derived.Test.YtblmccofkochoaaGreatUEachKept
import Derived.Test.YtblmccofkochoaaGreatUIssueLaw
import Derived.Test.YtblmccofkochoaaGreatUCanIssue
namespace Go.Proofs.YtblmccofkochoaaGreat
open Go.ChangeShapes Go.WideShapes Go.ChangeAt Go.RowKit
set_option linter.unusedVariables false

theorem Tryz.goesStaysOpen1 : Goes Tryz.prog 206 := goes_of Tryz.func206 (by kernel_rfl) (by kernel_rfl)
theorem Tryz.goesEachIssue1 : Goes Tryz.prog 189 := goes_of Tryz.func189 (by kernel_rfl) (by kernel_rfl)

set_option maxRecDepth 20000 in
set_option maxHeartbeats 2000000 in
/-- the closure: a key that stays is visited -/
theorem eachIssue1_c {σ : Type} {Fv : FuncId} {caps : Array Value} {w0 : World} {F0 : Nat → Prop} {Inv : (Nat → Prop) → σ → World → Prop} {step : σ → List Int → σ} {more : σ → List Int → Bool} {Ok : List Int → Prop} (V : VisitK Fv caps w0 F0 Inv step more Ok)
    {mk : MK} {t cuts : List (List Int)} (ok : PartOk mk t cuts) (hlast : cuts.length < t.length) {F : Nat → Prop} {s : σ} (w : World) (hI : Inv F s w) (hF : ∀ k, F k → F0 k ∨ w0.heap.size ≤ k) (hK : Kept F0 w0 w)
    {b8 b7 bl br bc bs : Nat} {v u vl vr : Value} {z y zl zr : Zone} (h : RowsR z w v t) (hc : RowsR y w u cuts) (hL : LocksR zl w vl (locks mk t cuts)) (hr : IntsR zr w vr (t.getD cuts.length [])) (cl : w.cell? ⟨bl, 0, none⟩ = some vl) (cr : w.cell? ⟨br, 0, none⟩ = some vr) (cc : w.cell? ⟨bc, 0, none⟩ = some u) (S0 : SysAt w bs mk v)
    (c8 : w.cell? ⟨b8, 0, none⟩ = some (.func (.func 206) #[] #[.pointer (some ⟨bl, 0, none⟩), .pointer (some ⟨br, 0, none⟩), .pointer (some ⟨bc, 0, none⟩), .pointer (some ⟨bs, 0, none⟩)])) (c7 : w.cell? ⟨b7, 0, none⟩ = some (.func (.func Fv) #[] caps))
    (v4 : Value) (z4 : Zone) (key : List Int) (hk : IntsR z4 w v4 key) (kok : KeyOk mk key) (hOk : Ok key) :
    Calls Tryz.prog 189 #[v4, .pointer (some ⟨b8, 0, none⟩), .pointer (some ⟨b7, 0, none⟩)] w (fun e w' => e = .returned (.bool (!stays mk t cuts key || more s key)) ∧ ∃ F', Inv F' (if stays mk t cuts key = true then step s key else s) w' ∧ (∀ k, F' k → F k ∨ w.heap.size ≤ k) ∧ Frame F w w') := by
  have hGo := Tryz.goesStaysOpen1
  unfold Goes at hGo
  have hGv := V.goes
  unfold Goes at hGv
  have HS := Lib.hid (stays1_c w mk v z t h u y cuts hc ok hlast v4 z4 key hk kok vl zl hL vr zr hr bl br bc bs cl cr cc S0)
  have HV := Lib.hid (fun (w' : World) (e : Ext w w') => V.call w' v4 z4 key (V.keep hI (fun k hk => Below.block e k (V.fresh hI k hk)) e.size) hF (hK.ext e) (stable_ints.ext hk e) hOk)
  have HI := Lib.hid (fun (w' : World) (e : Ext w w') => V.keep hI (fun k hk => Below.block e k (V.fresh hI k hk)) e.size)
  generalize stays mk t cuts key = q at *
  obtain ⟨a4, n4, k4, rfl, -⟩ := SliceR.shape hk
  clear hI hK h hc hL hr cl cr cc S0 hk
  go_enter Tryz.func189, Tryz.ntmps189
  go_wp2_with fail
  refine Calls.mono HS.out ?_
  rintro e w1 hr
  obtain ⟨r, rfl, rfl, e1⟩ := ret_ext hr
  clear hr
  have c7' := e1.cell c7
  cases q with
  | false =>
    go_wp2_with fail
    go_ret
    exact ⟨rfl, F, HI.out w1 e1, fun k hk => .inl hk, Frame.of_ext e1⟩
  | true =>
    go_wp2_with fail
    refine Calls.mono (HV.out w1 e1) ?_
    rintro e w2 ⟨rfl, F', i2, g2, f2⟩
    have HR : Hid (∃ F', Inv F' (step s key) w2 ∧ (∀ k, F' k → F k ∨ w.heap.size ≤ k) ∧ Frame F w w2) := ⟨F', i2, fun k hk => (g2 k hk).elim .inl (fun q => .inr (Nat.le_trans e1.size q)), Frame.trans (Frame.of_ext (F := F) e1) f2 (fun i hi _ => hi)⟩
    go_wp2_with fail
    go_ret
    exact ⟨rfl, by simpa using HR.out⟩

theorem visitIssue {σ : Type} {Fv : FuncId} {caps : Array Value} {w0 w4 : World} {F0 : Nat → Prop} {Inv : (Nat → Prop) → σ → World → Prop} {step : σ → List Int → σ} {more : σ → List Int → Bool} {Ok : List Int → Prop} (V : VisitK Fv caps w0 F0 Inv step more Ok)
    {mk : MK} {t cuts : List (List Int)} (ok : PartOk mk t cuts) (hlast : cuts.length < t.length) (e4 : Ext w0 w4)
    {b8 b7 bl br bc bs : Nat} {v u vl vr : Value} {z y zl zr : Zone} (h : RowsR z w4 v t) (hc : RowsR y w4 u cuts) (hL : LocksR zl w4 vl (locks mk t cuts)) (hr : IntsR zr w4 vr (t.getD cuts.length [])) (cl : w4.cell? ⟨bl, 0, none⟩ = some vl) (cr : w4.cell? ⟨br, 0, none⟩ = some vr) (cc : w4.cell? ⟨bc, 0, none⟩ = some u) (S0 : SysAt w4 bs mk v)
    (c8 : w4.cell? ⟨b8, 0, none⟩ = some (.func (.func 206) #[] #[.pointer (some ⟨bl, 0, none⟩), .pointer (some ⟨br, 0, none⟩), .pointer (some ⟨bc, 0, none⟩), .pointer (some ⟨bs, 0, none⟩)])) (c7 : w4.cell? ⟨b7, 0, none⟩ = some (.func (.func Fv) #[] caps))
    (hz : ∀ k, z.Has k → ¬ F0 k) (hy : ∀ k, y.Has k → ¬ F0 k) (hzl : ∀ k, zl.Has k → ¬ F0 k) (hzr : ∀ k, zr.Has k → ¬ F0 k) (hbl : ¬ F0 bl) (hbr : ¬ F0 br) (hbc : ¬ F0 bc) (hbs : ¬ F0 bs) (h8 : ¬ F0 b8) (h7 : ¬ F0 b7) :
    VisitK 189 #[.pointer (some ⟨b8, 0, none⟩), .pointer (some ⟨b7, 0, none⟩)] w4 F0 Inv (fun s k => if stays mk t cuts k = true then step s k else s) (fun s k => !stays mk t cuts k || more s k) (fun k => Ok k ∧ KeyOk mk k) where
  goes := Tryz.goesEachIssue1
  keep := V.keep
  fresh := V.fresh
  call := by
    intro F s W v4 z4 key hI hF hK hk hok
    have K : Kept F0 w0 W := hK.back e4
    refine eachIssue1_c V ok hlast W hI (fun k hk => (hF k hk).elim .inl (fun q => .inr (Nat.le_trans e4.size q))) K (hK.read stable_rows h hz) (hK.read stable_rows hc hy) (hK.read stable_locks hL hzl) (hK.read stable_ints hr hzr) (hK.cell hbl cl) (hK.cell hbr cr) (hK.cell hbc cc) ⟨hK.cell hbs S0.c0, hK.cell hbs S0.c1, hK.cell hbs S0.c2, hK.cell hbs S0.c3, hK.cell hbs S0.c4, hK.cell hbs S0.c5⟩ (hK.cell h8 c8) (hK.cell h7 c7) v4 z4 key hk hok.2 hok.1

set_option maxRecDepth 20000 in
set_option maxHeartbeats 2000000 in
theorem eachIssue_c {σ : Type} {Fv : FuncId} {caps : Array Value} {w : World} {F0 : Nat → Prop} {Inv : (Nat → Prop) → σ → World → Prop} {step : σ → List Int → σ} {more : σ → List Int → Bool} {Ok : List Int → Prop} (V : VisitK Fv caps w F0 Inv step more Ok)
    (mk : MK) (v : Value) (z : Zone) (t : List (List Int)) (h : RowsR z w v t) (u : Value) (y : Zone) (cuts : List (List Int)) (hc : RowsR y w u cuts) (v3 : Value) (z3 : Zone) (row : List Int) (hr : IntsR z3 w v3 row) (ok : RowCodeOk mk t cuts row []) (hy : ∀ k, y.Has k → ¬ F0 k)
    (hOk : ∀ k ∈ allK mk, Ok k) (s : σ) (hI : Inv F0 s w) :
    Calls Tryz.prog 105 #[sysV mk v, u, v3, .func (.func Fv) #[] caps] w (EachEnd Inv F0 w (visits step more s ((allK mk).filter (stays mk (t ++ [row]) cuts))).1) := by
  have hfr := V.fresh hI
  have hnf : ∀ k, w.heap.size ≤ k → ¬ F0 k := fun k hk hf => by have := hfr k hf; omega
  have hpo : PartOk mk (t ++ [row]) cuts := partOk_front ok
  have hlt : cuts.length < (t ++ [row]).length := by have := ok.eq; simp; omega
  have okm := designOk_mk ok.toDesignOk
  have HC1 := Lib.hid (fun (w' : World) (e : Ext w w') => withFirstI w' mk v z t (stable_rows.ext h e) v3 z3 row (stable_ints.ext hr e) ok)
  have HC2 := Lib.hid (fun (w' : World) (e : Ext w w') (v' : Value) (x1 : Zone) (g1 : RowsR x1 w' v' (t ++ [row])) (hx : ∀ k, x1.Has k → ¬ F0 k) => staysOpen_c w' mk v' x1 _ g1 u y cuts (stable_rows.ext hc e) hpo hlt (fun k => ¬ F0 k) (fun k hk => hnf k (Nat.le_trans e.size hk)) hx)
  have HV := Lib.hid (fun (w4 : World) (e4 : Ext w w4) (b8 b7 bl br bc bs : Nat) (v' vl vr : Value) (x1 zl zr : Zone) (g1 : RowsR x1 w4 v' (t ++ [row])) (hL : LocksR zl w4 vl (locks mk (t ++ [row]) cuts)) (hr : IntsR zr w4 vr ((t ++ [row]).getD cuts.length [])) (cl : w4.cell? ⟨bl, 0, none⟩ = some vl) (cr : w4.cell? ⟨br, 0, none⟩ = some vr) (cc : w4.cell? ⟨bc, 0, none⟩ = some u) (S0 : SysAt w4 bs mk v') (c8) (c7) (hx : ∀ k, x1.Has k → ¬ F0 k) (hzl : ∀ k, zl.Has k → ¬ F0 k) (hzr : ∀ k, zr.Has k → ¬ F0 k) (hbl : ¬ F0 bl) (hbr : ¬ F0 br) (hbc : ¬ F0 bc) (hbs : ¬ F0 bs) (h8 : w.heap.size ≤ b8) (h7 : w.heap.size ≤ b7) =>
    eachKeyK_c (visitIssue V hpo hlt e4 (b8 := b8) (b7 := b7) (bl := bl) (br := br) (bc := bc) (bs := bs) g1 (stable_rows.ext hc e4) hL hr cl cr cc S0 c8 c7 hx hy hzl hzr hbl hbr hbc hbs (hnf b8 h8) (hnf b7 h7)) mk okm (fun k hk => ⟨hOk k hk, allK_key okm hk⟩) s (V.keep hI (fun k hk => Below.block e4 k (hfr k hk)) e4.size))
  have HVF := Lib.hid (visits_filter (step := step) (more := more) (p := stays mk (t ++ [row]) cuts) (allK mk) s)
  have HNF := Lib.hid hnf
  have HFR := Lib.hid hfr
  obtain ⟨a, n, cap, rfl, -⟩ := SliceR.shape h
  obtain ⟨a2, n2, cap2, rfl, -⟩ := SliceR.shape hc
  obtain ⟨a3, n3, cap3, rfl, -⟩ := SliceR.shape hr
  clear h hc hr ok hpo hlt hfr hnf hI hOk hy
  have hGo := Tryz.goesEachIssue1
  unfold Goes at hGo
  unfold sysV MK.v at *
  go_enter Tryz.func105, Tryz.ntmps105
  go_wp2_with fail
  generalize hw0 : World.alloc (World.alloc _ _) _ = w0
  obtain ⟨e0, S0, c7⟩ : Ext w w0 ∧ SysAt w0 w.heap.size mk (.slice a n cap) ∧ w0.cell? ⟨w.heap.size + 1, 0, none⟩ = some (.func (.func Fv) #[] caps) := by
    subst hw0
    refine ⟨(Ext.alloc _ _).trans (Ext.alloc _ _), ⟨?_, ?_, ?_, ?_, ?_, ?_⟩, ?_⟩
    all_goals (clear HC1 HC2 HV HVF HNF HFR; go_simp; done)
  clear hw0
  have HS := Lib.hid S0
  have H7 := Lib.hid c7
  clear S0 c7
  refine Calls.mono (HC1.out w0 e0) ?_
  rintro e w1 hr
  obtain ⟨r, rfl, ⟨v', rfl, g1⟩, e1⟩ := ret_ext hr
  clear hr
  have et1 := e0.trans e1
  have hx1 : ∀ k, (⟨w0.heap.size, w1.heap.size, false⟩ : Zone).Has k → ¬ F0 k := fun k hk => HNF.out k (Nat.le_trans e0.size hk.1)
  have hcall := HC2.out w1 et1 v' _ g1 hx1
  have G1 := Lib.hid g1
  have HX1 := Lib.hid hx1
  obtain ⟨a5, n5, k5, rfl, -⟩ := SliceR.shape g1
  clear g1 hx1
  go_wp2_with fail
  refine Calls.mono hcall ?_
  rintro e w2 hr
  obtain ⟨r, rfl, ⟨bl, br, bc, bs, vl, zl, vr, zr, rfl, hL, hR, k1, k2, k3, S2, n1, n2', n3', n4, n5', n6⟩, e2⟩ := ret_ext hr
  clear hr hcall
  have et2 := et1.trans e2
  have HQ : Hid (LocksR zl w2 vl (locks mk (t ++ [row]) cuts) ∧ IntsR zr w2 vr ((t ++ [row]).getD cuts.length []) ∧ w2.cell? ⟨bl, 0, none⟩ = some vl ∧ w2.cell? ⟨br, 0, none⟩ = some vr ∧ w2.cell? ⟨bc, 0, none⟩ = some (.slice a2 n2 cap2) ∧ SysAt w2 bs mk (.slice a5 n5 k5) ∧ (∀ k, zl.Has k → ¬ F0 k) ∧ (∀ k, zr.Has k → ¬ F0 k) ∧ ¬ F0 bl ∧ ¬ F0 br ∧ ¬ F0 bc ∧ ¬ F0 bs) := ⟨hL, hR, k1, k2, k3, S2, n1, n2', n3', n4, n5', n6⟩
  clear hL hR k1 k2 k3 S2 n1 n2' n3' n4 n5' n6
  obtain ⟨c0, c1, c2, c3, c4, c5⟩ := HS.out.ext (e1.trans e2)
  have zb := World.block_lt_of_cell? _ _ c0
  simp only at zb
  have zb' := Nat.ne_of_lt zb
  have zb'' := Nat.ne_of_gt zb
  go_wp2_with fail
  generalize hw4 : World.alloc _ _ = w4
  obtain ⟨e4, c8⟩ : Ext w2 w4 ∧ w4.cell? ⟨w2.heap.size, 0, none⟩ = some (.func (.func 206) #[] #[.pointer (some ⟨bl, 0, none⟩), .pointer (some ⟨br, 0, none⟩), .pointer (some ⟨bc, 0, none⟩), .pointer (some ⟨bs, 0, none⟩)]) := by
    subst hw4
    exact ⟨Ext.alloc _ _, by go_simp⟩
  clear hw4 c0 c1 c2 c3 c4 c5 zb zb' zb''
  have et4 := et2.trans e4
  obtain ⟨hL, hR, k1, k2, k3, S2, n1, n2', n3', n4, n5', n6⟩ := HQ.out
  have c7 := (((e1.trans e2).trans e4).cell H7.out)
  refine Calls.mono (HV.out w4 et4 w2.heap.size (w.heap.size + 1) bl br bc bs _ vl vr _ zl zr (stable_rows.ext G1.out (e2.trans e4)) (stable_locks.ext hL e4) (stable_ints.ext hR e4) (e4.cell k1) (e4.cell k2) (e4.cell k3) (S2.ext e4) c8 c7 HX1.out n1 n2' n3' n4 n5' n6 et2.size (Nat.le_succ _)) ?_
  intro e w5 h5
  rw [HVF.out] at h5
  obtain ⟨rfl, F5, i5, g5, f5⟩ := h5
  have HR : Hid (EachEnd Inv F0 w (visits step more s ((allK mk).filter (stays mk (t ++ [row]) cuts))).1 (.returned (.tuple #[])) w5) := ⟨rfl, F5, i5, fun k hk => (g5 k hk).elim .inl (fun q => .inr (Nat.le_trans et4.size q)), Frame.trans (Frame.of_ext (F := F0) et4) f5 (fun i hi _ => hi)⟩
  clear hL hR k1 k2 k3 S2 n1 n2' n3' n4 n5' n6 c7 c8
  go_wp2_with fail
  go_end0
  exact HR.out
end Go.Proofs.YtblmccofkochoaaGreat
