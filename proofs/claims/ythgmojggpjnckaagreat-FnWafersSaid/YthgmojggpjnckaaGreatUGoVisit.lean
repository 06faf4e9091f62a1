/- Proved: the program's search: one row as a visit of all keys. -/
import Derived.Test.YthgmojggpjnckaaGreatChecked
import Derived.Test.YthgmojggpjnckaaGreatUGoOn1
namespace Go.Proofs.YthgmojggpjnckaaGreat
open Go.ChangeShapes Go.WideShapes Go.ChangeAt Go.RowKit
set_option linter.unusedVariables false

section
variable {σ : Type}
theorem sweepV_tries {f : List Int → GS σ → Bool × GS σ} {limit : Int} (hf : ∀ k (s : GS σ), 0 ≤ s.tries → s.tries ≤ limit → 0 ≤ (f k s).2.tries ∧ (f k s).2.tries ≤ limit) : ∀ (L : List (List Int)) (s : GS σ), 0 ≤ s.tries → s.tries ≤ limit → 0 ≤ (sweepV f limit L s).2.tries ∧ (sweepV f limit L s).2.tries ≤ limit
  | [], s, h0, h1 => ⟨h0, h1⟩
  | k :: L, s, h0, h1 => by
    unfold sweepV
    by_cases e : s.tries = limit
    · rw [if_pos e]; exact ⟨h0, h1⟩
    · rw [if_neg e]
      have q := hf k ⟨s.tries + 1, s.over, s.val⟩ (by show 0 ≤ s.tries + 1; omega) (by show s.tries + 1 ≤ limit; omega)
      split
      · exact sweepV_tries hf L _ q.1 q.2
      · exact q
theorem goV_tries {mk : MK} {t : List (List Int)} {limit : Int} {step : σ → List (List Int) → σ} {more : σ → List (List Int) → Bool} : ∀ (n : Nat) (cuts : List (List Int)) (s : GS σ), 0 ≤ s.tries → s.tries ≤ limit → 0 ≤ (goV mk t limit step more n cuts s).2.tries ∧ (goV mk t limit step more n cuts s).2.tries ≤ limit
  | 0, cuts, s, h0, h1 => ⟨h0, h1⟩
  | n + 1, cuts, s, h0, h1 => by
    unfold goV
    refine sweepV_tries (fun k s h0 h1 => ?_) _ s h0 h1
    split
    · exact goV_tries n (cuts ++ [k]) s h0 h1
    · exact ⟨h0, h1⟩
theorem stepG_tries {st : List Int → Bool} {f : List Int → GS σ → Bool × GS σ} {limit : Int} (hf : ∀ k (s : GS σ), 0 ≤ s.tries → s.tries ≤ limit → 0 ≤ (f k s).2.tries ∧ (f k s).2.tries ≤ limit) (p : GS σ × Bool) (k : List Int) (h0 : 0 ≤ p.1.tries) (h1 : p.1.tries ≤ limit) : 0 ≤ (stepG st f limit p k).1.tries ∧ (stepG st f limit p k).1.tries ≤ limit := by
  by_cases e : p.1.tries = limit
  · rw [stepG_over e]; exact ⟨h0, h1⟩
  · cases hs : st k with
    | false => rw [stepG_no e hs]; exact ⟨by show 0 ≤ p.1.tries + 1; omega, by show p.1.tries + 1 ≤ limit; omega⟩
    | true => rw [stepG_yes e hs]; exact hf k _ (by show 0 ≤ p.1.tries + 1; omega) (by show p.1.tries + 1 ≤ limit; omega)
theorem sweepV_room {msz : σ → Nat} {f : List Int → GS σ → Bool × GS σ} {limit : Int} (hf : ∀ k (s : GS σ), (msz s.val : Int) + 1 ≤ s.tries → (msz (f k s).2.val : Int) ≤ (f k s).2.tries) : ∀ (L : List (List Int)) (s : GS σ), (msz s.val : Int) ≤ s.tries → (msz (sweepV f limit L s).2.val : Int) ≤ (sweepV f limit L s).2.tries
  | [], s, h => h
  | k :: L, s, h => by
    unfold sweepV
    by_cases e : s.tries = limit
    · rw [if_pos e]; exact h
    · rw [if_neg e]
      have q := hf k ⟨s.tries + 1, s.over, s.val⟩ (by show (msz s.val : Int) + 1 ≤ s.tries + 1; omega)
      split
      · exact sweepV_room hf L _ q
      · exact q
theorem goV_room {msz : σ → Nat} {mk : MK} {t : List (List Int)} {limit : Int} {step : σ → List (List Int) → σ} {more : σ → List (List Int) → Bool} (hs : ∀ s x, msz (step s x) ≤ msz s + 1) : ∀ (n : Nat) (cuts : List (List Int)) (s : GS σ), (msz s.val : Int) + 1 ≤ s.tries → (msz (goV mk t limit step more n cuts s).2.val : Int) ≤ (goV mk t limit step more n cuts s).2.tries
  | 0, cuts, s, h => by
    have := hs s.val cuts
    show (msz (step s.val cuts) : Int) ≤ s.tries
    omega
  | n + 1, cuts, s, h => by
    unfold goV
    refine sweepV_room (fun k s h => ?_) _ s (by omega)
    split
    · exact goV_room hs n (cuts ++ [k]) s h
    · show (msz s.val : Int) ≤ s.tries
      omega
theorem stepG_room {msz : σ → Nat} {st : List Int → Bool} {f : List Int → GS σ → Bool × GS σ} {limit : Int} (hf : ∀ k (s : GS σ), (msz s.val : Int) + 1 ≤ s.tries → (msz (f k s).2.val : Int) ≤ (f k s).2.tries) (p : GS σ × Bool) (k : List Int) (h : (msz p.1.val : Int) ≤ p.1.tries) : (msz (stepG st f limit p k).1.val : Int) ≤ (stepG st f limit p k).1.tries := by
  by_cases e : p.1.tries = limit
  · rw [stepG_over e]; exact h
  · cases hs : st k with
    | false => rw [stepG_no e hs]; show (msz p.1.val : Int) ≤ p.1.tries + 1; omega
    | true => rw [stepG_yes e hs]; exact hf k _ (by show (msz p.1.val : Int) + 1 ≤ p.1.tries + 1; omega)
end
theorem Tryz.goesGoOn1 : Goes Tryz.prog 168 := goes_of Tryz.func168 (by kernel_rfl) (by kernel_rfl)

section
variable {σ : Type} {g : Nat} {mk : MK} {v : Value} {limit : Int} {Fv : FuncId} {caps : Array Value} {w0 : World} {F0 : Nat → Prop} {Inv : (Nat → Prop) → σ → World → Prop} {step : σ → List (List Int) → σ} {more : σ → List (List Int) → Bool} {msz : σ → Nat} {Ok : List (List Int) → Prop} {bm : Nat} {F : Nat → Prop}
def InvB (g : Nat) (mk : MK) (v : Value) (limit : Int) (Fv : FuncId) (caps : Array Value) (Inv : (Nat → Prop) → σ → World → Prop) (msz : σ → Nat) (bm : Nat) (F : Nat → Prop) (p : GS σ × Bool) (w : World) : Prop := InvG g mk v limit Fv caps Inv bm F p w ∧ (0 ≤ p.1.tries ∧ p.1.tries ≤ limit) ∧ (msz p.1.val : Int) ≤ p.1.tries
theorem visitGo (V : VisitD Fv caps w0 F0 Inv step more msz Ok) {t cuts : List (List Int)} {n : Nat} (hgo : GoN g mk v t limit Fv caps w0 F0 Inv step more msz n) (okS : SysOk mk t) (hl : cuts.length + (n + 1) = t.length) (hks : ∀ r ∈ cuts, KeyOk mk r) (hf0 : faults mk t cuts = 0) (hlim : I64 limit)
    {N F1 : Nat → Prop} {b1 b2 b4 b5 : Nat} {u : Value} {w4 : World} (hF1 : ∀ k, F1 k → F0 k ∨ w0.heap.size ≤ k) (hK4 : Kept F0 w0 w4) (hC : Caught g mk t cuts v u N b1 b2 b4 b5 w4) (hN : ∀ k, N k → ¬ F1 k ∧ k < w4.heap.size) :
    VisitK 168 #[.pointer (some ⟨b1, 0, none⟩), .pointer (some ⟨b2, 0, none⟩), .pointer (some ⟨bm, 0, none⟩), .pointer (some ⟨b4, 0, none⟩), .pointer (some ⟨b5, 0, none⟩)] w4 F1 (InvB g mk v limit Fv caps Inv msz bm)
      (stepG (stays mk t cuts) (fun k s => goV mk t limit step more n (cuts ++ [k]) s) limit) (moreG (stays mk t cuts) (fun k s => goV mk t limit step more n (cuts ++ [k]) s) limit) (KeyOk mk) where
  goes := Tryz.goesGoOn1
  keep := fun h hb hs => ⟨h.1.keep V hb hs, h.2⟩
  fresh := fun h => h.1.lt
  call := by
    rintro F p W v4 z4 key ⟨hI, ⟨h0, h1⟩, hm⟩ hF hK hk hz hok
    have q1 := hK4.size
    refine (goOn1_c V hgo okS hl hks hf0 hlim W hI h0 h1 hm (fun k hk => (hF k hk).elim (hF1 k) (fun q => .inr (Nat.le_trans q1 q))) ⟨Nat.le_trans q1 hK.size, fun k hk hn => (hK.block k (Nat.lt_of_lt_of_le hk q1) (fun q => (hF1 k q).elim hn (fun q => by omega))).trans (hK4.block k hk hn)⟩
      (hC.keep hK.size (fun k hk hn => hK.block k hk (hN k hn).1)) (fun k hn q => (hF k q).elim (hN k hn).1 (fun q => by have := (hN k hn).2; omega)) v4 z4 key hk hz hok).mono ?_
    rintro e w' ⟨rfl, F', i', g', f'⟩
    exact ⟨rfl, F', ⟨i', stepG_tries (fun k s h0 h1 => goV_tries n (cuts ++ [k]) s h0 h1) p key h0 h1, stepG_room (fun k s h => goV_room V.size n (cuts ++ [k]) s h) p key hm⟩, g', f'⟩
end
end Go.Proofs.YthgmojggpjnckaaGreat
