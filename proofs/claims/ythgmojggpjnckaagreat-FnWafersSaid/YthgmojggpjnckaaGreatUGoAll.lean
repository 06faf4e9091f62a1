/- Proved: the program's search, any number of rows. -/
import Derived.Test.YthgmojggpjnckaaGreatUGoRow
namespace Go.Proofs.YthgmojggpjnckaaGreat
open Go.ChangeShapes Go.WideShapes Go.ChangeAt Go.RowKit
set_option linter.unusedVariables false

theorem goN_all {σ : Type} {g : Nat} {mk : MK} {v : Value} {limit : Int} {Fv : FuncId} {caps : Array Value} {w0 : World} {F0 : Nat → Prop} {Inv : (Nat → Prop) → σ → World → Prop} {step : σ → List (List Int) → σ} {more : σ → List (List Int) → Bool} {msz : σ → Nat} {Ok : List (List Int) → Prop} {t : List (List Int)}
    (V : VisitD Fv caps w0 F0 Inv step more msz Ok) (okm : MkOk mk) (okS : SysOk mk t) (hlim : I64 limit) (hl4 : limit ≤ 4000) (hOk : ∀ x : List (List Int), x.length = t.length → (∀ r ∈ x, KeyOk mk r) → faults mk t x = 0 → Ok x) : ∀ n, GoN g mk v t limit Fv caps w0 F0 Inv step more msz n
  | 0 => goN_zero V hl4 hOk
  | n + 1 => goN_succ V okm okS hlim (goN_all V okm okS hlim hl4 hOk n)
end Go.Proofs.YthgmojggpjnckaaGreat
