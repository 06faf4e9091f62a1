/- Proved: the program's search: goOn with all rows laid. -/
import Derived.Test.YthgmojggpjnckaaGreatChecked
import Derived.Deep.RegionHeld3
import Derived.Laws.EntriesVeiled
import Derived.Test.YthgmojggpjnckaaGreatUGoMem
import Derived.Test.YthgmojggpjnckaaGreatUGoKit
namespace Go.Proofs.YthgmojggpjnckaaGreat
open Go.ChangeShapes Go.WideShapes Go.ChangeAt Go.RowKit
set_option linter.unusedVariables false

/-- what goOn leaves -/
def GoR {σ : Type} (g : Nat) (mk : MK) (v : Value) (limit : Int) (Fv : FuncId) (caps : Array Value) (Inv : (Nat → Prop) → σ → World → Prop) (F : Nat → Prop) (r : Bool × GS σ) (w : World) (e : Ending) (w' : World) : Prop :=
  e = .returned (.bool r.1) ∧ ∃ F', GoAt g mk v limit Fv caps Inv F' r.2 w' ∧ (∀ k, F' k → F k ∨ w.heap.size ≤ k) ∧ Frame F w w'
section
variable {σ : Type} {g : Nat} {mk : MK} {v : Value} {limit : Int} {Fv : FuncId} {caps : Array Value} {w0 : World} {F0 : Nat → Prop} {Inv : (Nat → Prop) → σ → World → Prop} {step : σ → List (List Int) → σ} {more : σ → List (List Int) → Bool} {msz : σ → Nat} {Ok : List (List Int) → Prop} {F : Nat → Prop} {s : GS σ} {w w' : World}
theorem go_visited (V : VisitD Fv caps w0 F0 Inv step more msz Ok) (h : GoAt g mk v limit Fv caps Inv F s w) {G G' : Nat → Prop} {wa wb : World} {x : List (List Int)} (e1 : Ext w wa) (hG : ∀ k, G k → F k ∧ k ≠ g) (i' : Inv G' (step s.val x) wb) (g' : ∀ k, G' k → G k ∨ wa.heap.size ≤ k) (f' : Frame G wa wb) {e : Ext wb w'} :
    ∃ F', GoAt g mk v limit Fv caps Inv F' ⟨s.tries, s.over, step s.val x⟩ w' ∧ (∀ k, F' k → F k ∨ w.heap.size ≤ k) ∧ Frame F w w' := by
  have hgl : g < w.heap.size := h.sys.lt
  have hs1 := e1.size
  have hs2 := f'.size
  have hs3 := e.size
  have hnG : ¬ G g := fun q => (hG g q).2 rfl
  have hb : ∀ k, k < w.heap.size → ¬ G k → w'.heap[k]? = w.heap[k]? := fun k hk hn => ((Below.block e k (by omega)).trans (f'.block k (by omega) hn)).trans (Below.block e1 k hk)
  have hg := hb g hgl hnG
  refine ⟨fun k => F k ∨ G' k, ⟨h.sys.of hg, (World.cell?_of_block hg).trans h.c6, (World.cell?_of_block hg).trans h.c7, (World.cell?_of_block hg).trans h.c8, (World.cell?_of_block hg).trans h.c9, (World.frozen?_of_block hg).trans h.f7, (World.frozen?_of_block hg).trans h.f8, .inl h.box, fun k hk => ?_, G', V.keep i' (fun k hk => Below.block e k (V.fresh i' k hk)) hs3, fun k hk => ⟨.inr hk, fun q => ?_⟩⟩, fun k hk => ?_, ?_⟩
  · rcases hk with hk | hk
    · have := h.lt k hk; omega
    · have := V.fresh i' k hk; omega
  · subst q
    rcases g' k hk with q | q
    · exact hnG q
    · omega
  · rcases hk with hk | hk
    · exact .inl hk
    · rcases g' k hk with q | q
      · exact .inl (hG k q).1
      · exact .inr (by omega)
  · exact ⟨e.os.trans (f'.os.trans e1.os), e.tape.trans (f'.tape.trans e1.tape), e.output.trans (f'.output.trans e1.output), by omega, fun k hk hn => hb k hk (fun q => hn (hG k q).1)⟩

set_option maxRecDepth 20000 in
set_option maxHeartbeats 2000000 in
theorem goOn0_c (V : VisitD Fv caps w0 F0 Inv step more msz Ok) (hG : GoAt g mk v limit Fv caps Inv F s w) (hF : ∀ k, F k → F0 k ∨ w0.heap.size ≤ k) (hK : Kept F0 w0 w) {z : Zone} {t cuts : List (List Int)} (hT : RowsR z w v t) {y : Zone} {u : Value} (hU : RowsR y w u cuts) (hl : cuts.length = t.length) (hok : Ok cuts) (hroom : msz s.val < 4000) :
    Calls Tryz.prog 142 #[.pointer (some ⟨g, 0, none⟩), u, .slice none 0 0] w (GoR g mk v limit Fv caps Inv F (more s.val cuts, ⟨s.tries, s.over, step s.val cuts⟩) w) := by
  have hGv := V.goes
  unfold Goes at hGv
  obtain ⟨G, hI, hGF⟩ := hG.val
  have HV := Lib.hid (fun (w' : World) (e : Ext w w') => V.call w' u y cuts (V.keep hI (fun k hk => Below.block e k (V.fresh hI k hk)) e.size) (fun k hk => hF k (hGF k hk).1) (hK.ext e) (stable_rows.ext hU e) hok hroom)
  have HEnd := Lib.hid (fun (wa wb w' : World) (G' : Nat → Prop) (e1 : Ext w wa) (i' : Inv G' (step s.val cuts) wb) (g' : ∀ k, G' k → G k ∨ wa.heap.size ≤ k) (f' : Frame G wa wb) (e : Ext wb w') => go_visited V hG (x := cuts) (e := e) e1 hGF i' g' f')
  obtain ⟨a, n, k, rfl, hn, -⟩ := SliceR.shape hT
  obtain ⟨a2, n2, k2, rfl, hn2, -⟩ := SliceR.shape hU
  have he : ((n2 : Int) == (n : Int)) = true := by rw [beq_iff_eq]; omega
  obtain ⟨s0, s1, s2, s3, s4, s5⟩ := hG.sys
  have c9 := hG.c9
  have HnG : Hid (¬ G g ∧ ¬ G w.heap.size ∧ ¬ G (w.heap.size + 1)) := ⟨fun q => (hGF g q).2 rfl, fun q => by have := hG.lt _ (hGF _ q).1; omega, fun q => by have := hG.lt _ (hGF _ q).1; omega⟩
  clear hn hn2 hT hU hl hok hroom hF hK hG hI hGF
  go_enter Tryz.func142, Tryz.ntmps142
  go_wp2_with fail
  generalize hwB : World.alloc (World.alloc (World.alloc w _) _) _ = wB
  obtain ⟨eB, d3, d4⟩ : Ext w wB ∧ wB.cell? ⟨w.heap.size, 0, none⟩ = some (.pointer (some ⟨g, 0, none⟩)) ∧ wB.cell? ⟨w.heap.size + 1, 0, none⟩ = some (.slice a2 n2 k2) := by
    subst hwB
    refine ⟨((Ext.alloc _ _).trans (Ext.alloc _ _)).trans (Ext.alloc _ _), ?_, ?_⟩
    all_goals (clear HV HEnd; go_simp; done)
  clear hwB
  have s5' := eB.cell s5
  have HCel : Hid (∀ w', Ext wB w' → w'.cell? ⟨w.heap.size, 0, none⟩ = some (.pointer (some ⟨g, 0, none⟩)) ∧ w'.cell? ⟨g, 9, none⟩ = some (.func (.func Fv) #[] caps) ∧ w'.cell? ⟨w.heap.size + 1, 0, none⟩ = some (.slice a2 n2 k2)) := fun w' e => ⟨e.cell d3, e.cell (eB.cell c9), e.cell d4⟩
  have HFr := Lib.hid (fun (wa wb : World) (e : Ext wB wa) (f : Frame G wa wb) => (show wb.cell? ⟨w.heap.size, 0, none⟩ = some (.pointer (some ⟨g, 0, none⟩)) ∧ wb.cell? ⟨g, 9, none⟩ = some (.func (.func Fv) #[] caps) ∧ wb.cell? ⟨w.heap.size + 1, 0, none⟩ = some (.slice a2 n2 k2) from by
    obtain ⟨q1, q2, q3⟩ := HCel.out wa e
    have hz : ∀ {k i : Nat} {u : Value}, wa.cell? ⟨k, i, none⟩ = some u → k < wa.heap.size := fun h => World.block_lt_of_cell? _ _ h
    exact ⟨(World.cell?_of_block (f.block _ (hz q1) HnG.out.2.1)).trans q1, (World.cell?_of_block (f.block _ (hz q2) HnG.out.1)).trans q2, (World.cell?_of_block (f.block _ (hz q3) HnG.out.2.2)).trans q3⟩))
  clear s0 s1 s2 s3 s4 s5 c9
  go_quiet (fail)
  have eD : Ext wB (wB.drewN nq) := Ext.drewN _ _
  have hCalls := HCel.out _ eD
  generalize wB.drewN nq = wD at *
  clear s5' d3 d4
  go_wp2_with fail
  have hr0 := Ext.refl wD
  first | (go_region_held3 (fun w' => w'.cell? ⟨w.heap.size, 0, none⟩ = some (.pointer (some ⟨g, 0, none⟩)) ∧ w'.cell? ⟨g, 9, none⟩ = some (.func (.func Fv) #[] caps) ∧ w'.cell? ⟨w.heap.size + 1, 0, none⟩ = some (.slice a2 n2 k2)) (first | exact HFr.out _ _ (Ext.trans eD (by repeat (first | exact Ext.refl _ | assumption | (refine Ext.trans ?_ (Ext.alloc _ _)) | (refine Ext.trans ?_ (Ext.drew _)) | (refine Ext.trans ?_ (by assumption))))) f' | exact HCel.out _ (Ext.trans eD (by repeat (first | exact Ext.refl _ | assumption | (refine Ext.trans ?_ (Ext.alloc _ _)) | (refine Ext.trans ?_ (Ext.drew _)) | (refine Ext.trans ?_ (by assumption)))))) (first | ((with_reducible refine (HV.out _ (Ext.trans eB (Ext.trans eD (by repeat (first | exact Ext.refl _ | assumption | (refine Ext.trans ?_ (Ext.alloc _ _)) | (refine Ext.trans ?_ (Ext.drew _)) | (refine Ext.trans ?_ (by assumption))))))).mono ?_); rintro e w7 ⟨rfl, G', i', g', f'⟩) | fail)) | fail
  all_goals
    go_wp2_with fail
    go_ret
    exact ⟨rfl, HEnd.out _ _ _ _ (eB.trans (eD.trans (by repeat (first | exact Ext.refl _ | assumption | (refine Ext.trans ?_ (Ext.alloc _ _)) | (refine Ext.trans ?_ (Ext.drew _)) | (refine Ext.trans ?_ (by assumption)))))) i' g' f' (Ext.refl _)⟩
end
end Go.Proofs.YthgmojggpjnckaaGreat
