/- Proved: the draws of searches for designs: l17Draw, l17DrawLimit, DrawFindDesign, DrawBestDesign, DrawSparedWafers. -/
import Derived.Test.YtkeikjedbfomnaaGreatDoorChecked
import Derived.Deep.RegionLaw
import Derived.Deep.RegionHeld3
import Derived.Deep.Cut
import Derived.Test.YtkeikjedbfomnaaGreatDoorUDrawDesign
import Derived.Test.YtkeikjedbfomnaaGreatDoorUDrawCost
namespace Go.Proofs.YtkeikjedbfomnaaGreatDoor
open Go.ChangeShapes Go.WideShapes Go.ChangeAt Go.RowKit
set_option linter.unusedVariables false

/-- a system that a draw hands back, of any kind -/
def SysA (w : World) (r : Value) (w' : World) : Prop := ∃ (mk : MK) (v : Value) (t : List (List Int)), r = sysV mk v ∧ RowsR ⟨w.heap.size, w'.heap.size, false⟩ w' v t
/-- a system's box that may be written -/
def SysF (b : Nat) (mk : MK) (v : Value) (w : World) : Prop := SysAt w b mk v ∧ ∀ i, w.frozen? ⟨b, i, none⟩ = false
theorem SysF.new (w : World) (mk : MK) (v : Value) (t : TypeId) : SysF w.heap.size mk v (w.alloc (.cells #[.int .i64 mk.c, .int .i64 mk.d, .int .i64 mk.s, .int .i64 mk.m, .int .i64 mk.l, v] t)) :=
  ⟨(sys_box rfl).2, fun i => frozen_of_row _ _ _ _ t (heap_alloc_new w _)⟩
theorem SysF.dr {b g : Nat} {mk : MK} {v : Value} {w w' : World} (h : SysF b mk v w) (hd : Dr g w w') (hb : b ≠ g) : SysF b mk v w' :=
  ⟨h.1.dr hd hb, fun i => (hd.frozen (p := ⟨b, i, none⟩) h.1.lt hb).trans (h.2 i)⟩
theorem SysF.put5 {b : Nat} {c d s m l : Int} {v : Value} {w : World} (h : SysF b ⟨c, d, s, m, l⟩ v w) (c' d' s' m' l' : Int) :
    SysF b ⟨c', d', s', m', l'⟩ v (((((w.setCell ⟨b, 0, none⟩ (.int .i64 c')).setCell ⟨b, 1, none⟩ (.int .i64 d')).setCell ⟨b, 2, none⟩ (.int .i64 s')).setCell ⟨b, 3, none⟩ (.int .i64 m')).setCell ⟨b, 4, none⟩ (.int .i64 l')) := by
  obtain ⟨⟨c0, c1, c2, c3, c4, c5⟩, f⟩ := h
  refine ⟨⟨?_, ?_, ?_, ?_, ?_, ?_⟩, fun i => ?_⟩
  all_goals (try simp only [World.frozen?_setCell])
  all_goals first | exact f i | (go_simp; done)
theorem SysF.put3 {b : Nat} {c d s m l : Int} {v : Value} {w : World} (h : SysF b ⟨c, d, s, m, l⟩ v w) (m' : Int) : SysF b ⟨c, d, s, m', l⟩ v (w.setCell ⟨b, 3, none⟩ (.int .i64 m')) := by
  obtain ⟨⟨c0, c1, c2, c3, c4, c5⟩, f⟩ := h
  refine ⟨⟨?_, ?_, ?_, ?_, ?_, ?_⟩, fun i => ?_⟩
  all_goals (try simp only [World.frozen?_setCell])
  all_goals first | exact f i | (go_simp; done)
theorem rows_alloc {L : Nat} {w : World} {o : Obj} {v : Value} {t : List (List Int)} (h : RowsR ⟨L, w.heap.size, false⟩ w v t) : RowsR ⟨L, (w.alloc o).heap.size, false⟩ (w.alloc o) v t := stable_rows.sub (stable_rows.ext h (Ext.alloc _ _)) ⟨fun k hk => ⟨hk.1, Nat.lt_of_lt_of_le hk.2 (Ext.alloc _ _).size⟩, fun h => h⟩
theorem rows_put5 {L H b : Nat} {w : World} {v : Value} {t : List (List Int)} (h : RowsR ⟨L, H, false⟩ w v t) (hH : H ≤ b) (u0 u1 u2 u3 u4 : Value) : RowsR ⟨L, H, false⟩ (((((w.setCell ⟨b, 0, none⟩ u0).setCell ⟨b, 1, none⟩ u1).setCell ⟨b, 2, none⟩ u2).setCell ⟨b, 3, none⟩ u3).setCell ⟨b, 4, none⟩ u4) v t :=
  stable_rows.keep h (fun k hk _ => by
    have hk2 : k ≠ b := by have := hk.2; simp only at this; omega
    rw [Below.heap_setCell _ _ _ _ hk2, Below.heap_setCell _ _ _ _ hk2, Below.heap_setCell _ _ _ _ hk2, Below.heap_setCell _ _ _ _ hk2, Below.heap_setCell _ _ _ _ hk2])
theorem rows_put1 {L H b i : Nat} {w : World} {v : Value} {t : List (List Int)} (h : RowsR ⟨L, H, false⟩ w v t) (hH : H ≤ b) (u : Value) : RowsR ⟨L, H, false⟩ (w.setCell ⟨b, i, none⟩ u) v t :=
  stable_rows.keep h (fun k hk _ => by
    have hk2 : k ≠ b := by have := hk.2; simp only at this; omega
    rw [Below.heap_setCell _ _ _ _ hk2])
theorem ResAt.put5 {a b : Nat} {w : World} (h : ResAt w a) (hab : a ≠ b) (u0 u1 u2 u3 u4 : Value) : ResAt (((((w.setCell ⟨b, 0, none⟩ u0).setCell ⟨b, 1, none⟩ u1).setCell ⟨b, 2, none⟩ u2).setCell ⟨b, 3, none⟩ u3).setCell ⟨b, 4, none⟩ u4) a :=
  ((((h.putOther hab).putOther hab).putOther hab).putOther hab).putOther hab
theorem dr_put5 {g b : Nat} {w w' : World} (h : Dr g w w') (hb : w.heap.size ≤ b) (u0 u1 u2 u3 u4 : Value) : Dr g w (((((w'.setCell ⟨b, 0, none⟩ u0).setCell ⟨b, 1, none⟩ u1).setCell ⟨b, 2, none⟩ u2).setCell ⟨b, 3, none⟩ u3).setCell ⟨b, 4, none⟩ u4) :=
  Dr.put (Dr.put (Dr.put (Dr.put (Dr.put h (p := ⟨b, 0, none⟩) hb _) (p := ⟨b, 1, none⟩) hb _) (p := ⟨b, 2, none⟩) hb _) (p := ⟨b, 3, none⟩) hb _) (p := ⟨b, 4, none⟩) hb _

/-- a system and a limit -/
def SysLimD (w : World) (r : Value) (w' : World) : Prop := ∃ (mk : MK) (v : Value) (t : List (List Int)) (limit : Int), r = .tuple #[sysV mk v, .int .i64 limit] ∧ I64 limit ∧ RowsR ⟨w.heap.size, w'.heap.size, false⟩ w' v t

/-- a system and cuts -/
def SysCutsE (w : World) (r : Value) (w' : World) : Prop := ∃ (mk : MK) (v : Value) (t : List (List Int)) (u : Value) (cuts : List (List Int)), r = .tuple #[sysV mk v, u] ∧ RowsR ⟨w.heap.size, w'.heap.size, false⟩ w' v t ∧ RowsR ⟨w.heap.size, w'.heap.size, false⟩ w' u cuts
end Go.Proofs.YtkeikjedbfomnaaGreatDoor
