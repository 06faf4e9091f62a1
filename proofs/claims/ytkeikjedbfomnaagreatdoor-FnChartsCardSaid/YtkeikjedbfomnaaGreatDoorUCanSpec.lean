/- Proved: CanIssue as the reference tells it. -/
import Derived.Test.YtkeikjedbfomnaaGreatDoorChecked
import Derived.Test.YtkeikjedbfomnaaGreatDoorUWithRow
import Derived.Test.YtkeikjedbfomnaaGreatDoorUCanLaw
import Derived.Test.YtkeikjedbfomnaaGreatDoorURowCodeSpec
namespace Go.Proofs.YtkeikjedbfomnaaGreatDoor
open Go.ChangeShapes Go.WideShapes Go.ChangeAt Go.RowKit
set_option linter.unusedVariables false

def canIssue (mk : MK) (t cuts : List (List Int)) (row key : List Int) : Bool × Int := if rowCode mk t cuts row [key] ≠ 0 then (false, rowCode mk t cuts row [key]) else (stays mk (t ++ [row]) cuts key, 0)
theorem canIssue_bad {mk : MK} {t cuts : List (List Int)} {row key : List Int} (h : rowCode mk t cuts row [key] ≠ 0) : canIssue mk t cuts row key = (false, rowCode mk t cuts row [key]) := by unfold canIssue; rw [if_pos h]
theorem canIssue_ok {mk : MK} {t cuts : List (List Int)} {row key : List Int} (h : rowCode mk t cuts row [key] = 0) : canIssue mk t cuts row key = (stays mk (t ++ [row]) cuts key, 0) := by unfold canIssue; rw [if_neg (by omega)]
theorem rowCode_design {mk : MK} {t cuts : List (List Int)} {row : List Int} {keys : List (List Int)} (h : rowCode mk t cuts row keys = 0) : faults mk t cuts = 0 := by
  by_cases h1 : designCode mk t cuts = 0
  · unfold designCode at h1
    cases e : isDesign mk t cuts with
    | true =>
      unfold isDesign at e
      obtain ⟨-, e⟩ := Bool.and_eq_true_iff.1 e
      obtain ⟨-, e⟩ := Bool.and_eq_true_iff.1 e
      exact of_decide_eq_true e
    | false => rw [e, if_neg (by decide)] at h1; omega
  · rw [rowCode_bad h1] at h; exact absurd h h1
theorem getD_appT {t : List (List Int)} {r : List Int} {k : Nat} (h : k < t.length + 1) : (t ++ [r]).getD k [] = if k < t.length then t.getD k [] else r := by
  by_cases e : k < t.length
  · rw [if_pos e, getD_front e]
  · rw [if_neg e]
    have : k = t.length := by omega
    rw [this, getD_last]
theorem sysOk_app {mk : MK} {t cuts : List (List Int)} {row : List Int} {keys : List (List Int)} (h : RowCodeOk mk t cuts row keys) : SysOk mk (t ++ [row]) := by
  have h0 := h.len
  have hd := h.doors
  have e := doorsOf_app (t := t) (r := row) (by omega)
  have hl : (t ++ [row]).length = t.length + 1 := by simp
  refine ⟨h.mk1, h.mk2, by rw [hl]; have := h.lt10; omega, by rw [e]; exact hd, fun k hk => ?_, fun k d hk hdd => ?_⟩
  · rw [hl] at hk
    rw [e, getD_appT hk]
    split
    · exact h.row k (by assumption)
    · exact h.row_len
  · rw [hl] at hk
    rw [e] at hdd
    rw [getD_appT hk]
    split
    · exact h.bit k d (by assumption) hdd
    · have hdl : d < row.length := by rw [h.row_len]; exact hdd
      have := (List.all_eq_true.1 h.row_bit) _ (List.getElem_mem hdl)
      have e : row.getD d 0 = row[d] := by simp [hdl]
      rw [e]; exact inB_iff.1 this
theorem partOk_front {mk : MK} {t cuts : List (List Int)} {row : List Int} {keys : List (List Int)} (h : RowCodeOk mk t cuts row keys) : PartOk mk (t ++ [row]) cuts :=
  ⟨sysOk_app h, by have := h.eq; simp; omega, h.key⟩
theorem partOk_app {mk : MK} {t cuts : List (List Int)} {row key : List Int} (h : RowCodeOk mk t cuts row [key]) : PartOk mk (t ++ [row]) (cuts ++ [key]) :=
  ⟨sysOk_app h, by have := h.eq; simp; omega, fun r hr => by
    rcases List.mem_append.1 hr with hr | hr
    · exact h.key r hr
    · rw [List.mem_singleton.1 hr]; exact h.row_keys key (List.mem_singleton.2 rfl)⟩

/-- an append of lists that lie elsewhere to an empty list of the call's own -/
theorem run_alias {P : Program} {e : TypeId} {w W : World} {g n c : Nat} {cuts : List (List Int)} {z : Zone} {a : Option Addr} (t ty : TypeId) (ht : P.underlying t = some (.slice e)) (hinfo : (P.info? e).map (fun i => (i.zero, i.size, i.bytes)) = some (some (.slice Option.none 0 0), 1, 24))
    (hc : RowsR z w (.slice a n c) cuts) (hm : n ≤ 1000) (hW : W = w.alloc (.cells #[] e)) (hg : g = w.heap.size) :
    ∃ v' w', (Builtin.append_ #[t, t] ty #[.slice (some ⟨g, 0, Option.none⟩) 0 0, .slice a n c]).run P W = .ok v' w' ∧ AliasR e w.heap.size w' v' cuts ∧ Ext w w' := by
  subst hW; subst hg
  obtain ⟨a', n', c', he, hln, -, hcap, hmx, hnone, -⟩ := SliceR.shape hc
  injection he with e1 e2 e3
  subst e1; subst e2; subst e3
  have H := fun (k : Nat) (hk : k < n) => rows_at hc hk
  cases a with
  | none =>
    obtain ⟨rfl, rfl⟩ := hnone rfl
    obtain rfl : cuts = [] := List.eq_nil_of_length_eq_zero hln.symm
    obtain ⟨i, hi, hz0, hz1, hz2⟩ := info_parts hinfo
    have hown : OwnP slV e w.heap.size (w.alloc (.cells #[] e)) (.slice (some ⟨w.heap.size, 0, Option.none⟩) 0 0) [] := OwnP.empty (Nat.le_refl _)
    have hrun := run_append_owned_none (P := P) (w.alloc (.cells #[] e)) w.heap.size t ty e i 1 ht hi _ _ _ hown
    exact ⟨_, _, hrun, AliasR.empty (Nat.le_refl _), Ext.alloc _ _⟩
  | some ad =>
  have eW : Ext w (w.alloc (.cells #[] e)) := Ext.alloc _ _
  have hsz : (w.alloc (.cells #[] e)).heap.size = w.heap.size + 1 := by simp
  subst hln
  obtain ⟨v', w', hr, ho, hgr, -⟩ := run_appendRowsY (P := P) (b := false) (w := w.alloc (.cells #[] e)) (w0 := w.alloc (.cells #[] e)) (ad := ad) (cap := c) (ys := cuts) (xs := []) stable_ints t ty ht hinfo (A := fun _ => True) (A0 := fun _ => True) (fun _ _ h => h) (AliasR.empty (Nat.le_refl _)) (Below.refl _ _) (fun _ => ⟨0, w.heap.size, false⟩) (fun _ _ h => by cases h)
    (fun _ _ k hk => ⟨trivial, by have := hk.2; simp only at this; omega, fun e => by
      have h3 := hk.2
      have : w.heap.size = k := by injection e
      simp only at h3
      omega⟩) (fun h => by cases h) (fun h => by cases h)
    (fun j hj => by
      obtain ⟨b', off', he, a1, n1, c1, -, -, -, h1, ⟨y, -, h2⟩, -⟩ := H j hj
      injection he with he
      subst he
      refine ⟨(a1, n1, c1), by rw [Addr.add_lit]; exact h1 _ eW, fun hj => ?_⟩
      have e0 : cuts.getD j [] = cuts[j] := by simp [hj]
      rw [← e0]
      exact stable_ints.ext (IntsR.free (h2 w (Ext.refl _))) eW) hcap hmx (by simp; omega) (by omega)
  refine ⟨v', w', hr, by simpa using ho, ?_⟩
  have hb2 : Below w.heap.size (w.alloc (.cells #[] e)) w' := Below.grown (Below.refl _ _) hgr (by omega) (fun k hk => by
    have : w.heap.size = k := by injection hk
    omega)
  exact Below.trans eW hb2

set_option maxHeartbeats 400000 in
theorem l16Open_c (w : World) (mk : MK) (v : Value) (z : Zone) (t : List (List Int)) (h : RowsR z w v t) (u : Value) (y : Zone) (cuts : List (List Int)) (hc : RowsR y w u cuts) (ok : PartOk mk t cuts) :
    Calls Tryz.prog 97 #[sysV mk v, u] w (Ret w fun r _ => r = .bool (decide (faults mk t cuts = 0))) := by
  have HC2 := Lib.hid (fun (w' : World) (e : Ext w w') => l15False_c w' mk v z t (stable_rows.ext h e) u y cuts (stable_rows.ext hc e) ok)
  generalize faults mk t cuts = fs at *
  obtain ⟨a, n, cap, rfl, -⟩ := SliceR.shape h
  obtain ⟨a2, n2, cap2, rfl, -⟩ := SliceR.shape hc
  clear h hc ok
  unfold sysV at *
  go_enter Tryz.func97, Tryz.ntmps97
  go_wp2_with fail
  generalize hw0 : World.alloc _ _ = w0
  obtain ⟨e0, S0⟩ := sys_box hw0
  clear hw0
  refine Calls.mono (HC2.out w0 e0) ?_
  rintro e w2 hr
  obtain ⟨r, rfl, ⟨a3, m3, c3, rfl, hm3, hmm⟩, e2⟩ := ret_ext hr
  clear hr
  by_cases hf : fs = 0
  · have hm0 : ((m3 : Int) == 0) = true := by rw [hm3, hf]; rfl
    have HR : Hid (decide (fs = 0) = true) := decide_eq_true hf
    clear hf hm3
    go_wp2_with fail
    go_ret
    exact ⟨.bool true, rfl, congrArg Value.bool HR.out.symm, e0.trans e2⟩
  · have hm0 : ((m3 : Int) == 0) = false := by rw [beq_eq_false_iff_ne]; omega
    have HR : Hid (decide (fs = 0) = false) := decide_eq_false hf
    clear hf hm3
    go_wp2_with fail
    go_ret
    exact ⟨.bool false, rfl, congrArg Value.bool HR.out.symm, e0.trans e2⟩

set_option maxRecDepth 20000 in
set_option maxHeartbeats 400000 in
theorem l16With_c (w : World) (u : Value) (y : Zone) (cuts : List (List Int)) (hc : RowsR y w u cuts) (hn1 : cuts.length ≤ 1000) (v4 : Value) (z4 : Zone) (key : List Int) (hk : IntsR z4 w v4 key) :
    Calls Tryz.prog 98 #[u, v4] w (Ret w fun r w' => RowsR ⟨0, w'.heap.size, false⟩ w' r (cuts ++ [key])) := by
  obtain ⟨a, n, cap, rfl, hn, -⟩ := SliceR.shape hc
  obtain ⟨a4, n4, cap4, rfl, -⟩ := SliceR.shape hk
  rw [← hn] at hn1
  have Hn := Lib.hid hn
  have HC := Lib.hid hc
  have HK := Lib.hid (IntsR.free hk)
  clear hn hc hk
  have hcl : cuts.length + 1 ≤ 1099511627776 := by rw [← Hn.out]; omega
  go_enter Tryz.func98, Tryz.ntmps98
  go_wp2_with (at_builtin; (first | (refine wpList_append_of rfl _ _ 24 rfl rfl rfl (fun ty => run_alias 24 ty Tryz.underlying24 Tryz.infoInts HC.out hn1 rfl rfl) ?_; intro v6 w6 h6) | (obtain ⟨h6', e6⟩ := h6; refine wpList_appendAlias (B := w.heap.size) (xs := cuts) (w0 := w) rfl _ _ 24 rfl Tryz.underlying24 Tryz.infoInts rfl h6' (a4, n4, cap4) key (stable_ints.ext HK.out e6) (Nat.le_refl _) rfl hcl (Ext.size e6) ?_; intro v7 w7 hown7 hb7 hg7 hat7)))
  go_ret
  exact ⟨_, rfl, AliasR.rows hown7, Below.trans e6 hb7⟩
end Go.Proofs.YtkeikjedbfomnaaGreatDoor
