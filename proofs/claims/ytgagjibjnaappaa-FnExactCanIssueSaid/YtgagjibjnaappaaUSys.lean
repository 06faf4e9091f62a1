/- Proved: a system in memory, and the rows that open a door. -/
import Derived.Test.YtgagjibjnaappaaChecked
import Derived.Test.YtgagjibjnaappaaUSysLaw
namespace Go.Proofs.Ytgagjibjnaappaa
open Go.ChangeShapes Go.WideShapes Go.ChangeAt Go.RowKit
set_option linter.unusedVariables false

def sysV (mk : MK) (u : Value) : Value := .agg #[.int .i64 mk.c, .int .i64 mk.d, .int .i64 mk.s, .int .i64 mk.m, .int .i64 mk.l, u]
/-- a system by value lies in block b -/
structure SysAt (w : World) (b : Nat) (mk : MK) (u : Value) : Prop where
  c0 : w.cell? ⟨b, 0, none⟩ = some (.int .i64 mk.c)
  c1 : w.cell? ⟨b, 1, none⟩ = some (.int .i64 mk.d)
  c2 : w.cell? ⟨b, 2, none⟩ = some (.int .i64 mk.s)
  c3 : w.cell? ⟨b, 3, none⟩ = some (.int .i64 mk.m)
  c4 : w.cell? ⟨b, 4, none⟩ = some (.int .i64 mk.l)
  c5 : w.cell? ⟨b, 5, none⟩ = some u
theorem sys_box {w w0 : World} {mk : MK} {u : Value} {t : TypeId} (h : w.alloc (.cells #[.int .i64 mk.c, .int .i64 mk.d, .int .i64 mk.s, .int .i64 mk.m, .int .i64 mk.l, u] t) = w0) : Ext w w0 ∧ SysAt w0 w.heap.size mk u := by
  subst h
  exact ⟨Ext.alloc _ _, by simp, by simp, by simp, by simp, by simp, by simp⟩
theorem SysAt.ext {w w' : World} {b : Nat} {mk : MK} {u : Value} (h : SysAt w b mk u) (e : Ext w w') : SysAt w' b mk u := ⟨e.cell h.c0, e.cell h.c1, e.cell h.c2, e.cell h.c3, e.cell h.c4, e.cell h.c5⟩
theorem SysAt.drew {w w' : World} {b : Nat} {mk : MK} {u : Value} (h : SysAt w b mk u) (e : Drew w w') : SysAt w' b mk u := h.ext (Ext.ofDrew e)
theorem SysAt.all {w w' : World} {b : Nat} {mk : MK} {u : Value} (h : SysAt w b mk u) (e : Ext w w') : w'.cell? ⟨b, 0, none⟩ = some (.int .i64 mk.c) ∧ w'.cell? ⟨b, 1, none⟩ = some (.int .i64 mk.d) ∧ w'.cell? ⟨b, 2, none⟩ = some (.int .i64 mk.s) ∧ w'.cell? ⟨b, 3, none⟩ = some (.int .i64 mk.m) ∧ w'.cell? ⟨b, 4, none⟩ = some (.int .i64 mk.l) ∧ w'.cell? ⟨b, 5, none⟩ = some u :=
  ⟨e.cell h.c0, e.cell h.c1, e.cell h.c2, e.cell h.c3, e.cell h.c4, e.cell h.c5⟩
theorem MK.veq (mk : MK) : mk.v = .agg #[.int .i64 mk.c, .int .i64 mk.d, .int .i64 mk.s, .int .i64 mk.m, .int .i64 mk.l] := rfl
theorem Ext.lt {w w' : World} (h : Ext w w') {b : Nat} (hb : b < w.heap.size) : b < w'.heap.size := Nat.lt_of_lt_of_le hb h.size
theorem SysAt.lt {w : World} {b : Nat} {mk : MK} {u : Value} (h : SysAt w b mk u) : b < w.heap.size := World.block_lt_of_cell? _ _ h.c0

/-- row k of a table, in any later world: where its slice lies, and its elements -/
theorem rows_at {w : World} {a : Option Addr} {n cap : Nat} {z : Zone} {t : List (List Int)} (h : RowsR z w (.slice a n cap) t) {k : Nat} (hk : k < n) :
    ∃ b off, a = some ⟨b, off, none⟩ ∧ ∃ a1 n1 c1, n1 = (t.getD k []).length ∧ n1 ≤ 9223372036854775807 ∧ n1 ≤ c1 ∧ (∀ w', Ext w w' → w'.cell? ⟨b, off + k, none⟩ = some (.slice a1 n1 c1)) ∧ (∃ y : Zone, y.Sub ⟨z.lo, z.hi, false⟩ ∧ ∀ w', Ext w w' → IntsR y w' (.slice a1 n1 c1) (t.getD k [])) ∧
      ∀ j, j < n1 → ∃ b1 o1, a1 = some ⟨b1, o1, none⟩ ∧ I64 ((t.getD k []).getD j 0) ∧ ∀ w', Ext w w' → w'.cell? ⟨b1, o1 + j, none⟩ = some (.int .i64 ((t.getD k []).getD j 0)) := by
  obtain ⟨a', n', c', he, hn, -, hel⟩ := SliceR.elem stable_ints h
  injection he with e1 e2 e3
  subst e1; subst e2; subst e3
  obtain ⟨b, off, rfl, hb, u, hc, hu⟩ := hel k (by omega)
  have e0 : t[k]'(by omega) = t.getD k [] := by simp [show k < t.length by omega]
  rw [e0] at hu
  obtain ⟨a1, n1, c1, rfl, hn1, hm1, hcap, -, -, h1⟩ := IntsR.shape hu
  refine ⟨b, off, rfl, a1, n1, c1, hn1, hm1, hcap, fun w' e => e.cell hc, ⟨_, Zone.Sub.refl _, fun w' e => stable_ints.ext hu e⟩, fun j hj => ?_⟩
  obtain ⟨b1, o1, rfl, hx, hi, -⟩ := h1 j hj
  exact ⟨b1, o1, rfl, hi, fun w' e => e.cell hx⟩

set_option maxRecDepth 20000 in
set_option maxHeartbeats 1000000 in
theorem rowsFor_c (w : World) (mk : MK) (v : Value) (z : Zone) (t : List (List Int)) (h : RowsR z w v t) (d : Nat) (hd : ∀ k, k < t.length → d < (t.getD k []).length) (hl : t.length ≤ 10) :
    Calls Try.prog 92 #[sysV mk v, .int .i64 d] w (Ret w fun r w' => OwnP (Value.int .i64) 2 w.heap.size w' r (rowsI t d t.length)) := by
  obtain ⟨a, n, cap, rfl, hn, -⟩ := SliceR.shape h
  have HT := Lib.hid (fun (k : Nat) (hk : k < n) => rows_at h hk)
  rw [← hn] at hl
  have Hd : Hid (∀ k, k < n → d < (t.getD k []).length) := fun k hk => hd k (by omega)
  have Hn := Lib.hid hn
  clear hn h hd
  unfold sysV
  go_enter Try.func92, Try.ntmps92
  go_wp2_with fail
  generalize hw1 : World.alloc (World.alloc w _) _ = w1
  obtain ⟨e1, S0, o1⟩ : Ext w w1 ∧ SysAt w1 w.heap.size mk (.slice a n cap) ∧ OwnP (Value.int .i64) 2 (w.heap.size+1) w1 (.slice (some ⟨w.heap.size + 1, 0, none⟩) 0 0) [] := by
    subst hw1
    obtain ⟨f1, f2⟩ := sys_box (w := w) (mk := mk) (u := .slice a n cap) rfl
    exact ⟨f1.trans (Ext.alloc _ _), f2.ext (Ext.alloc _ _), by have := OwnP.empty (f := Value.int .i64) (e := 2) (B := w.heap.size + 1) (w := w.alloc (.cells #[.int .i64 mk.c, .int .i64 mk.d, .int .i64 mk.s, .int .i64 mk.m, .int .i64 mk.l, .slice a n cap] 34)) (by simp); simpa using this⟩
  clear hw1
  have c5 := S0.c5
  clear S0
  have HI : Hid ((w.heap.size + 1 : Nat) < w1.heap.size) := (o1.block _ rfl).2
  go_loopw [5, 6, 7, 12] (fun o _ _ s wr => ∃ k : Nat, k ≤ n ∧ s = .int .i64 k ∧ OwnP (Value.int .i64) 2 (w.heap.size+1) wr o (rowsI t d k) ∧ Below (w.heap.size+1) w1 wr) (fun _ _ _ s _ => n - (intOf s).toNat)
  case atStart => exact ⟨0, Nat.zero_le _, rfl, o1, Below.refl _ _⟩
  case round =>
    obtain ⟨k, hk, rfl, hown, hb⟩ := hrel
    have hsz := hb.size
    have c5' := (hb.cell (p := ⟨w.heap.size, 5, none⟩) (by simp)).trans c5
    have hb1 := HI.out
    have eW : Ext w wr := Below.trans e1 (hb.mono (Nat.le_succ _))
    by_cases hlt : k < n
    · obtain ⟨b, off, rfl, a1, n1, k1, hn1, hm1, -, hc, -, hel⟩ := HT.out k hlt
      have hdn := Hd.out k hlt
      rw [← hn1] at hdn
      obtain ⟨b1, o1', rfl, hx, hc1⟩ := hel d hdn
      replace hc := hc wr eW
      replace hc1 := hc1 wr eW
      have HS := Lib.hid (rowsI_succ t d k)
      have hle := rowsI_len t d k
      generalize hup : rowsI t d k = up at *
      clear hup hel hn1
      generalize (t.getD k []).getD d 0 = x at *
      by_cases hx1 : x = 1
      · have hq : (x == 1) = true := by simpa using hx1
        have HU : Hid (rowsI t d (k+1) = up ++ [(k : Int)]) := by show _ = _; rw [HS.out, if_pos hq]
        clear HS
        go_wp2_with (at_builtin; (refine wpList_append1 (f := Value.int .i64) (e := 2) (B := w.heap.size + 1) (xs := up) rfl _ _ 27 rfl 0 8 Try.underlying27 Try.infoI64 rfl (fun _ => rfl) rfl hown (k : Int) rfl (by omega) (by omega) (by omega) ?_); intro v6 w6 hown6 hg6 hb6)
        go_roundw
        case rel => exact ⟨k + 1, by omega, by go_num, by rw [HU.out]; exact hown6, hb.trans hb6⟩
        case measure => simp [intOf]; omega
      · have hq : (x == 1) = false := by simpa using hx1
        have HU : Hid (rowsI t d (k+1) = up) := by show _ = _; rw [HS.out, if_neg (by rw [hq]; decide), List.append_nil]
        clear HS hx1
        go_wp2_with fail
        go_roundw
        case rel => exact ⟨k + 1, by omega, by go_num, by rw [HU.out]; exact hown, hb⟩
        case measure => simp [intOf]; omega
    · have hkn : k = n := by omega
      have hkl : k = t.length := by rw [hkn]; exact Hn.out
      go_wp2_with fail
      go_ret
      exact ⟨_, rfl, by rw [← hkl]; exact hown.lower (Nat.le_succ _), eW⟩
end Go.Proofs.Ytgagjibjnaappaa
