/- Proved: the hull of keys, as the reference makes it; an append of one slice that lies elsewhere; a list of lists that lie elsewhere; the locks of a system, as the reference makes them; the locks of all doors, as the reference makes them; slices.Compact at a list of numbers, laid; the sort of a list of numbers, laid; slices.Sort at a list of numbers that the call owns; slices.Compact at a list of numbers that the call owns; the hull of keys, as the program makes it; the locks of all doors, as the program makes them. -/
import Derived.Test.YthgmojggpjnckaaGreatChecked
import Derived.Shelf.SlicesG.Cells
import Derived.Ground.SlgnProg
import Derived.Shelf.SortM.Plain
import Derived.Shelf.SortM.SortNone
import Derived.Ground.SlgmProg
import Derived.Deep.RegionLaw
import Derived.Test.YthgmojggpjnckaaGreatUPkB
import Derived.Test.YthgmojggpjnckaaGreatUPkA
namespace Go.Proofs.YthgmojggpjnckaaGreat
open Go.ChangeShapes Go.WideShapes Go.ChangeAt Go.RowKit
set_option linter.unusedVariables false

/-- a lock that the call has made -/
def LockP (l : List (List Int)) (w : World) (r : Value) (w' : World) : Prop := ∃ x, r = .agg #[x] ∧ RowsR (.new w w') w' x l

set_option maxRecDepth 20000 in
set_option maxHeartbeats 2000000 in
theorem l04Hull_c (w : World) (mk : MK) (hc6 : 2 ≤ mk.c ∧ mk.c ≤ 6) (hd8 : 2 ≤ mk.d ∧ mk.d ≤ 8) (v : Value) (z : Zone) (keys : List (List Int)) (h : RowsR z w v keys) (hk : ∀ r ∈ keys, (r.length : Int) = mk.c) :
    Calls Tryz.prog 131 #[mk.v, v] w (Ret w (LockP (hull mk keys) w)) := by
  obtain ⟨C, hC⟩ : ∃ C : Nat, mk.c = C := ⟨mk.c.toNat, by omega⟩
  obtain ⟨D, hD⟩ : ∃ D : Nat, mk.d = D := ⟨mk.d.toNat, by omega⟩
  have HH : Hid (hull mk keys = hullTo mk keys C) := by show _ = _; unfold hull; rw [hC]; rfl
  have HS : Hid (∀ i, hullTo mk keys (i+1) = hullTo mk keys i ++ [setAt keys i D]) := fun i => by have := hullTo_succ mk keys i; rw [hD] at this; exact this
  have HL := Lib.hid (hullTo_len mk keys)
  have H0 : Hid (hullTo mk keys 0 = []) := rfl
  generalize hull mk keys = res at *
  generalize hullTo mk keys = hT at *
  obtain ⟨a, n, cap, rfl, hn, hmax, -⟩ := SliceR.shape h
  have HT := Lib.hid (fun (k : Nat) (hk : k < n) => rows_at h hk)
  have HR : Hid (∀ k, k < n → (keys.getD k []).length = C) := fun k hkn => by
    have hk' : k < keys.length := by omega
    have := hk _ (List.getElem_mem hk')
    have e : keys.getD k [] = keys[k] := by simp [hk']
    rw [e]; omega
  have Hn := Lib.hid hn
  clear hn h hk
  unfold MK.v
  rw [hC, hD]
  rw [hC] at hc6
  rw [hD] at hd8
  generalize mk.s = ms
  generalize mk.m = mm
  generalize mk.l = ml
  clear hC hD
  go_enter Tryz.func131, Tryz.ntmps131
  go_wp2_with fail
  generalize hw1 : World.alloc _ _ = w1
  obtain ⟨e1, c0, c1, r0, f0, o1⟩ : Ext w w1 ∧ w1.cell? ⟨w.heap.size, 0, none⟩ = some (.int .i64 C) ∧ w1.cell? ⟨w.heap.size, 1, none⟩ = some (.int .i64 D) ∧ w1.cell? ⟨w.heap.size + 1, 0, none⟩ = some (.slice none 0 0) ∧ w1.frozen? ⟨w.heap.size + 1, 0, none⟩ = false ∧ OwnR true (w.heap.size+2) IntsR 41 (w.heap.size+2) w1 (.slice (some ⟨w.heap.size + 2, 0, none⟩) 0 0) [] := by
    subst hw1
    refine ⟨((Ext.alloc _ _).trans (Ext.alloc _ _)).trans (Ext.alloc _ _), by go_simp, by go_simp, by go_simp, by go_simp, ?_⟩
    have := OwnR.empty (b := true) (L := w.heap.size + 2) (E := IntsR) (e := 41) (B := w.heap.size + 2) (w := (w.alloc (.cells #[.int .i64 C, .int .i64 D, .int .i64 ms, .int .i64 mm, .int .i64 ml] 25)).alloc (.cells #[.slice none 0 0] 62)) (by simp)
    simpa using this
  have HI : Hid ((w.heap.size + 2 : Nat) < w1.heap.size) := by rw [← hw1]; show _ < _; simp
  clear hw1
  go_loopw [5, 6, 7, 8, 9, 10] (fun s5 s6 _ _ _ _ wr => ∃ i : Nat, i ≤ C ∧ s6 = .int .i64 i ∧ OwnR true (w.heap.size+2) IntsR 41 (w.heap.size+2) wr s5 (hT i) ∧ Below (w.heap.size+2) w1 wr) (fun _ s6 _ _ _ _ _ => C - (intOf s6).toNat)
  case atStart => exact ⟨0, Nat.zero_le _, rfl, by rw [H0.out]; exact o1, Below.refl _ _⟩
  case round =>
    obtain ⟨i, hi, rfl, own, hb⟩ := hrel
    have hsz := hb.size
    have hI := HI.out
    have eW : Ext w wr := Below.trans e1 (hb.mono (by omega))
    have c0' := (hb.cell (p := ⟨w.heap.size, 0, none⟩) (by simp)).trans c0
    have c1' := (hb.cell (p := ⟨w.heap.size, 1, none⟩) (by simp)).trans c1
    by_cases hlt : i < C
    · have hlen := HL.out i
      have Hown := Lib.hid own
      have hbk := own.block
      have HSi := Lib.hid (HS.out i)
      go_wp2_with fail
      generalize hw2 : World.alloc _ _ = w2
      obtain ⟨e2, o2⟩ : Ext wr w2 ∧ OwnP (Value.int .i64) 2 wr.heap.size w2 (.slice (some ⟨wr.heap.size, 0, none⟩) 0 0) [] := by
        subst hw2
        exact ⟨Ext.alloc _ _, OwnP.empty (Nat.le_refl _)⟩
      clear hw2
      obtain ⟨wo, rfl⟩ : ∃ wo, wo = wr := ⟨_, rfl⟩
      have HSz : Hid (wo.heap.size < w2.heap.size) := (o2.block _ rfl).2
      go_loopw [7, 8, 9, 10] (fun s7 s8 _ _ wr => ∃ d : Nat, d ≤ D ∧ s8 = .int .i64 d ∧ OwnP (Value.int .i64) 2 wo.heap.size wr s7 (setAt keys i d) ∧ Below wo.heap.size wo wr ∧ wo.heap.size < wr.heap.size) (fun _ s8 _ _ _ => D - (intOf s8).toNat)
      case atStart => exact ⟨0, Nat.zero_le _, rfl, o2, e2, HSz.out⟩
      case round =>
        obtain ⟨d, hd, rfl, own2, hb2, hs2⟩ := hrel
        have eWo : Ext w wr := eW.trans hb2
        have c0 := Ext.cell hb2 c0'
        have c1 := Ext.cell hb2 c1'
        by_cases hltd : d < D
        · go_wp2_with fail
          obtain ⟨wd, rfl⟩ : ∃ wd, wd = wr := ⟨_, rfl⟩
          go_loopw [9, 10] (fun s9 s10 wr => ∃ k : Nat, k ≤ n ∧ s10 = .int .i64 k ∧ s9 = .bool ((keys.take k).any fun r => r.getD i 0 == (d : Int)) ∧ Drew wd wr) (fun _ s10 _ => n - (intOf s10).toNat)
          case atStart => exact ⟨0, Nat.zero_le _, rfl, rfl, Drew.refl _⟩
          case round =>
            obtain ⟨k, hk, rfl, rfl, hdk⟩ := hrel
            by_cases hltk : k < n
            · obtain ⟨b, off, rfl, a1, n1, k1, hn1, hm1, -, hc, -, hel⟩ := HT.out k hltk
              have hin : i < n1 := by rw [hn1, HR.out k hltk]; exact hlt
              obtain ⟨b1, o1', rfl, hx, hc1⟩ := hel i hin
              replace hc := hc _ (eWo.trans (Ext.ofDrew hdk))
              replace hc1 := hc1 _ (eWo.trans (Ext.ofDrew hdk))
              have HA := Lib.hid (anyTake_succ keys (fun r => r.getD i 0 == (d : Int)) [] (i := k) (by rw [← Hn.out]; exact hltk))
              generalize (keys.take k).any (fun r => r.getD i 0 == (d : Int)) = q at *
              clear hel hn1
              generalize (keys.getD k []).getD i 0 = x at *
              cases q with
              | true =>
                go_wp2_with fail
                go_roundw
                case rel => exact ⟨k+1, by omega, by go_num, by rw [HA.out]; rfl, hdk⟩
                case measure => simp [intOf]; omega
              | false =>
                cases hxb : x == (d : Int) with
                | true =>
                  have HX : Hid (((keys.take (k+1)).any fun r => r.getD i 0 == (d : Int)) = true) := by show _ = _; rw [HA.out, hxb]; rfl
                  clear HA
                  go_wp2_with fail
                  go_roundw
                  case rel => exact ⟨k+1, by omega, by go_num, by rw [HX.out], hdk⟩
                  case measure => simp [intOf]; omega
                | false =>
                  have HX : Hid (((keys.take (k+1)).any fun r => r.getD i 0 == (d : Int)) = false) := by show _ = _; rw [HA.out, hxb]; rfl
                  clear HA
                  go_wp2_with fail
                  go_roundw
                  case rel => exact ⟨k+1, by omega, by go_num, by rw [HX.out], hdk⟩
                  case measure => simp [intOf]; omega
            · have HQ : Hid (((keys.take k).any fun r => r.getD i 0 == (d : Int)) = keys.any fun r => r.getD i 0 == (d : Int)) := by
                show _ = _
                have : keys.take k = keys := List.take_of_length_le (by have := Hn.out; omega)
                rw [this]
              have HU := Lib.hid (setAt_succ keys i d)
              have hle := setAt_len keys i d
              have hdr : wd.heap.size ≤ wr.heap.size := by have := hdk.size; omega
              have own3 := own2.ext (Ext.ofDrew hdk)
              generalize hst : setAt keys i d = st at *
              clear hst own2
              generalize (keys.take k).any (fun r => r.getD i 0 == (d : Int)) = q at *
              cases q with
              | true =>
                have HV : Hid (setAt keys i (d+1) = st ++ [(d : Int)]) := by show _ = _; rw [HU.out, if_pos HQ.out.symm]
                clear HU HQ
                go_wp2_with (at_builtin; (refine wpList_append1 (f := Value.int .i64) (e := 2) (B := wo.heap.size) (xs := st) rfl _ _ 41 rfl 0 8 Tryz.underlying41 Tryz.infoI64 rfl (fun _ => rfl) rfl own3 (d : Int) rfl (by omega) (by omega) (by omega) ?_); intro v6 w6 hown6 hg6 hb6)
                go_roundw
                case rel => exact ⟨d + 1, by omega, by go_num, by rw [HV.out]; exact hown6, (hb2.trans (hdk.below _)).trans hb6, by have := hb6.size; omega⟩
                case measure => simp [intOf]; omega
              | false =>
                have HV : Hid (setAt keys i (d+1) = st) := by show _ = _; rw [HU.out, if_neg (by rw [← HQ.out]; decide), List.append_nil]
                clear HU HQ
                go_wp2_with fail
                go_roundw
                case rel => exact ⟨d + 1, by omega, by go_num, by rw [HV.out]; exact own3, hb2.trans (hdk.below _), by omega⟩
                case measure => simp [intOf]; omega
        · have hdD : d = D := by omega
          subst hdD
          have hset := OwnP.ints (lo := wo.heap.size) own2 (fun x hx => by have := (setAt_mem.1 hx).1; unfold I64; omega) (Nat.le_refl _)
          obtain ⟨a7, n7, k7, rfl, -⟩ := own2.shape
          generalize setAt keys i d = st at *
          generalize hst : hT i = hs at *
          clear hst
          go_wp2_with (at_builtin; (refine wpList_appendRow (E := IntsR) (L := w.heap.size + 2) (B := w.heap.size + 2) (xs := hs) stable_ints slRepr_slice rfl _ _ 30 rfl Tryz.underlying30 Tryz.infoInts rfl Hown.out hb2 (a7, n7, k7) st hset rfl (by omega) (by omega) (by omega) ?_); intro v6 w6 hown6 hb6 hs6 hg6 hat6)
          go_roundw
          case rel => exact ⟨i + 1, by omega, by go_num, by rw [HSi.out]; exact hown6, hb.trans hb6⟩
          case measure => simp [intOf]; omega
    · have hiC : i = C := by omega
      obtain ⟨sa, sn, sc, rfl, -⟩ := own.shape
      have r0' := (hb.cell (p := ⟨w.heap.size + 1, 0, none⟩) (by show w.heap.size + 1 < w.heap.size + 2; omega)).trans r0
      have f0' := (hb.frozen (p := ⟨w.heap.size + 1, 0, none⟩) (by show w.heap.size + 1 < w.heap.size + 2; omega)).trans f0
      have HO := Lib.hid own
      clear own
      go_wp2_with fail
      refine bodyPost_ret (v := .agg #[.slice sa sn sc]) (by simp [results, Tryz.results131, go_sem, r0']) rfl ⟨_, rfl, ⟨_, rfl, ?_⟩, ?_⟩
      · have h2 := HO.out.reads (Nat.le_refl _)
        rw [HH.out, ← hiC]
        have hw : Within ⟨w.heap.size + 1, w.heap.size + 2, true⟩ wr (wr.setCell ⟨w.heap.size + 1, 0, none⟩ (.slice sa sn sc)) := (Within.refl _ wr).setCell (p := ⟨w.heap.size + 1, 0, none⟩) ⟨by simp, by simp⟩ _
        refine stable_rows.sub (stable_rows.within h2 hw (fun k h1 h2 => by have q1 := h1.1; have q2 := h2.2; simp only at q1 q2; omega)) ⟨fun k hk => ⟨by have q1 := hk.1; simp only [Zone.new] at *; omega, by have q2 := hk.2; simp only [Zone.new, World.setCell, Array.size_modify] at *; omega⟩, fun _ => rfl⟩
      · exact eW.setCell (by simp) _

open Go.ChangeShapes Go.WideShapes Go.ChangeAt Go.RowKit
set_option linter.unusedVariables false

section
variable {α : Type} {b : Bool} {A A0 : Nat → Prop} {E : Repr α} {e : TypeId} {B : Nat} {w w' : World} {v : Value} {xs : List α}
theorem run_appendOld {P : Program} (hE : Stable E) (t ty : TypeId) (ht : P.underlying t = some (.slice e)) (hinfo : (P.info? e).map (fun i => (i.zero, i.size, i.bytes)) = some (some (.slice Option.none 0 0), 1, 24))
    (hA : ∀ k, k < w.heap.size → A0 k → A k) (hown : OwnA b A0 E e B w v xs) {u : Option Addr × Nat × Nat} {y : α} {Y : Zone} (hu : E Y w (slV u) y) (hyo : b = true → Y.own = true)
    (hz : ∀ k, Y.Has k → A k ∧ k < w.heap.size ∧ v.ownBlock ≠ some k ∧ (b = true → ¬ A0 k)) {g : Nat} (hg : w.heap.size = g) (hn : xs.length + 1 ≤ 1099511627776) (hB : B ≤ w.heap.size) :
    ∃ v' w', (Builtin.append_ #[t, t] ty #[v, .slice (some ⟨g, 0, Option.none⟩) 1 1]).run P (w.alloc (.cells #[slV u] e)) = .ok v' w' ∧
      (OwnA b A E e B w' v' (xs ++ [y]) ∧ Below B w w' ∧ w.grownBy w' v.ownBlock ∧ ∀ k, v'.ownBlock = some k → v.ownBlock = some k ∨ w.heap.size ≤ k) := by
  subst hg
  have hbk := hown.block
  have hb : Below w.heap.size w (w.alloc (.cells #[slV u] e)) := (Below.refl _ _).alloc (Nat.le_refl _) _
  obtain ⟨v', w', hr, ho, hgr, hat⟩ := run_appendRowsY (P := P) (w := w.alloc (.cells #[slV u] e)) (ad := ⟨w.heap.size, 0, Option.none⟩) (cap := 1) (ys := [y]) hE t ty ht hinfo hA hown hb (fun _ => Y) (fun _ _ => hyo)
    (fun _ _ k hk => ⟨(hz k hk).1, by have := (hz k hk).2.1; simp; omega, (hz k hk).2.2.1⟩) (fun hb _ _ k hk _ => (hz k hk).2.2.2 hb) (fun _ i j hij hj => by simp at hj; omega)
    (fun j hj => by
      have : j = 0 := by simpa using hj
      subst this
      exact ⟨u, by rw [Addr.add_lit]; simp, fun _ => hE.below hu hb⟩) (by simp) (by unfold maxLen; omega) (by simpa using hn) hB
  have hg' : w.grownBy w' v.ownBlock := grownBy_trans (World.grownBy_alloc w _ _) hgr
  refine ⟨v', w', hr, ho, (Below.refl B w).grown hg' hB (fun k hk => (hbk k hk).1), hg', fun k hk => ?_⟩
  rcases hat with hat | hat
  · exact .inl (hat ▸ hk)
  · right; rw [hat] at hk; injection hk with hk; simp at hk; omega
end

open Go.ChangeShapes Go.WideShapes Go.ChangeAt Go.RowKit
set_option linter.unusedVariables false

/-- a list of the call's own, of lists that lie elsewhere -/
abbrev AliasR (e : TypeId) (B : Nat) (w : World) (v : Value) (xs : List (List Int)) : Prop := OwnA false (fun _ => True) IntsR e B w v xs
theorem IntsR.free {z : Zone} {w : World} {v : Value} {xs : List Int} (h : IntsR z w v xs) : IntsR ⟨0, w.heap.size, false⟩ w v xs := by
  obtain ⟨a, cap, rfl, h1, h2, h3, h4⟩ := h
  refine ⟨a, cap, rfl, h1, h2, h3, fun ad had hpos => ?_⟩
  obtain ⟨k1, k2, k3, k4, Z, k5, k6, k7⟩ := h4 ad had hpos
  refine ⟨k1, ⟨Nat.zero_le _, k3⟩, k3, (fun h => by cases h), fun _ => ⟨0, 0, false⟩, fun i _ => ⟨fun k hk => absurd hk.2 (Nat.not_lt_zero _), fun h => by cases h⟩, (fun h => by cases h), fun i hi => ?_⟩
  obtain ⟨u, c1, c2⟩ := k7 i hi
  exact ⟨u, c1, c2⟩
theorem wpList_appendAlias {e : TypeId} {B : Nat} {w : World} {v : Value} {xs : List (List Int)} {P : Program} {ops : Array Oper} {rest : List Oper} {o : Oper} {a : Act} {Q : Exit → Act → World → Prop} (hgd : o.guard = Option.none) (s x : Operand) (t : TypeId)
    (ho : o.op = .call { callee := .builtin .append, args := #[s, x], argTypes := #[t, t] }) (ht : P.underlying t = some (.slice e)) (hinfo : (P.info? e).map (fun i => (i.zero, i.size, i.bytes)) = some (some (.slice Option.none 0 0), 1, 24))
    (hs : a.eval s = v) (hown : AliasR e B w v xs) (u : Option Addr × Nat × Nat) (y : List Int) {w0 : World} (hu : IntsR ⟨0, w0.heap.size, false⟩ w (slV u) y) (h0 : w0.heap.size ≤ B) (hx : a.eval x = .slice (some ⟨w.heap.size, 0, Option.none⟩) 1 1)
    (hn : xs.length + 1 ≤ 1099511627776) (hB : B ≤ w.heap.size)
    (h : ∀ v' w', AliasR e B w' v' (xs ++ [y]) → Below B w w' → w.grownBy w' v.ownBlock → (∀ k, v'.ownBlock = some k → v.ownBlock = some k ∨ w.heap.size ≤ k) → wpList P ops Q rest (a.put o.dst v') w') : wpList P ops Q (o :: rest) a (w.alloc (.cells #[slV u] e)) := by
  have hbk := hown.block
  refine wpList_append_of hgd s x t ho hs hx (fun ty => run_appendOld stable_ints t ty ht hinfo (A := fun _ => True) (fun _ _ _ => trivial) hown hu (fun h => by cases h) (fun k hk => ⟨trivial, ?_, fun e => ?_, fun h => by cases h⟩) rfl hn hB) (fun v' w' h' => h v' w' h'.1 h'.2.1 h'.2.2.1 h'.2.2.2)
  · have := hk.2; simp only at this; omega
  · have h1 := (hbk k e).1; have := hk.2; simp only at this; omega
theorem AliasR.rows {e : TypeId} {B : Nat} {w : World} {v : Value} {xs : List (List Int)} (h : AliasR e B w v xs) : RowsR ⟨0, w.heap.size, false⟩ w v xs := OwnA.reads h (fun k _ => Nat.zero_le k) (Nat.zero_le _)
theorem AliasR.ext {e : TypeId} {B : Nat} {w w' : World} {v : Value} {xs : List (List Int)} (h : AliasR e B w v xs) (he : Ext w w') : AliasR e B w' v xs := OwnA.below stable_ints h he
theorem AliasR.empty {e : TypeId} {B : Nat} {w : World} (hB : B ≤ w.heap.size) : AliasR e B (w.alloc (.cells #[] e)) (.slice (some ⟨w.heap.size, 0, Option.none⟩) 0 0) [] := OwnA.empty hB

open Go.ChangeShapes Go.WideShapes Go.ChangeAt Go.RowKit
set_option linter.unusedVariables false

set_option maxRecDepth 20000 in
set_option maxHeartbeats 2000000 in
theorem l15Lock_c (w : World) (mk : MK) (hc6 : 2 ≤ mk.c ∧ mk.c ≤ 6) (hd8 : 2 ≤ mk.d ∧ mk.d ≤ 8) (v : Value) (z : Zone) (t : List (List Int)) (h : RowsR z w v t) (u : Value) (y : Zone) (cuts : List (List Int)) (hc : RowsR y w u cuts) (hlen : cuts.length ≤ t.length) (hl10 : t.length ≤ 10) (hk : ∀ r ∈ cuts, (r.length : Int) = mk.c) (d : Nat) (hd : ∀ k, k < t.length → d < (t.getD k []).length) :
    Calls Tryz.prog 98 #[sysV mk v, u, .int .i64 d] w (Ret w (LockP (hull mk (keysAt t cuts d cuts.length)) w)) := by
  have HK : Hid (∀ w', Ext w w' → ∀ x, RowsR ⟨0, w'.heap.size, false⟩ w' x (keysAt t cuts d cuts.length) → Calls Tryz.prog 131 #[mk.v, x] w' (Ret w' (LockP (hull mk (keysAt t cuts d cuts.length)) w'))) := fun w' e x hx => l04Hull_c w' mk hc6 hd8 x _ _ hx (fun r hr => hk r (keysAt_mem (Nat.le_refl _) hr))
  have HS := Lib.hid (fun n => keysAt_succ t cuts d n)
  have HL := Lib.hid (fun n => keysAt_len t cuts d n)
  have H0 : Hid (keysAt t cuts d 0 = []) := rfl
  generalize hull mk (keysAt t cuts d cuts.length) = res at *
  generalize keysAt t cuts d = kT at *
  obtain ⟨a, n, cap, rfl, hn, hmax, -⟩ := SliceR.shape h
  obtain ⟨a2, n2, cap2, rfl, hn2, hmax2, -⟩ := SliceR.shape hc
  have HT := Lib.hid (fun (k : Nat) (hk : k < n) => rows_at h hk)
  have HC := Lib.hid (fun (k : Nat) (hk : k < n2) => rows_at hc hk)
  have Hd : Hid (∀ k, k < n → d < (t.getD k []).length) := fun k hk => hd k (by omega)
  rw [← hn, ← hn2] at hlen
  rw [← hn] at hl10
  have Hn2 := Lib.hid hn2
  clear hn hn2 h hc hd hk hc6 hd8
  unfold sysV MK.v at *
  go_enter Tryz.func98, Tryz.ntmps98
  go_wp2_with fail
  generalize hw1 : World.alloc _ _ = w1
  obtain ⟨e1, S0, r0, f0, o1⟩ : Ext w w1 ∧ SysAt w1 w.heap.size mk (.slice a n cap) ∧ w1.cell? ⟨w.heap.size + 1, 0, none⟩ = some (.slice none 0 0) ∧ w1.frozen? ⟨w.heap.size + 1, 0, none⟩ = false ∧ AliasR 41 (w.heap.size+2) w1 (.slice (some ⟨w.heap.size + 2, 0, none⟩) 0 0) [] := by
    subst hw1
    obtain ⟨f1, f2⟩ := sys_box (w := w) (mk := mk) (u := .slice a n cap) (t := 32) rfl
    refine ⟨(f1.trans (Ext.alloc _ _)).trans (Ext.alloc _ _), (f2.ext (Ext.alloc _ _)).ext (Ext.alloc _ _), by go_simp, by go_simp, ?_⟩
    have := AliasR.empty (e := 41) (B := w.heap.size + 2) (w := (w.alloc (.cells #[.int .i64 mk.c, .int .i64 mk.d, .int .i64 mk.s, .int .i64 mk.m, .int .i64 mk.l, .slice a n cap] 32)).alloc (.cells #[.slice none 0 0] 62)) (by simp)
    simpa using this
  have HI : Hid ((w.heap.size + 2 : Nat) < w1.heap.size) := (o1.block _ rfl).2
  have HSy := Lib.hid S0
  clear hw1
  obtain ⟨c0, c1, c2, c3, c4, c5⟩ := S0
  go_loopw [7, 8] (fun s7 s8 wr => ∃ k : Nat, k ≤ n2 ∧ s8 = .int .i64 k ∧ AliasR 41 (w.heap.size+2) wr s7 (kT k) ∧ Below (w.heap.size+2) w1 wr) (fun _ s8 _ => n2 - (intOf s8).toNat)
  case atStart => exact ⟨0, Nat.zero_le _, rfl, by rw [H0.out]; exact o1, Below.refl _ _⟩
  case round =>
    obtain ⟨k, hk, rfl, own, hb⟩ := hrel
    have hsz := hb.size
    have hI := HI.out
    have eW : Ext w wr := Below.trans e1 (hb.mono (by omega))
    have c0' := (hb.cell (p := ⟨w.heap.size, 0, none⟩) (by simp)).trans c0
    have c1' := (hb.cell (p := ⟨w.heap.size, 1, none⟩) (by simp)).trans c1
    have c2' := (hb.cell (p := ⟨w.heap.size, 2, none⟩) (by simp)).trans c2
    have c3' := (hb.cell (p := ⟨w.heap.size, 3, none⟩) (by simp)).trans c3
    have c4' := (hb.cell (p := ⟨w.heap.size, 4, none⟩) (by simp)).trans c4
    have c5' := (hb.cell (p := ⟨w.heap.size, 5, none⟩) (by simp)).trans c5
    by_cases hlt : k < n2
    · have hle := HL.out k
      have HSk := Lib.hid (HS.out k)
      obtain ⟨b, off, rfl, a1, n1, k1, hn1, hm1, -, hc, -, hel⟩ := HT.out k (by omega)
      have hdn := Hd.out k (by omega)
      rw [← hn1] at hdn
      obtain ⟨b1, o1', rfl, hx, hc1⟩ := hel d hdn
      replace hc := hc wr eW
      replace hc1 := hc1 wr eW
      have hkn : k < n := by omega
      clear hel hn1
      generalize (t.getD k []).getD d 0 = x at *
      by_cases hx1 : x = 1
      · have hq : (x == 1) = true := by simpa using hx1
        obtain ⟨b', off', rfl, a1', n1', k1', hn1', hm1', -, hc', ⟨yy, -, hy⟩, -⟩ := HC.out k hlt
        have hU := IntsR.free (hy w (Ext.refl _))
        have hUW := stable_ints.ext hU eW
        replace hc' := hc' wr eW
        have HV : Hid (kT (k+1) = kT k ++ [cuts.getD k []]) := by show _ = _; rw [HSk.out, if_pos hq]
        clear hy hn1' HSk hU
        generalize hup : kT k = up at *
        clear hup
        generalize cuts.getD k [] = row at *
        go_wp2_with (at_builtin; (refine wpList_appendAlias (B := w.heap.size + 2) (xs := up) (w0 := w) rfl _ _ 30 rfl Tryz.underlying30 Tryz.infoInts rfl own (a1', n1', k1') row hUW (by omega) rfl (by omega) (by omega) ?_); intro v6 w6 hown6 hb6 hg6 hat6)
        go_roundw
        case rel => exact ⟨k + 1, by omega, by go_num, by rw [HV.out]; exact hown6, hb.trans hb6⟩
        case measure => simp [intOf]; omega
      · have hq : (x == 1) = false := by simpa using hx1
        have HV : Hid (kT (k+1) = kT k) := by show _ = _; rw [HSk.out, if_neg (by rw [hq]; decide), List.append_nil]
        clear hx1 HSk
        go_wp2_with fail
        go_roundw
        case rel => exact ⟨k + 1, by omega, by go_num, by rw [HV.out]; exact own, hb⟩
        case measure => simp [intOf]; omega
    · have hkn : k = cuts.length := by have := Hn2.out; omega
      have hx := own.rows
      rw [hkn] at hx
      have hcall := HK.out wr eW _ hx
      have r0' := (hb.cell (p := ⟨w.heap.size + 1, 0, none⟩) (by show w.heap.size + 1 < w.heap.size + 2; omega)).trans r0
      have f0' := (hb.frozen (p := ⟨w.heap.size + 1, 0, none⟩) (by show w.heap.size + 1 < w.heap.size + 2; omega)).trans f0
      clear hx own
      go_wp2_with fail
      refine Calls.mono hcall ?_
      rintro e w2 hr
      obtain ⟨r, rfl, ⟨x, rfl, hx⟩, e2⟩ := ret_ext hr
      clear hr hcall
      have r2 := e2.cell r0'
      have f2 := (Below.frozen (p := ⟨w.heap.size + 1, 0, none⟩) e2 (by show w.heap.size + 1 < wr.heap.size; omega)).trans f0'
      obtain ⟨sa, sn, sc, rfl, -⟩ := SliceR.shape hx
      have HO := Lib.hid hx
      clear hx
      have hs2 := e2.size
      go_wp2_with fail
      refine bodyPost_ret (v := .agg #[.slice sa sn sc]) (by simp [results, Tryz.results98, go_sem, r2]) rfl ⟨_, rfl, ⟨_, rfl, ?_⟩, ?_⟩
      · have hw : Within ⟨w.heap.size + 1, w.heap.size + 2, true⟩ w2 (w2.setCell ⟨w.heap.size + 1, 0, none⟩ (.slice sa sn sc)) := (Within.refl _ w2).setCell (p := ⟨w.heap.size + 1, 0, none⟩) ⟨by simp, by simp⟩ _
        refine stable_rows.sub (stable_rows.within HO.out hw (fun k h1 h2 => by have q1 := h1.1; have q2 := h2.2; simp only [Zone.new] at q1 q2; omega)) ⟨fun k hk => ⟨by have q1 := hk.1; simp only [Zone.new] at *; omega, by have q2 := hk.2; simp only [Zone.new, World.setCell, Array.size_modify] at *; omega⟩, fun _ => rfl⟩
      · exact (eW.trans e2).setCell (by simp) _

open Go.ChangeShapes Go.WideShapes Go.ChangeAt Go.RowKit
set_option linter.unusedVariables false

abbrev LocksR : Repr (List (List (List Int))) := SliceR RowsR
theorem stable_locks : Stable LocksR := stable_slice stable_rows
theorem Tryz.infoLock : (Tryz.prog.info? 62).map (fun i => (i.zero, i.size, i.bytes)) = some (some (.agg #[.slice none 0 0]), 1, 24) := by kernel_rfl
/-- cuts for the first rows of a system -/
structure PartOk (mk : MK) (t cuts : List (List Int)) : Prop extends SysOk mk t where
  le : cuts.length ≤ t.length
  key : ∀ r ∈ cuts, KeyOk mk r

set_option maxRecDepth 20000 in
set_option maxHeartbeats 2000000 in
theorem l15Locks_c (w : World) (mk : MK) (v : Value) (z : Zone) (t : List (List Int)) (h : RowsR z w v t) (u : Value) (y : Zone) (cuts : List (List Int)) (hc : RowsR y w u cuts) (hok : PartOk mk t cuts) :
    Calls Tryz.prog 87 #[sysV mk v, u] w (Ret w fun r w' => LocksR (.new w w') w' r (locks mk t cuts)) := by
  have HK : Hid (∀ w', Ext w w' → ∀ d : Nat, d < doorsOf t → Calls Tryz.prog 98 #[sysV mk v, u, .int .i64 d] w' (Ret w' (LockP (hull mk (keysAt t cuts d cuts.length)) w'))) := fun w' e d hd => l15Lock_c w' mk hok.mk1 hok.mk2 v z t (stable_rows.ext h e) u y cuts (stable_rows.ext hc e) hok.le hok.len.2 (fun r hr => (hok.key r hr).len) d (fun k hk => by rw [hok.row k hk]; exact hd)
  have HS := Lib.hid (fun n => locksTo_succ mk t cuts n)
  have HL := Lib.hid (fun n => locksTo_len mk t cuts n)
  have H0 : Hid (locksTo mk t cuts 0 = []) := rfl
  have HE : Hid (locks mk t cuts = locksTo mk t cuts (doorsOf t)) := rfl
  have hdr := hok.doors
  have hle1 := hok.len
  generalize locks mk t cuts = res at *
  generalize locksTo mk t cuts = lT at *
  obtain ⟨a, n, cap, rfl, hn, hmax, -⟩ := SliceR.shape h
  obtain ⟨a2, n2, cap2, rfl, hn2, hmax2, -⟩ := SliceR.shape hc
  have hn0 : 0 < n := by omega
  obtain ⟨b, off, rfl, a0, m, cp, hm0, hmm, -, hc0, -⟩ := rows_at h hn0
  have Hm : Hid (m = doorsOf t) := hm0
  have hm12 : m ≤ 12 := by have := Hm.out; omega
  clear hn hn2 h hc hok hdr hle1 hm0
  unfold sysV at *
  go_enter Tryz.func87, Tryz.ntmps87
  go_wp2_with fail
  generalize hw1 : World.alloc _ _ = w1
  obtain ⟨e1, S0, o1⟩ : Ext w w1 ∧ SysAt w1 w.heap.size mk (.slice (some ⟨b, off, none⟩) n cap) ∧ OwnR true (w.heap.size+1) RowsR 62 (w.heap.size+1) w1 (.slice (some ⟨w.heap.size + 1, 0, none⟩) 0 0) [] := by
    subst hw1
    obtain ⟨f1, f2⟩ := sys_box (w := w) (mk := mk) (u := .slice (some ⟨b, off, none⟩) n cap) (t := 32) rfl
    refine ⟨f1.trans (Ext.alloc _ _), f2.ext (Ext.alloc _ _), ?_⟩
    have := OwnR.empty (b := true) (L := w.heap.size + 1) (E := RowsR) (e := 62) (B := w.heap.size + 1) (w := w.alloc (.cells #[.int .i64 mk.c, .int .i64 mk.d, .int .i64 mk.s, .int .i64 mk.m, .int .i64 mk.l, .slice (some ⟨b, off, none⟩) n cap] 32)) (by simp)
    simpa using this
  have HI : Hid ((w.heap.size + 1 : Nat) < w1.heap.size) := (o1.block _ rfl).2
  clear hw1
  obtain ⟨c0, c1, c2, c3, c4, c5⟩ := S0
  go_loopw [5, 6] (fun s5 s6 wr => ∃ d : Nat, d ≤ m ∧ s6 = .int .i64 d ∧ OwnR true (w.heap.size+1) RowsR 62 (w.heap.size+1) wr s5 (lT d) ∧ Below (w.heap.size+1) w1 wr) (fun _ s6 _ => m - (intOf s6).toNat)
  case atStart => exact ⟨0, Nat.zero_le _, rfl, by rw [H0.out]; exact o1, Below.refl _ _⟩
  case round =>
    obtain ⟨d, hd, rfl, own, hb⟩ := hrel
    have hsz := hb.size
    have hI := HI.out
    have eW : Ext w wr := Below.trans e1 (hb.mono (by omega))
    have c0' := (hb.cell (p := ⟨w.heap.size, 0, none⟩) (by simp)).trans c0
    have c1' := (hb.cell (p := ⟨w.heap.size, 1, none⟩) (by simp)).trans c1
    have c2' := (hb.cell (p := ⟨w.heap.size, 2, none⟩) (by simp)).trans c2
    have c3' := (hb.cell (p := ⟨w.heap.size, 3, none⟩) (by simp)).trans c3
    have c4' := (hb.cell (p := ⟨w.heap.size, 4, none⟩) (by simp)).trans c4
    have c5' := (hb.cell (p := ⟨w.heap.size, 5, none⟩) (by simp)).trans c5
    have h0 := hc0 wr eW
    rw [Nat.add_zero] at h0
    by_cases hlt : d < m
    · have hlen := HL.out d
      have HSd := Lib.hid (HS.out d)
      have hcall := HK.out wr eW d (by rw [← Hm.out]; exact hlt)
      generalize hull mk (keysAt t cuts d cuts.length) = hl at *
      generalize hlt' : lT d = ls at *
      clear hlt'
      go_wp2_with fail
      refine Calls.mono hcall ?_
      rintro e w2 hr
      obtain ⟨r, rfl, ⟨x, rfl, hx⟩, e2⟩ := ret_ext hr
      clear hr hcall
      obtain ⟨xa, xn, xc, rfl, -⟩ := SliceR.shape hx
      go_wp2_with (at_builtin; (refine wpList_appendRow (E := RowsR) (L := w.heap.size + 1) (B := w.heap.size + 1) (xs := ls) stable_rows slRepr_slice rfl _ _ 56 rfl Tryz.underlying56 Tryz.infoLock rfl own e2 (xa, xn, xc) hl hx rfl (by omega) (by omega) (by omega) ?_); intro v6 w6 hown6 hb6 hs6 hg6 hat6)
      go_roundw
      case rel => exact ⟨d + 1, by omega, by go_num, by rw [HSd.out]; exact hown6, hb.trans hb6⟩
      case measure => simp [intOf]; omega
    · have hdm : d = doorsOf t := by have := Hm.out; omega
      go_wp2_with fail
      go_ret
      refine ⟨_, rfl, ?_, eW⟩
      rw [HE.out, ← hdm]
      exact stable_locks.sub (own.reads (Nat.le_refl _)) ⟨fun k hk => ⟨by have q1 := hk.1; simp only [Zone.new] at *; omega, hk.2⟩, fun _ => rfl⟩

open Go.ChangeShapes Go.WideShapes Go.ChangeAt Go.RowKit
set_option linter.unusedVariables false
open Go.Shelf

def Tryz.compactInts_ren : Go.Shelf.Ren := ⟨fun | 43 => 155 | n => n, fun | 22 => 41 | 23 => 2 | 3 => 3 | 4 => 4 | 0 => 0 | n => n, fun | n => n⟩
theorem Tryz.compactInts : Go.Proofs.SlLaysN.n43 Tryz.prog Tryz.compactInts_ren := {
  mixed := by kernel_rfl
  f43 := ⟨Tryz.f155.name, by decide, Tryz.func155.trans (congrArg some (by kernel_rfl))⟩
  t0 := Tryz.underlying0
  a0 := Tryz.isAgg0
  z0 := Tryz.sizeOf0
  v0 := Tryz.zeroValue0
  t3 := Tryz.underlying3
  a3 := Tryz.isAgg3
  z3 := Tryz.sizeOf3
  v3 := Tryz.zeroValue3
  t4 := Tryz.underlying4
  a4 := Tryz.isAgg4
  z4 := Tryz.sizeOf4
  v4 := Tryz.zeroValue4
  t22 := Tryz.underlying41
  a22 := Tryz.isAgg41
  z22 := Tryz.sizeOf41
  v22 := Tryz.zeroValue41
  t23 := Tryz.underlying2
  a23 := Tryz.isAgg2
  z23 := Tryz.sizeOf2
  v23 := Tryz.zeroValue2
  i23 := by kernel_rfl }

open Go.ChangeShapes Go.WideShapes Go.ChangeAt Go.RowKit
set_option linter.unusedVariables false
open Go.Shelf

def Tryz.sortInts_ren : Go.Shelf.Ren := ⟨fun | 5 => 154 | 8 => 177 | 7 => 176 | 19 => 194 | 20 => 195 | 10 => 185 | 11 => 186 | 12 => 187 | 13 => 188 | 14 => 189 | 15 => 190 | 16 => 191 | 17 => 192 | 18 => 193 | 30 => 201 | 31 => 202 | 32 => 203 | 33 => 204 | 34 => 205 | 35 => 206 | 40 => 208 | n => n, fun | 23 => 41 | 25 => 2 | 3 => 3 | 32 => 152 | 22 => 41 | 0 => 0 | 44 => 171 | 46 => 173 | 4 => 4 | 36 => 163 | 35 => 162 | 41 => 168 | 5 => 5 | 9 => 9 | 53 => 178 | 57 => 182 | 63 => 185 | 64 => 186 | n => n, fun | n => n⟩
theorem Tryz.sortInts : Go.Proofs.SlLaysM.n5 Tryz.prog Tryz.sortInts_ren := {
  mixed := by kernel_rfl
  f5 := ⟨Tryz.f154.name, by decide, Tryz.func154.trans (congrArg some (by kernel_rfl))⟩
  f7 := ⟨Tryz.f176.name, by decide, Tryz.func176.trans (congrArg some (by kernel_rfl))⟩
  f8 := Tryz.func177.trans (congrArg some (by kernel_rfl))
  f10 := ⟨Tryz.f185.name, by decide, Tryz.func185.trans (congrArg some (by kernel_rfl))⟩
  f11 := ⟨Tryz.f186.name, by decide, Tryz.func186.trans (congrArg some (by kernel_rfl))⟩
  f12 := ⟨Tryz.f187.name, by decide, Tryz.func187.trans (congrArg some (by kernel_rfl))⟩
  f13 := ⟨Tryz.f188.name, by decide, Tryz.func188.trans (congrArg some (by kernel_rfl))⟩
  f14 := ⟨Tryz.f189.name, by decide, Tryz.func189.trans (congrArg some (by kernel_rfl))⟩
  f15 := ⟨Tryz.f190.name, by decide, Tryz.func190.trans (congrArg some (by kernel_rfl))⟩
  f16 := ⟨Tryz.f191.name, by decide, Tryz.func191.trans (congrArg some (by kernel_rfl))⟩
  f17 := ⟨Tryz.f192.name, by decide, Tryz.func192.trans (congrArg some (by kernel_rfl))⟩
  f18 := ⟨Tryz.f193.name, by decide, Tryz.func193.trans (congrArg some (by kernel_rfl))⟩
  f19 := Tryz.func194.trans (congrArg some (by kernel_rfl))
  f20 := Tryz.func195.trans (congrArg some (by kernel_rfl))
  f30 := ⟨Tryz.f201.name, by decide, Tryz.func201.trans (congrArg some (by kernel_rfl))⟩
  f31 := Tryz.func202.trans (congrArg some (by kernel_rfl))
  f32 := Tryz.func203.trans (congrArg some (by kernel_rfl))
  f33 := ⟨Tryz.f204.name, by decide, Tryz.func204.trans (congrArg some (by kernel_rfl))⟩
  f34 := ⟨Tryz.f205.name, by decide, Tryz.func205.trans (congrArg some (by kernel_rfl))⟩
  f35 := ⟨Tryz.f206.name, by decide, Tryz.func206.trans (congrArg some (by kernel_rfl))⟩
  f40 := ⟨Tryz.f208.name, by decide, Tryz.func208.trans (congrArg some (by kernel_rfl))⟩
  t0 := Tryz.underlying0
  a0 := Tryz.isAgg0
  z0 := Tryz.sizeOf0
  v0 := Tryz.zeroValue0
  t3 := Tryz.underlying3
  a3 := Tryz.isAgg3
  z3 := Tryz.sizeOf3
  v3 := Tryz.zeroValue3
  t4 := Tryz.underlying4
  a4 := Tryz.isAgg4
  z4 := Tryz.sizeOf4
  v4 := Tryz.zeroValue4
  t5 := Tryz.underlying5
  a5 := Tryz.isAgg5
  z5 := Tryz.sizeOf5
  v5 := Tryz.zeroValue5
  t9 := Tryz.underlying9
  a9 := Tryz.isAgg9
  z9 := Tryz.sizeOf9
  v9 := Tryz.zeroValue9
  t22 := Tryz.underlying41
  a22 := Tryz.isAgg41
  z22 := Tryz.sizeOf41
  v22 := Tryz.zeroValue41
  t23 := Tryz.underlying41
  a23 := Tryz.isAgg41
  z23 := Tryz.sizeOf41
  v23 := Tryz.zeroValue41
  t25 := Tryz.underlying2
  a25 := Tryz.isAgg2
  z25 := Tryz.sizeOf2
  v25 := Tryz.zeroValue2
  t32 := Tryz.underlying152
  a32 := Tryz.isAgg152
  z32 := Tryz.sizeOf152
  v32 := Tryz.zeroValue152
  t35 := Tryz.underlying162
  a35 := Tryz.isAgg162
  z35 := Tryz.sizeOf162
  v35 := Tryz.zeroValue162
  t36 := Tryz.underlying163
  a36 := Tryz.isAgg163
  z36 := Tryz.sizeOf163
  v36 := Tryz.zeroValue163
  t41 := Tryz.underlying168
  a41 := Tryz.isAgg168
  z41 := Tryz.sizeOf168
  v41 := Tryz.zeroValue168
  t44 := Tryz.underlying171
  a44 := Tryz.isAgg171
  z44 := Tryz.sizeOf171
  v44 := Tryz.zeroValue171
  t46 := Tryz.underlying173
  a46 := Tryz.isAgg173
  z46 := Tryz.sizeOf173
  v46 := Tryz.zeroValue173
  t53 := Tryz.underlying178
  a53 := Tryz.isAgg178
  z53 := Tryz.sizeOf178
  v53 := Tryz.zeroValue178
  t57 := Tryz.underlying182
  a57 := Tryz.isAgg182
  z57 := Tryz.sizeOf182
  v57 := Tryz.zeroValue182
  t63 := Tryz.underlying185
  a63 := Tryz.isAgg185
  z63 := Tryz.sizeOf185
  v63 := Tryz.zeroValue185
  t64 := Tryz.underlying186
  a64 := Tryz.isAgg186
  z64 := Tryz.sizeOf186
  v64 := Tryz.zeroValue186 }

open Go.ChangeShapes Go.WideShapes Go.ChangeAt Go.RowKit
set_option linter.unusedVariables false
open Go.Shelf

theorem own_put {α : Type} [Inhabited α] {f : α → Value} {e : TypeId} {B g n cap : Nat} {w : World} {xs ys : List α} (h : OwnP f e B w (.slice (some ⟨g, 0, none⟩) n cap) xs) (hl : ys.length = xs.length) (m : Nat) (os : Array Obj) :
    OwnP f e B (Sort.grow (Sort.putRow f (Sort.ahead w m) g 0 ys.toArray) os) (.slice (some ⟨g, 0, none⟩) n cap) ys ∧ (B ≤ w.heap.size → Below B w (Sort.grow (Sort.putRow f (Sort.ahead w m) g 0 ys.toArray) os)) := by
  rcases h.2 with ⟨h1, h2⟩ | ⟨g', cap', cur, h1, hB, hcur, hn, hm, hs, ht⟩
  · cases h1
  · simp at h1
    obtain ⟨rfl, rfl, rfl⟩ := h1
    have hgl : g < w.heap.size := by
      rcases Nat.lt_or_ge g w.heap.size with h | h
      · exact h
      · rw [Array.getElem?_eq_none h] at hcur; cases hcur
    have hblk : (Sort.grow (Sort.putRow f (Sort.ahead w m) g 0 ys.toArray) os).heap[g]? = some (.cells (Sort.putCells f 0 ys.toArray cur) e (0, 0)) := by
      rw [Sort.heap_grow_old _ _ (by simpa [Sort.putRow, Sort.mapBlock] using hgl)]
      show ((w.heap.modify g (Sort.onCells (Sort.putCells f 0 ys.toArray)))[g]?) = _
      rw [Array.getElem?_modify, if_pos rfl, hcur]; rfl
    constructor
    · refine ⟨by simp, .inr ⟨g, cap, Sort.putCells f 0 ys.toArray cur, by rw [hl], hB, hblk, by omega, hm, by simpa [Sort.putCells] using hs, ?_⟩⟩
      apply List.ext_getElem?
      intro k
      simp only [List.getElem?_take, List.getElem?_map, Sort.putCells, Array.getElem?_toList, Array.getElem?_mapIdx]
      by_cases hk : k < ys.length
      · have hkc : k < cur.size := by omega
        simp [hk, hkc]
      · simp [hk]
    · intro hBw
      refine ⟨rfl, rfl, rfl, by simp [Sort.grow, Sort.putRow, Sort.mapBlock], fun k hk => ?_⟩
      rw [Sort.heap_grow_old _ _ (by simp [Sort.putRow, Sort.mapBlock]; omega)]
      show ((w.heap.modify g (Sort.onCells (Sort.putCells f 0 ys.toArray)))[k]?) = _
      rw [Array.getElem?_modify, if_neg (by omega)]

theorem SortInts_c (w : World) (v : Value) (B : Nat) (hBw : B ≤ w.heap.size) (xs : List Int) (h : OwnP (Value.int .i64) 2 B w v xs) (hx : xs.length ≤ 1048576) :
    Calls Tryz.prog 154 #[v] w (fun e w' => e = .returned (.tuple #[]) ∧ OwnP (Value.int .i64) 2 B w' v (xs.mergeSort fun x y => decide (x ≤ y)) ∧ Below B w w') := by
  rcases h.2 with ⟨rfl, h2⟩ | ⟨g, cap, cur, rfl, hB, hcur, hn, hm, hs, ht⟩
  · have hnil : xs = [] := List.eq_nil_of_length_eq_zero (by omega)
    subst hnil
    refine Calls.mono (AnyM.slices_Sort_int_none Tryz.sortInts none 0 w) ?_
    rintro e w' ⟨rfl, rfl⟩
    exact ⟨rfl, by simpa using h, Below.refl _ _⟩
  · have hgl : g < w.heap.size := by
      rcases Nat.lt_or_ge g w.heap.size with h | h
      · exact h
      · rw [Array.getElem?_eq_none h] at hcur; cases hcur
    refine Calls.mono (AnyM.slices_Sort_int Tryz.sortInts g 0 cap xs w (fun j hj => ?_) hgl (by omega)) ?_
    · have hj' : j < xs.length := by simpa using hj
      obtain ⟨hk, hc, hf⟩ := OwnP.at h hj'
      refine ⟨?_, by simpa using hf⟩
      rw [Nat.zero_add, hc]
      simp [hj']
    · rintro e w' ⟨rfl, m, os, rfl⟩
      have hl := List.length_mergeSort (le := fun (x y : Int) => decide (x ≤ y)) xs
      obtain ⟨p1, p2⟩ := own_put h hl m os
      exact ⟨rfl, p1, p2 hBw⟩

open Go.ChangeShapes Go.WideShapes Go.ChangeAt Go.RowKit
set_option linter.unusedVariables false
open Go.Shelf

theorem OwnP.front {α : Type} {f : α → Value} {e : TypeId} {B g n cap : Nat} {w : World} {xs : List α} (h : OwnP f e B w (.slice (some ⟨g, 0, Option.none⟩) n cap) xs) (k : Nat) (hk : k ≤ n) : OwnP f e B w (.slice (some ⟨g, 0, Option.none⟩) k cap) (xs.take k) := by
  have hn := h.len
  rcases h.2 with ⟨h1, h2⟩ | ⟨g', cap', cur, h1, hB, hcur, hnc, hm, hs, ht⟩
  · cases h1
  · simp at h1
    obtain ⟨rfl, rfl, rfl⟩ := h1
    have hl : (xs.take k).length = k := by rw [List.length_take]; omega
    refine ⟨by simp, .inr ⟨g, cap, cur, by rw [hl], hB, hcur, by omega, hm, hs, ?_⟩⟩
    rw [hl, Nat.mul_one, List.map_take, ← ht, List.take_take, Nat.mul_one, Nat.min_eq_left (by omega)]

theorem CompactInts_c (w : World) (v : Value) (B : Nat) (hBw : B ≤ w.heap.size) (xs : List Int) (h : OwnP (Value.int .i64) 2 B w v xs) :
    Calls Tryz.prog 155 #[v] w (fun e w' => ∃ v', e = .returned v' ∧ OwnP (Value.int .i64) 2 B w' v' (Lib.compact xs) ∧ Below B w w') := by
  rcases h.2 with ⟨rfl, h2⟩ | ⟨g, cap, cur, rfl, hB, hcur, hn, hm, hs, ht⟩
  · have hnil : xs = [] := List.eq_nil_of_length_eq_zero (by omega)
    subst hnil
    refine Calls.mono (AnyG.slices_Compact_int_empty Tryz.compactInts none 0 w) ?_
    rintro e w' ⟨rfl, rfl⟩
    exact ⟨_, rfl, h, Below.refl _ _⟩
  · have hgl : g < w.heap.size := by
      rcases Nat.lt_or_ge g w.heap.size with h | h
      · exact h
      · rw [Array.getElem?_eq_none h] at hcur; cases hcur
    have hle := Lib.compact_length_le xs
    refine Calls.mono (AnyG.slices_Compact_int Tryz.compactInts g 0 cap xs w (fun j hj => ?_) (by unfold maxLen at hm; omega) (by omega)) ?_
    · have hj' : j < xs.length := by simpa using hj
      obtain ⟨hk, hc, hf⟩ := OwnP.at h hj'
      refine ⟨?_, by simpa using hf⟩
      rw [Nat.zero_add, hc]
      simp [hj']
    · rintro e w' ⟨rfl, q, rfl⟩
      have hl : (Lib.compact xs ++ List.replicate (xs.length - (Lib.compact xs).length) 0).length = xs.length := by rw [List.length_append, List.length_replicate]; omega
      obtain ⟨p1, p2⟩ := own_put h hl q #[]
      rw [Sort.grow_empty] at p1 p2
      refine ⟨_, rfl, ?_, p2 hBw⟩
      have := p1.front (Lib.compact xs).length hle
      rwa [List.take_left'] at this
      rfl

/-! ### what sorting and compacting leaves -/
theorem compact_rise {zs : List Int} (hs : zs.Pairwise (· ≤ ·)) : ∀ m, m ≤ zs.length → (Lib.compactUpTo zs.toArray m).Pairwise (· < ·) ∧ ∀ x, x ∈ Lib.compactUpTo zs.toArray m ↔ ∃ j, j < m ∧ zs.toArray[j]! = x := by
  have hle : ∀ i j, i ≤ j → j < zs.length → zs.toArray[i]! ≤ zs.toArray[j]! := by
    intro i j hij hj
    have e1 : zs.toArray[i]! = zs[i]'(by omega) := by simp [show i < zs.length by omega]
    have e2 : zs.toArray[j]! = zs[j] := by simp [hj]
    rw [e1, e2]
    rcases Nat.lt_or_ge i j with h | h
    · exact List.pairwise_iff_getElem.1 hs i j (by omega) hj h
    · have : i = j := by omega
      subst this; exact Int.le_refl _
  intro m
  induction m with
  | zero => intro _; exact ⟨by simp [Lib.compactUpTo], fun x => by simp [Lib.compactUpTo]⟩
  | succ m ih =>
    intro hm
    obtain ⟨h1, h2⟩ := ih (by omega)
    rw [Lib.compactUpTo_succ]
    cases hk : Lib.keeps zs.toArray m with
    | true =>
      simp only [if_true]
      have hne : m = 0 ∨ zs.toArray[m]! ≠ zs.toArray[m-1]! := of_decide_eq_true hk
      refine ⟨List.pairwise_append.2 ⟨h1, List.pairwise_singleton _ _, fun a ha b hb => ?_⟩, fun x => ?_⟩
      · rw [List.mem_singleton.1 hb]
        obtain ⟨j, hj, rfl⟩ := (h2 a).1 ha
        rcases hne with h0 | hne
        · omega
        · have q1 := hle j (m-1) (by omega) (by omega)
          have q2 := hle (m-1) m (by omega) (by omega)
          omega
      · rw [List.mem_append, h2, List.mem_singleton]
        constructor
        · rintro (⟨j, hj, e⟩ | e)
          · exact ⟨j, by omega, e⟩
          · exact ⟨m, by omega, e.symm⟩
        · rintro ⟨j, hj, e⟩
          by_cases hjm : j = m
          · subst hjm; exact .inr e.symm
          · exact .inl ⟨j, by omega, e⟩
    | false =>
      have hne : ¬ (m = 0 ∨ zs.toArray[m]! ≠ zs.toArray[m-1]!) := of_decide_eq_false hk
      have hm0 : m ≠ 0 := fun h => hne (.inl h)
      have he : zs.toArray[m]! = zs.toArray[m-1]! := Decidable.not_not.1 (fun h => hne (.inr h))
      simp only [Bool.false_eq_true, if_false, List.append_nil]
      refine ⟨h1, fun x => ?_⟩
      rw [h2]
      constructor
      · rintro ⟨j, hj, e⟩; exact ⟨j, by omega, e⟩
      · rintro ⟨j, hj, e⟩
        by_cases hjm : j = m
        · subst hjm; exact ⟨j - 1, by omega, by rw [← he]; exact e⟩
        · exact ⟨j, by omega, e⟩
theorem compact_sort (xs : List Int) : (Lib.compact (xs.mergeSort fun x y => decide (x ≤ y))).Pairwise (· < ·) ∧ ∀ x, x ∈ Lib.compact (xs.mergeSort fun x y => decide (x ≤ y)) ↔ x ∈ xs := by
  have hs : (xs.mergeSort fun x y => decide (x ≤ y)).Pairwise (· ≤ ·) := by
    have := List.pairwise_mergeSort (le := fun (x y : Int) => decide (x ≤ y)) (by intro a b c h1 h2; simp at *; omega) (by intro a b; simp; omega) xs
    exact this.imp (fun h => by simpa using h)
  have hp := List.mergeSort_perm xs (fun (x y : Int) => decide (x ≤ y))
  generalize (xs.mergeSort fun x y => decide (x ≤ y)) = zs at *
  obtain ⟨h1, h2⟩ := compact_rise hs zs.length (Nat.le_refl _)
  refine ⟨h1, fun x => ?_⟩
  unfold Lib.compact
  rw [h2, ← hp.mem_iff]
  constructor
  · rintro ⟨j, hj, rfl⟩
    have e1 : zs.toArray[j]! = zs[j] := by simp [hj]
    rw [e1]; exact List.getElem_mem hj
  · intro hx
    obtain ⟨j, hj, rfl⟩ := List.getElem_of_mem hx
    exact ⟨j, hj, by simp [hj]⟩

open Go.ChangeShapes Go.WideShapes Go.ChangeAt Go.RowKit
set_option linter.unusedVariables false

/-- the cuts of the first keys in chamber i -/
def colAt (keys : List (List Int)) (i n : Nat) : List Int := (keys.take n).map fun r => r.getD i 0
theorem colAt_succ {keys : List (List Int)} (i : Nat) {n : Nat} (h : n < keys.length) : colAt keys i (n+1) = colAt keys i n ++ [(keys.getD n []).getD i 0] := by
  unfold colAt
  rw [List.take_add_one, List.getElem?_eq_getElem h, List.map_append]
  simp [h]
theorem colAt_len (keys : List (List Int)) (i n : Nat) : (colAt keys i n).length ≤ n := by unfold colAt; rw [List.length_map, List.length_take]; omega
theorem colAt_all (keys : List (List Int)) (i : Nat) {n : Nat} (h : n = keys.length) : colAt keys i n = keys.map fun r => r.getD i 0 := by
  unfold colAt; rw [h, List.take_length]
theorem setAt_sort {keys : List (List Int)} {i D : Nat} (h : ∀ r ∈ keys, 0 ≤ r.getD i 0 ∧ r.getD i 0 < D) : Lib.compact ((keys.map fun r => r.getD i 0).mergeSort fun x y => decide (x ≤ y)) = setAt keys i D := by
  obtain ⟨h1, h2⟩ := compact_sort (keys.map fun r => r.getD i 0)
  refine rise_eq h1 (setAt_sorted keys i D) (fun x => ?_)
  rw [h2, setAt_mem, List.mem_map]
  constructor
  · rintro ⟨r, hr, rfl⟩; exact ⟨h r hr, r, hr, rfl⟩
  · rintro ⟨-, r, hr, e⟩; exact ⟨r, hr, e⟩

set_option maxRecDepth 20000 in
set_option maxHeartbeats 2000000 in
theorem hullOf_c (w : World) (mk : MK) (hc6 : 2 ≤ mk.c ∧ mk.c ≤ 6) (hd8 : 2 ≤ mk.d ∧ mk.d ≤ 8) (v : Value) (z : Zone) (keys : List (List Int)) (h : RowsR z w v keys) (hk : ∀ r ∈ keys, KeyOk mk r) (hkl : keys.length ≤ 1000000) :
    Calls Tryz.prog 118 #[mk.v, v] w (Ret w (LockP (hull mk keys) w)) := by
  obtain ⟨C, hC⟩ : ∃ C : Nat, mk.c = C := ⟨mk.c.toNat, by omega⟩
  obtain ⟨D, hD⟩ : ∃ D : Nat, mk.d = D := ⟨mk.d.toNat, by omega⟩
  have HH : Hid (hull mk keys = hullTo mk keys C) := by show _ = _; unfold hull; rw [hC]; rfl
  have HS : Hid (∀ i, hullTo mk keys (i+1) = hullTo mk keys i ++ [setAt keys i D]) := fun i => by have := hullTo_succ mk keys i; rw [hD] at this; exact this
  have HL := Lib.hid (hullTo_len mk keys)
  have H0 : Hid (hullTo mk keys 0 = []) := rfl
  have HQ : Hid (∀ i, i < C → Lib.compact ((keys.map fun r => r.getD i 0).mergeSort fun x y => decide (x ≤ y)) = setAt keys i D) := fun i hi => setAt_sort (fun r hr => by
    have h1 := (hk r hr).len
    have := (hk r hr).cut i (by omega)
    omega)
  generalize hull mk keys = res at *
  generalize hullTo mk keys = hT at *
  obtain ⟨a, n, cap, rfl, hn, hmax, -⟩ := SliceR.shape h
  have HT := Lib.hid (fun (k : Nat) (hk : k < n) => rows_at h hk)
  have HR : Hid (∀ k, k < n → (keys.getD k []).length = C) := fun k hkn => by
    have hk' : k < keys.length := by omega
    have := (hk _ (List.getElem_mem hk')).len
    have e : keys.getD k [] = keys[k] := by simp [hk']
    rw [e]; omega
  rw [← hn] at hkl
  have Hn := Lib.hid hn
  clear hn h hk
  unfold MK.v
  rw [hC, hD]
  rw [hC] at hc6
  rw [hD] at hd8
  generalize mk.s = ms
  generalize mk.m = mm
  generalize mk.l = ml
  clear hC hD
  go_enter Tryz.func118, Tryz.ntmps118
  go_wp2_with fail
  generalize hw1 : World.alloc _ _ = w1
  have e1 : Ext w w1 := by rw [← hw1]; exact (((Ext.alloc _ _).trans (Ext.alloc _ _)).trans (Ext.alloc _ _))
  have c0 : w1.cell? ⟨w.heap.size, 0, none⟩ = some (.int .i64 C) := by rw [← hw1]; clear hw1; go_simp
  have r0 : w1.cell? ⟨w.heap.size + 1, 0, none⟩ = some (.slice none 0 0) := by rw [← hw1]; clear hw1; go_simp
  have f0 : w1.frozen? ⟨w.heap.size + 1, 0, none⟩ = false := by rw [← hw1]; clear hw1; go_simp
  have l0 : w1.cell? ⟨w.heap.size + 1 + 1, 0, none⟩ = some (.slice none 0 0) := by rw [← hw1]; clear hw1; go_simp
  have g0 : w1.frozen? ⟨w.heap.size + 1 + 1, 0, none⟩ = false := by rw [← hw1]; clear hw1; go_simp
  have HI : Hid (w1.heap.size = w.heap.size + 3) := by show _ = _; rw [← hw1]; simp
  clear hw1
  go_loopw [6, 7, 9, 13] (fun _ _ _ s13 wr => ∃ (i : Nat) (lv : Value), i ≤ C ∧ s13 = .int .i64 i ∧ wr.cell? ⟨w.heap.size + 1 + 1, 0, none⟩ = some lv ∧ OwnR true (w.heap.size+3) IntsR 41 (w.heap.size+3) wr lv (hT i) ∧ Below (w.heap.size+2) w1 wr ∧ wr.frozen? ⟨w.heap.size + 1 + 1, 0, none⟩ = false ∧ w.heap.size + 3 ≤ wr.heap.size) (fun _ _ _ s13 _ => C - (intOf s13).toNat)
  case atStart => exact ⟨0, .slice none 0 0, Nat.zero_le _, rfl, l0, by rw [H0.out]; exact OwnR.none, Below.refl _ _, g0, by rw [HI.out]; exact Nat.le_refl _⟩
  case round =>
    obtain ⟨i, lv, hi, rfl, l1, own, hb, g1, hsz⟩ := hrel
    have eW : Ext w wr := Below.trans e1 (hb.mono (by omega))
    have c0' := (hb.cell (p := ⟨w.heap.size, 0, none⟩) (by simp)).trans c0
    have r0' := (hb.cell (p := ⟨w.heap.size + 1, 0, none⟩) (by show w.heap.size + 1 < w.heap.size + 2; omega)).trans r0
    have f0' := (hb.frozen (p := ⟨w.heap.size + 1, 0, none⟩) (by show w.heap.size + 1 < w.heap.size + 2; omega)).trans f0
    by_cases hlt : i < C
    · have hlen := HL.out i
      have Hown := Lib.hid own
      have Hbk := Lib.hid own.block
      have HSi := Lib.hid (HS.out i)
      have Hb := Lib.hid hb
      have HQi := Lib.hid (HQ.out i hlt)
      obtain ⟨al, nl, cl, rfl, -⟩ := own.shape
      generalize hst : hT i = st at *
      clear own hst hb
      go_wp2_with fail
      generalize hw2 : World.alloc _ _ = w2
      obtain ⟨e2, o2⟩ : Ext wr w2 ∧ OwnP (Value.int .i64) 2 wr.heap.size w2 (.slice (some ⟨wr.heap.size, 0, none⟩) 0 0) [] := by
        subst hw2
        exact ⟨Ext.alloc _ _, OwnP.empty (Nat.le_refl _)⟩
      clear hw2
      obtain ⟨wo, rfl⟩ : ∃ wo, wo = wr := ⟨_, rfl⟩
      have HSz : Hid (wo.heap.size < w2.heap.size) := (o2.block _ rfl).2
      go_loopw [7, 9, 19] (fun s7 _ s19 wr => ∃ k : Nat, k ≤ n ∧ s19 = .int .i64 k ∧ OwnP (Value.int .i64) 2 wo.heap.size wr s7 (colAt keys i k) ∧ Below wo.heap.size wo wr ∧ wo.heap.size < wr.heap.size) (fun _ _ s19 _ => n - (intOf s19).toNat)
      case atStart => exact ⟨0, Nat.zero_le _, rfl, o2, e2, HSz.out⟩
      case round =>
        obtain ⟨k, hk, rfl, own2, hb2, hs2⟩ := hrel
        have eWo : Ext w wr := eW.trans hb2
        have c0 := Ext.cell hb2 c0'
        have l2 := Ext.cell hb2 l1
        by_cases hltk : k < n
        · obtain ⟨b, off, rfl, a1, n1, k1, hn1, hm1, -, hc, -, hel⟩ := HT.out k hltk
          have hin : i < n1 := by rw [hn1, HR.out k hltk]; exact hlt
          obtain ⟨b1, o1', rfl, hx, hc1⟩ := hel i hin
          replace hc := hc _ eWo
          replace hc1 := hc1 _ eWo
          have HU := Lib.hid (colAt_succ (keys := keys) i (n := k) (by rw [← Hn.out]; exact hltk))
          have hle := colAt_len keys i k
          generalize (keys.getD k []).getD i 0 = x at *
          generalize hco : colAt keys i k = co at *
          clear hel hn1 hco
          go_wp2_with (at_builtin; (refine wpList_append1 (f := Value.int .i64) (e := 2) (B := wo.heap.size) (xs := co) rfl _ _ 41 rfl 0 8 Tryz.underlying41 Tryz.infoI64 rfl (fun _ => rfl) rfl own2 x rfl (by omega) (by omega) (by omega) ?_); intro v6 w6 hown6 hg6 hb6)
          go_roundw
          case rel => exact ⟨k + 1, by omega, by go_num, by rw [HU.out]; exact hown6, hb2.trans hb6, by have := hb6.size; omega⟩
          case measure => simp [intOf]; omega
        · have hkn : k = n := by omega
          have hco : colAt keys i k = keys.map fun r => r.getD i 0 := colAt_all keys i (by rw [hkn]; exact Hn.out)
          have hle := colAt_len keys i k
          rw [hco] at own2 hle
          clear hco
          generalize (keys.map fun r => r.getD i 0) = col at *
          have hS := SortInts_c wr _ wo.heap.size (by omega) col own2 (by omega)
          have Hn3 : Hid (∀ wq us, OwnP (Value.int .i64) 2 wo.heap.size wq us (col.mergeSort fun x y => decide (x ≤ y)) → wo.heap.size ≤ wq.heap.size → Calls Tryz.prog 155 #[us] wq (fun e w' => ∃ v', e = .returned v' ∧ OwnP (Value.int .i64) 2 wo.heap.size w' v' (setAt keys i D) ∧ Below wo.heap.size wq w')) := fun wq us ho hsz => by
            have := CompactInts_c wq us wo.heap.size hsz _ ho
            rw [HQi.out] at this
            exact this
          clear HQi
          generalize (col.mergeSort fun x y => decide (x ≤ y)) = srt at *
          obtain ⟨a7, n7, k7, rfl, -⟩ := own2.shape
          clear own2
          go_wp2_with fail
          refine Calls.mono hS ?_
          rintro e w3 ⟨rfl, o3, b3⟩
          clear hS
          have l3 := (b3.cell (p := ⟨w.heap.size + 1 + 1, 0, none⟩) (by show w.heap.size + 2 < wo.heap.size; omega)).trans l2
          have hb3 : Below wo.heap.size wo w3 := hb2.trans b3
          have hs3 := b3.size
          have HCp : Hid (∀ wq, Drew w3 wq → Calls Tryz.prog 155 #[.slice a7 n7 k7] wq (fun e w' => ∃ v', e = .returned v' ∧ OwnP (Value.int .i64) 2 wo.heap.size w' v' (setAt keys i D) ∧ Below wo.heap.size wo w')) := fun wq hd => by
            refine (Hn3.out wq _ (o3.ext (Ext.ofDrew hd)) (by rw [hd.size]; omega)).mono ?_
            rintro e w' ⟨v', q1, q2, q3⟩
            exact ⟨v', q1, q2, (hb3.trans (hd.below _)).trans q3⟩
          have HsM : Hid (∀ x ∈ setAt keys i D, I64 x) := fun x hx => by have := (setAt_mem.1 hx).1; unfold I64; omega
          have Hlen : Hid (st.length + 1 ≤ 1099511627776) := by show _ ≤ _; omega
          have HL3 : Hid (w.heap.size + 3 ≤ wo.heap.size) := hsz
          clear Hn3 o3
          generalize setAt keys i D = sa at *
          go_wp2_with fail
          go_region_law (first | (go_simp; go_at_call 155; refine (HCp.out _ (by exact (Drew.refl _).drew)).mono ?_; rintro e w7 ⟨u7, rfl, o7, b7⟩; obtain ⟨a7, n7, k7, rfl, -⟩ := o7.shape; have i7 := OwnP.ints o7 HsM.out (Nat.le_refl _); have l7 := (Below.cell (p := ⟨w.heap.size + 1 + 1, 0, none⟩) b7 (by show w.heap.size + 2 < wo.heap.size; have := HL3.out; omega)).trans l1; have z7 : w.heap.size + 1 + 1 < w7.heap.size := (by have q1 := b7.size; have q2 := HL3.out; omega)) | (refine step_append_of (by rfl) _ _ 30 (by rfl) (by rfl) (by rfl) (fun ty => run_appendRow (b := true) (L := w.heap.size + 3) (B := w.heap.size + 3) (e := 41) stable_ints slRepr_slice 30 ty Tryz.underlying30 Tryz.infoInts Hown.out b7 (u := (a7, n7, k7)) (y := sa) i7 rfl Hlen.out HL3.out HL3.out) ?_; intro v8 w8 h8; obtain ⟨a8, n8, k8, rfl, -⟩ := OwnA.shape h8.1; have c8 := (Below.cell (p := ⟨w.heap.size + 1 + 1, 0, none⟩) h8.2.1 (by show w.heap.size + 2 < w.heap.size + 3; omega)).trans l1; have f8 := (Below.frozen (p := ⟨w.heap.size + 1 + 1, 0, none⟩) h8.2.1 (by show w.heap.size + 2 < w.heap.size + 3; omega)).trans g1))
          all_goals
            have hn8 : (Value.slice a8 n8 k8).ownBlock ≠ some (w.heap.size + 1 + 1) := fun e => by have := (h8.1.block _ e).1; omega
            have own9 := OwnA.outside (w' := w8.setCell ⟨w.heap.size + 1 + 1, 0, none⟩ (.slice a8 n8 k8)) stable_ints h8.1 (g := w.heap.size + 1 + 1) (fun k _ hk => Below.heap_setCell _ _ _ _ hk) (by simp [World.setCell]) (by omega) hn8
            have c9 : (w8.setCell ⟨w.heap.size + 1 + 1, 0, none⟩ (.slice a8 n8 k8)).cell? ⟨w.heap.size + 1 + 1, 0, none⟩ = some (.slice a8 n8 k8) := World.cell?_setCell_same _ _ _ c8
            have f9 : (w8.setCell ⟨w.heap.size + 1 + 1, 0, none⟩ (.slice a8 n8 k8)).frozen? ⟨w.heap.size + 1 + 1, 0, none⟩ = false := by rw [World.frozen?_setCell]; exact f8
            have b9 : Below (w.heap.size + 2) w1 (w8.setCell ⟨w.heap.size + 1 + 1, 0, none⟩ (.slice a8 n8 k8)) := (Hb.out.trans (h8.2.1.mono (by omega))).setCell (by simp) _
            have z9 : w.heap.size + 3 ≤ (w8.setCell ⟨w.heap.size + 1 + 1, 0, none⟩ (.slice a8 n8 k8)).heap.size := by have := h8.2.1.size; simp only [World.setCell, Array.size_modify]; omega
            clear h8
            go_wp2_with fail
            go_roundw
            case rel => exact ⟨i + 1, _, by omega, by go_num, c9, by rw [HSi.out]; exact own9, b9, f9, z9⟩
            case measure => simp [intOf]; omega
    · have hiC : i = C := by omega
      obtain ⟨sa, sn, sc, rfl, -⟩ := own.shape
      have HO := Lib.hid own
      clear own
      go_wp2_with fail
      refine bodyPost_ret (v := .agg #[.slice sa sn sc]) (by simp [results, Tryz.results118, go_sem, r0']) rfl ⟨_, rfl, ⟨_, rfl, ?_⟩, ?_⟩
      · have h2 := HO.out.reads (Nat.le_refl _)
        rw [HH.out, ← hiC]
        have hw : Within ⟨w.heap.size + 1, w.heap.size + 2, true⟩ wr (wr.setCell ⟨w.heap.size + 1, 0, none⟩ (.slice sa sn sc)) := (Within.refl _ wr).setCell (p := ⟨w.heap.size + 1, 0, none⟩) ⟨by simp, by simp⟩ _
        refine stable_rows.sub (stable_rows.within h2 hw (fun k h1 h2 => by have q1 := h1.1; have q2 := h2.2; simp only at q1 q2; omega)) ⟨fun k hk => ⟨by have q1 := hk.1; simp only [Zone.new] at *; omega, by have q2 := hk.2; simp only [Zone.new, World.setCell, Array.size_modify] at *; omega⟩, fun _ => rfl⟩
      · exact eW.setCell (by simp) _

open Go.ChangeShapes Go.WideShapes Go.ChangeAt Go.RowKit
set_option linter.unusedVariables false

theorem rowsAt_front (t : List (List Int)) (d n : Nat) : ∀ T, n ≤ T → (rowsAt t d T).filter (fun k => decide (k < n)) = rowsAt t d n := by
  intro T
  induction T with
  | zero => intro h; obtain rfl : n = 0 := by omega
            rfl
  | succ T ih =>
    intro h
    by_cases e : n = T + 1
    · subst e
      rw [List.filter_eq_self]
      intro k hk
      exact decide_eq_true (rowsAt_lt hk)
    · rw [rowsAt_succ, List.filter_append, ih (by omega)]
      split
      · rw [List.filter_cons, decide_eq_false (by omega)]
        simp
      · simp
/-- the cuts of the first j of the rows that open a door -/
def keysTo (rs : List Nat) (cuts : List (List Int)) (j : Nat) : List (List Int) := ((rs.take j).filter fun k => decide (k < cuts.length)).map fun k => cuts.getD k []
theorem keysTo_succ {rs : List Nat} {cuts : List (List Int)} {j : Nat} (h : j < rs.length) : keysTo rs cuts (j+1) = keysTo rs cuts j ++ if rs.getD j 0 < cuts.length then [cuts.getD (rs.getD j 0) []] else [] := by
  unfold keysTo
  rw [List.take_add_one, List.getElem?_eq_getElem h, List.filter_append, List.map_append]
  have e : rs.getD j 0 = rs[j] := by simp [h]
  rw [e]
  congr 1
  by_cases hc : rs[j] < cuts.length
  · simp [hc]
  · simp [hc]
theorem keysTo_len (rs : List Nat) (cuts : List (List Int)) (j : Nat) : (keysTo rs cuts j).length ≤ j := by
  unfold keysTo
  rw [List.length_map]
  have := List.length_filter_le (fun k => decide (k < cuts.length)) (rs.take j)
  rw [List.length_take] at this
  omega
theorem keysTo_all {t cuts : List (List Int)} {d : Nat} (h : cuts.length ≤ t.length) : keysTo (rowsAt t d t.length) cuts (rowsAt t d t.length).length = keysAt t cuts d cuts.length := by
  unfold keysTo keysAt
  rw [List.take_length, rowsAt_front t d _ _ h]

set_option maxRecDepth 20000 in
set_option maxHeartbeats 2000000 in
theorem partLocks_c (w : World) (mk : MK) (v : Value) (z : Zone) (t : List (List Int)) (h : RowsR z w v t) (u : Value) (y : Zone) (cuts : List (List Int)) (hc : RowsR y w u cuts) (hok : PartOk mk t cuts) :
    Calls Tryz.prog 83 #[sysV mk v, u] w (Ret w fun r w' => LocksR (.new w w') w' r (locks mk t cuts)) := by
  have HR : Hid (∀ w', Ext w w' → ∀ d : Nat, d < doorsOf t → Calls Tryz.prog 60 #[sysV mk v, .int .i64 d] w' (Ret w' fun r w'' => OwnP (Value.int .i64) 2 w'.heap.size w'' r (rowsI t d t.length))) := fun w' e d hd => rowsFor_c w' mk v z t (stable_rows.ext h e) d (fun k hk => by rw [hok.row k hk]; exact hd) hok.len.2
  have HH : Hid (∀ w' d x, RowsR ⟨0, w'.heap.size, false⟩ w' x (keysAt t cuts d cuts.length) → Calls Tryz.prog 118 #[mk.v, x] w' (Ret w' (LockP (hull mk (keysAt t cuts d cuts.length)) w'))) := fun w' d x hx => hullOf_c w' mk hok.mk1 hok.mk2 x _ _ hx (fun r hr => hok.key r (keysAt_mem (Nat.le_refl _) hr)) (by have := keysAt_len t cuts d cuts.length; have := hok.le; have := hok.len; omega)
  have HKA : Hid (∀ d, keysTo (rowsAt t d t.length) cuts (rowsAt t d t.length).length = keysAt t cuts d cuts.length) := fun d => keysTo_all hok.le
  have HS := Lib.hid (fun n => locksTo_succ mk t cuts n)
  have HL := Lib.hid (fun n => locksTo_len mk t cuts n)
  have H0 : Hid (locksTo mk t cuts 0 = []) := rfl
  have HE : Hid (locks mk t cuts = locksTo mk t cuts (doorsOf t)) := rfl
  have hdr := hok.doors
  have hle1 := hok.len
  have hle2 := hok.le
  have Hl10 := Lib.hid (fun d => rowsAt_len t d t.length)
  generalize locks mk t cuts = res at *
  generalize locksTo mk t cuts = lT at *
  obtain ⟨a, n, cap, rfl, hn, hmax, -⟩ := SliceR.shape h
  obtain ⟨a2, n2, cap2, rfl, hn2, hmax2, -⟩ := SliceR.shape hc
  have HC := Lib.hid (fun (k : Nat) (hk : k < n2) => rows_at hc hk)
  have hn0 : 0 < n := by omega
  obtain ⟨b, off, rfl, a0, m, cp, hm0, hmm, -, hc0, -⟩ := rows_at h hn0
  have Hm : Hid (m = doorsOf t) := hm0
  have Hn2 := Lib.hid hn2
  have Hn : Hid (n = t.length) := hn
  have hm12 : m ≤ 12 := by have := Hm.out; omega
  have hn10 : n ≤ 10 := by omega
  have hn210 : n2 ≤ 10 := by omega
  clear hn hn2 h hc hok hdr hle1 hle2 hm0
  unfold sysV MK.v at *
  have h00 := hc0 w (Ext.refl _)
  rw [Nat.add_zero] at h00
  have hbl : b < w.heap.size := World.block_lt_of_cell? _ _ h00
  go_enter Tryz.func83, Tryz.ntmps83
  go_wp2_with fail
  generalize hw1 : World.alloc _ _ = w1
  obtain ⟨e1, S0, o1⟩ : Ext w w1 ∧ SysAt w1 w.heap.size mk (.slice (some ⟨b, off, none⟩) n cap) ∧ OwnR true (w.heap.size+1) RowsR 62 (w.heap.size+1) w1 (.slice (some ⟨w.heap.size + 1, 0, none⟩) 0 0) [] := by
    subst hw1
    obtain ⟨f1, f2⟩ := sys_box (w := w) (mk := mk) (u := .slice (some ⟨b, off, none⟩) n cap) (t := 32) rfl
    refine ⟨f1.trans (Ext.alloc _ _), f2.ext (Ext.alloc _ _), ?_⟩
    have := OwnR.empty (b := true) (L := w.heap.size + 1) (E := RowsR) (e := 62) (B := w.heap.size + 1) (w := w.alloc (.cells #[.int .i64 mk.c, .int .i64 mk.d, .int .i64 mk.s, .int .i64 mk.m, .int .i64 mk.l, .slice (some ⟨b, off, none⟩) n cap] 32)) (by simp)
    simpa using this
  have HI : Hid ((w.heap.size + 1 : Nat) < w1.heap.size) := (o1.block _ rfl).2
  clear hw1
  have HSy := Lib.hid S0
  obtain ⟨c0, c1, c2, c3, c4, c5⟩ := S0
  clear h00 hbl
  go_loopw [5, 6, 7, 9, 16] (fun s5 _ _ _ s16 wr => ∃ d : Nat, d ≤ m ∧ s16 = .int .i64 d ∧ OwnR true (w.heap.size+1) RowsR 62 (w.heap.size+1) wr s5 (lT d) ∧ Below (w.heap.size+1) w1 wr) (fun _ _ _ _ s16 _ => m - (intOf s16).toNat)
  case atStart => exact ⟨0, Nat.zero_le _, rfl, by rw [H0.out]; exact o1, Below.refl _ _⟩
  case round =>
    obtain ⟨d, hd, rfl, own, hb⟩ := hrel
    have hsz := hb.size
    have hI := HI.out
    have eW : Ext w wr := Below.trans e1 (hb.mono (by omega))
    have c0' := (hb.cell (p := ⟨w.heap.size, 0, none⟩) (by simp)).trans c0
    have c1' := (hb.cell (p := ⟨w.heap.size, 1, none⟩) (by simp)).trans c1
    have c2' := (hb.cell (p := ⟨w.heap.size, 2, none⟩) (by simp)).trans c2
    have c3' := (hb.cell (p := ⟨w.heap.size, 3, none⟩) (by simp)).trans c3
    have c4' := (hb.cell (p := ⟨w.heap.size, 4, none⟩) (by simp)).trans c4
    have c5' := (hb.cell (p := ⟨w.heap.size, 5, none⟩) (by simp)).trans c5
    have S1 : SysAt wr w.heap.size mk (.slice (some ⟨b, off, none⟩) n cap) := ⟨c0', c1', c2', c3', c4', c5'⟩
    have HS1 := Lib.hid S1
    clear S1
    by_cases hlt : d < m
    · have hlen := HL.out d
      have HSd := Lib.hid (HS.out d)
      have Hown := Lib.hid own
      have hbk := own.block
      have Hb := Lib.hid hb
      have HLT : Hid (d < doorsOf t) := by show _ < _; rw [← Hm.out]; exact hlt
      clear own hb
      have hlt0 : w.heap.size < wr.heap.size := by omega
      go_wp2_with fail
      generalize hw2 : World.alloc _ _ = w2
      obtain ⟨e2, o2⟩ : Ext wr w2 ∧ AliasR 41 wr.heap.size w2 (.slice (some ⟨wr.heap.size, 0, none⟩) 0 0) [] := by
        subst hw2
        exact ⟨Ext.alloc _ _, AliasR.empty (Nat.le_refl _)⟩
      have HSz : Hid (w2.heap.size = wr.heap.size + 1) := by show _ = _; rw [← hw2]; simp
      clear hw2
      obtain ⟨wo, rfl⟩ : ∃ wo, wo = wr := ⟨_, rfl⟩
      have hcall := HR.out w2 (eW.trans e2) d HLT.out
      refine Calls.mono hcall ?_
      rintro e w3 hr
      obtain ⟨r, rfl, o3, e3⟩ := ret_ext hr
      clear hr hcall
      have hsz3 := e3.size
      have eW3 := (eW.trans e2).trans e3
      have hs23 := HSz.out
      have hok3 := o3.block
      have o2' := AliasR.ext o2 e3
      have HKd := Lib.hid (HKA.out d)
      have H10 := Lib.hid (Hl10.out d)
      unfold rowsI at o3
      generalize hrs : rowsAt t d t.length = rs at *
      have HRS : Hid (∀ j, j < rs.length → ((rs.map fun (k : Nat) => (k : Int)).getD j 0) = ((rs.getD j 0 : Nat) : Int)) := fun j hj => by simp [hj]
      obtain ⟨ra, rn, rc, rfl, hrn, -⟩ := o3.shape
      rw [List.length_map] at hrn
      have Hrn := Lib.hid hrn
      have hrn10 : rn ≤ 10 := by have := Hrn.out; have := H10.out; have := Hn.out; omega
      have o3n : ∀ k, (Value.slice (some ⟨wo.heap.size, 0, none⟩) 0 0).ownBlock = some k → k < w2.heap.size := fun k hk => by
        have h1 : k = wo.heap.size := (Option.some.inj hk).symm
        omega
      clear hrs hrn hs23
      go_wp2_with fail
      go_loopw [7, 9, 24] (fun s7 _ s24 wr => ∃ j : Nat, j ≤ rn ∧ s24 = .int .i64 j ∧ AliasR 41 wo.heap.size wr s7 (keysTo rs cuts j) ∧ Below wo.heap.size wo wr ∧ OwnP (Value.int .i64) 2 w2.heap.size wr (.slice ra rn rc) (rs.map fun (k : Nat) => (k : Int)) ∧ (∀ k, s7.ownBlock = some k → (Value.slice ra rn rc).ownBlock ≠ some k) ∧ w3.heap.size ≤ wr.heap.size) (fun _ _ s24 _ => rn - (intOf s24).toNat)
      case atStart => exact ⟨0, Nat.zero_le _, rfl, o2', Below.trans e2 (Below.mono e3 (Ext.size e2)), o3, fun k hk e => by have := (hok3 k e).1; have := o3n k hk; omega, Nat.le_refl _⟩
      case round =>
        obtain ⟨j, hj, rfl, ownK, hbK, o4, hne, hs4⟩ := hrel
        have eW4 : Ext w wr := eW.trans hbK
        have hsK := hbK.size
        obtain ⟨c0, c1, c2, c3, c4, c5⟩ := HS1.out.all hbK
        by_cases hltj : j < rn
        · obtain ⟨g, rfl, hg1, hg2, hg3, hg4⟩ := OwnP.elem o4 0 j hltj
          rw [HRS.out j (by rw [← Hrn.out]; exact hltj)] at hg3
          have HU := Lib.hid (keysTo_succ (rs := rs) (cuts := cuts) (j := j) (by rw [← Hrn.out]; exact hltj))
          have hle := keysTo_len rs cuts j
          generalize rs.getD j 0 = key at *
          generalize hks : keysTo rs cuts j = ks at *
          clear hks
          by_cases hkc : key < n2
          · obtain ⟨b', off', rfl, a1', n1', k1', hn1', hm1', -, hc', ⟨yy, -, hy⟩, -⟩ := HC.out key hkc
            have hU := IntsR.free (hy w (Ext.refl _))
            have hUW := stable_ints.ext hU eW4
            replace hc' := hc' wr eW4
            have HV : Hid (keysTo rs cuts (j+1) = ks ++ [cuts.getD key []]) := by show _ = _; rw [HU.out, if_pos (by rw [← Hn2.out]; exact hkc)]
            clear hy hn1' HU hU
            generalize cuts.getD key [] = row at *
            go_wp2_with (at_builtin; (refine wpList_appendAlias (B := wo.heap.size) (xs := ks) (w0 := w) rfl _ _ 30 rfl Tryz.underlying30 Tryz.infoInts rfl ownK (a1', n1', k1') row hUW (by omega) rfl (by omega) (by omega) ?_); intro v6 w6 hown6 hb6 hg6 hat6)
            go_roundw
            case rel =>
              refine ⟨j + 1, by omega, by go_num, by rw [HV.out]; exact hown6, hbK.trans hb6, o4.kept hg6 ?_, ?_, by have := hb6.size; omega⟩
              · right; intro e; exact hne g e.symm rfl
              · intro k hk e
                rcases hat6 k hk with h | h
                · exact hne k h e
                · have h1 : g = k := Option.some.inj e
                  omega
            case measure => simp [intOf]; omega
          · have HV : Hid (keysTo rs cuts (j+1) = ks) := by show _ = _; rw [HU.out, if_neg (by rw [← Hn2.out]; exact hkc), List.append_nil]
            have hki : ¬ ((key : Int) < (n2 : Int)) := by omega
            clear HU
            go_wp2_with fail
            go_roundw
            case rel => exact ⟨j + 1, by omega, by go_num, by rw [HV.out]; exact ownK, hbK, o4, hne, hs4⟩
            case measure => simp [intOf]; omega
        · have hjr : j = rs.length := by have := Hrn.out; omega
          have hx := ownK.rows
          rw [hjr, HKd.out] at hx
          have hcall := HH.out wr d _ hx
          generalize hull mk (keysAt t cuts d cuts.length) = hl at *
          generalize hls : lT d = ls at *
          clear hls hx ownK o4 hne HH HKA HKd
          go_wp2_with fail
          refine Calls.mono hcall ?_
          rintro e w5 hr
          obtain ⟨r, rfl, ⟨x, rfl, hx⟩, e5⟩ := ret_ext hr
          clear hr hcall
          obtain ⟨xa, xn, xc, rfl, -⟩ := SliceR.shape hx
          have hx' := stable_rows.sub (z := .new wo w5) hx ⟨fun k hk => ⟨Nat.le_trans hsK hk.1, hk.2⟩, fun _ => rfl⟩
          go_wp2_with (at_builtin; (refine wpList_appendRow (E := RowsR) (L := w.heap.size + 1) (B := w.heap.size + 1) (xs := ls) stable_rows slRepr_slice rfl _ _ 56 rfl Tryz.underlying56 Tryz.infoLock rfl Hown.out (Ext.trans hbK e5) (xa, xn, xc) hl hx' rfl (by omega) (by omega) (by omega) ?_); intro v6 w6 hown6 hb6 hs6 hg6 hat6)
          go_roundw
          case rel => exact ⟨d + 1, by omega, by go_num, by rw [HSd.out]; exact hown6, Hb.out.trans hb6⟩
          case measure => simp [intOf]; omega
    · have hdm : d = doorsOf t := by have := Hm.out; omega
      go_wp2_with fail
      go_ret
      refine ⟨_, rfl, ?_, eW⟩
      rw [HE.out, ← hdm]
      exact stable_locks.sub (own.reads (Nat.le_refl _)) ⟨fun k hk => ⟨by have q1 := hk.1; simp only [Zone.new] at *; omega, hk.2⟩, fun _ => rfl⟩
end Go.Proofs.YthgmojggpjnckaaGreat
