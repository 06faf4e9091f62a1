/- Proved: the locks of all doors, as the program makes them. -/
import Derived.Test.YtgagjibjnaappaaChecked
import Derived.Test.YtgagjibjnaappaaULocksSpec
import Derived.Test.YtgagjibjnaappaaUHullImpl
namespace Go.Proofs.Ytgagjibjnaappaa
open Go.ChangeShapes Go.WideShapes Go.ChangeAt Go.RowKit
set_option linter.unusedVariables false

theorem rowsAt_front (t : List (List Int)) (d n : Nat) : ∀ T, n ≤ T → (rowsAt t d T).filter (fun k => decide (k < n)) = rowsAt t d n := by
  intro T
  induction T with
  | zero => intro h; obtain rfl : n = 0 := by omega
            rfl
  | succ T ih =>
    intro h
    by_cases e : n = T + 1
    · subst e
      rw [List.filter_eq_self]
      intro k hk
      exact decide_eq_true (rowsAt_lt hk)
    · rw [rowsAt_succ, List.filter_append, ih (by omega)]
      split
      · rw [List.filter_cons, decide_eq_false (by omega)]
        simp
      · simp
/-- the cuts of the first j of the rows that open a door -/
def keysTo (rs : List Nat) (cuts : List (List Int)) (j : Nat) : List (List Int) := ((rs.take j).filter fun k => decide (k < cuts.length)).map fun k => cuts.getD k []
theorem keysTo_succ {rs : List Nat} {cuts : List (List Int)} {j : Nat} (h : j < rs.length) : keysTo rs cuts (j+1) = keysTo rs cuts j ++ if rs.getD j 0 < cuts.length then [cuts.getD (rs.getD j 0) []] else [] := by
  unfold keysTo
  rw [List.take_add_one, List.getElem?_eq_getElem h, List.filter_append, List.map_append]
  have e : rs.getD j 0 = rs[j] := by simp [h]
  rw [e]
  congr 1
  by_cases hc : rs[j] < cuts.length
  · simp [hc]
  · simp [hc]
theorem keysTo_len (rs : List Nat) (cuts : List (List Int)) (j : Nat) : (keysTo rs cuts j).length ≤ j := by
  unfold keysTo
  rw [List.length_map]
  have := List.length_filter_le (fun k => decide (k < cuts.length)) (rs.take j)
  rw [List.length_take] at this
  omega
theorem keysTo_all {t cuts : List (List Int)} {d : Nat} (h : cuts.length ≤ t.length) : keysTo (rowsAt t d t.length) cuts (rowsAt t d t.length).length = keysAt t cuts d cuts.length := by
  unfold keysTo keysAt
  rw [List.take_length, rowsAt_front t d _ _ h]

set_option maxRecDepth 20000 in
set_option maxHeartbeats 2000000 in
theorem partLocks_c (w : World) (mk : MK) (v : Value) (z : Zone) (t : List (List Int)) (h : RowsR z w v t) (u : Value) (y : Zone) (cuts : List (List Int)) (hc : RowsR y w u cuts) (hok : PartOk mk t cuts) :
    Calls Try.prog 58 #[sysV mk v, u] w (Ret w fun r w' => LocksR (.new w w') w' r (locks mk t cuts)) := by
  have HR : Hid (∀ w', Ext w w' → ∀ d : Nat, d < doorsOf t → Calls Try.prog 92 #[sysV mk v, .int .i64 d] w' (Ret w' fun r w'' => OwnP (Value.int .i64) 2 w'.heap.size w'' r (rowsI t d t.length))) := fun w' e d hd => rowsFor_c w' mk v z t (stable_rows.ext h e) d (fun k hk => by rw [hok.row k hk]; exact hd) hok.len.2
  have HH : Hid (∀ w' d x, RowsR ⟨0, w'.heap.size, false⟩ w' x (keysAt t cuts d cuts.length) → Calls Try.prog 93 #[mk.v, x] w' (Ret w' (LockP (hull mk (keysAt t cuts d cuts.length)) w'))) := fun w' d x hx => hullOf_c w' mk hok.mk1 hok.mk2 x _ _ hx (fun r hr => hok.key r (keysAt_mem (Nat.le_refl _) hr)) (by have := keysAt_len t cuts d cuts.length; have := hok.le; have := hok.len; omega)
  have HKA : Hid (∀ d, keysTo (rowsAt t d t.length) cuts (rowsAt t d t.length).length = keysAt t cuts d cuts.length) := fun d => keysTo_all hok.le
  have HS := Lib.hid (fun n => locksTo_succ mk t cuts n)
  have HL := Lib.hid (fun n => locksTo_len mk t cuts n)
  have H0 : Hid (locksTo mk t cuts 0 = []) := rfl
  have HE : Hid (locks mk t cuts = locksTo mk t cuts (doorsOf t)) := rfl
  have hdr := hok.doors
  have hle1 := hok.len
  have hle2 := hok.le
  have Hl10 := Lib.hid (fun d => rowsAt_len t d t.length)
  generalize locks mk t cuts = res at *
  generalize locksTo mk t cuts = lT at *
  obtain ⟨a, n, cap, rfl, hn, hmax, -⟩ := SliceR.shape h
  obtain ⟨a2, n2, cap2, rfl, hn2, hmax2, -⟩ := SliceR.shape hc
  have HC := Lib.hid (fun (k : Nat) (hk : k < n2) => rows_at hc hk)
  have hn0 : 0 < n := by omega
  obtain ⟨b, off, rfl, a0, m, cp, hm0, hmm, -, hc0, -⟩ := rows_at h hn0
  have Hm : Hid (m = doorsOf t) := hm0
  have Hn2 := Lib.hid hn2
  have Hn : Hid (n = t.length) := hn
  have hm12 : m ≤ 12 := by have := Hm.out; omega
  have hn10 : n ≤ 10 := by omega
  have hn210 : n2 ≤ 10 := by omega
  clear hn hn2 h hc hok hdr hle1 hle2 hm0
  unfold sysV MK.v at *
  have h00 := hc0 w (Ext.refl _)
  rw [Nat.add_zero] at h00
  have hbl : b < w.heap.size := World.block_lt_of_cell? _ _ h00
  go_enter Try.func58, Try.ntmps58
  go_wp2_with fail
  generalize hw1 : World.alloc _ _ = w1
  obtain ⟨e1, S0, o1⟩ : Ext w w1 ∧ SysAt w1 w.heap.size mk (.slice (some ⟨b, off, none⟩) n cap) ∧ OwnR true (w.heap.size+1) RowsR 69 (w.heap.size+1) w1 (.slice (some ⟨w.heap.size + 1, 0, none⟩) 0 0) [] := by
    subst hw1
    obtain ⟨f1, f2⟩ := sys_box (w := w) (mk := mk) (u := .slice (some ⟨b, off, none⟩) n cap) (t := 34) rfl
    refine ⟨f1.trans (Ext.alloc _ _), f2.ext (Ext.alloc _ _), ?_⟩
    have := OwnR.empty (b := true) (L := w.heap.size + 1) (E := RowsR) (e := 69) (B := w.heap.size + 1) (w := w.alloc (.cells #[.int .i64 mk.c, .int .i64 mk.d, .int .i64 mk.s, .int .i64 mk.m, .int .i64 mk.l, .slice (some ⟨b, off, none⟩) n cap] 34)) (by simp)
    simpa using this
  have HI : Hid ((w.heap.size + 1 : Nat) < w1.heap.size) := (o1.block _ rfl).2
  clear hw1
  have HSy := Lib.hid S0
  obtain ⟨c0, c1, c2, c3, c4, c5⟩ := S0
  clear h00 hbl
  go_loopw [5, 6, 7, 9, 16] (fun s5 _ _ _ s16 wr => ∃ d : Nat, d ≤ m ∧ s16 = .int .i64 d ∧ OwnR true (w.heap.size+1) RowsR 69 (w.heap.size+1) wr s5 (lT d) ∧ Below (w.heap.size+1) w1 wr) (fun _ _ _ _ s16 _ => m - (intOf s16).toNat)
  case atStart => exact ⟨0, Nat.zero_le _, rfl, by rw [H0.out]; exact o1, Below.refl _ _⟩
  case round =>
    obtain ⟨d, hd, rfl, own, hb⟩ := hrel
    have hsz := hb.size
    have hI := HI.out
    have eW : Ext w wr := Below.trans e1 (hb.mono (by omega))
    have c0' := (hb.cell (p := ⟨w.heap.size, 0, none⟩) (by simp)).trans c0
    have c1' := (hb.cell (p := ⟨w.heap.size, 1, none⟩) (by simp)).trans c1
    have c2' := (hb.cell (p := ⟨w.heap.size, 2, none⟩) (by simp)).trans c2
    have c3' := (hb.cell (p := ⟨w.heap.size, 3, none⟩) (by simp)).trans c3
    have c4' := (hb.cell (p := ⟨w.heap.size, 4, none⟩) (by simp)).trans c4
    have c5' := (hb.cell (p := ⟨w.heap.size, 5, none⟩) (by simp)).trans c5
    have S1 : SysAt wr w.heap.size mk (.slice (some ⟨b, off, none⟩) n cap) := ⟨c0', c1', c2', c3', c4', c5'⟩
    have HS1 := Lib.hid S1
    clear S1
    by_cases hlt : d < m
    · have hlen := HL.out d
      have HSd := Lib.hid (HS.out d)
      have Hown := Lib.hid own
      have hbk := own.block
      have Hb := Lib.hid hb
      have HLT : Hid (d < doorsOf t) := by show _ < _; rw [← Hm.out]; exact hlt
      clear own hb
      have hlt0 : w.heap.size < wr.heap.size := by omega
      go_wp2_with fail
      generalize hw2 : World.alloc _ _ = w2
      obtain ⟨e2, o2⟩ : Ext wr w2 ∧ AliasR 27 wr.heap.size w2 (.slice (some ⟨wr.heap.size, 0, none⟩) 0 0) [] := by
        subst hw2
        exact ⟨Ext.alloc _ _, AliasR.empty (Nat.le_refl _)⟩
      have HSz : Hid (w2.heap.size = wr.heap.size + 1) := by show _ = _; rw [← hw2]; simp
      clear hw2
      obtain ⟨wo, rfl⟩ : ∃ wo, wo = wr := ⟨_, rfl⟩
      have hcall := HR.out w2 (eW.trans e2) d HLT.out
      refine Calls.mono hcall ?_
      rintro e w3 hr
      obtain ⟨r, rfl, o3, e3⟩ := ret_ext hr
      clear hr hcall
      have hsz3 := e3.size
      have eW3 := (eW.trans e2).trans e3
      have hs23 := HSz.out
      have hok3 := o3.block
      have o2' := AliasR.ext o2 e3
      have HKd := Lib.hid (HKA.out d)
      have H10 := Lib.hid (Hl10.out d)
      unfold rowsI at o3
      generalize hrs : rowsAt t d t.length = rs at *
      have HRS : Hid (∀ j, j < rs.length → ((rs.map fun (k : Nat) => (k : Int)).getD j 0) = ((rs.getD j 0 : Nat) : Int)) := fun j hj => by simp [hj]
      obtain ⟨ra, rn, rc, rfl, hrn, -⟩ := o3.shape
      rw [List.length_map] at hrn
      have Hrn := Lib.hid hrn
      have hrn10 : rn ≤ 10 := by have := Hrn.out; have := H10.out; have := Hn.out; omega
      have o3n : ∀ k, (Value.slice (some ⟨wo.heap.size, 0, none⟩) 0 0).ownBlock = some k → k < w2.heap.size := fun k hk => by
        have h1 : k = wo.heap.size := (Option.some.inj hk).symm
        omega
      clear hrs hrn hs23
      go_wp2_with fail
      go_loopw [7, 9, 24] (fun s7 _ s24 wr => ∃ j : Nat, j ≤ rn ∧ s24 = .int .i64 j ∧ AliasR 27 wo.heap.size wr s7 (keysTo rs cuts j) ∧ Below wo.heap.size wo wr ∧ OwnP (Value.int .i64) 2 w2.heap.size wr (.slice ra rn rc) (rs.map fun (k : Nat) => (k : Int)) ∧ (∀ k, s7.ownBlock = some k → (Value.slice ra rn rc).ownBlock ≠ some k) ∧ w3.heap.size ≤ wr.heap.size) (fun _ _ s24 _ => rn - (intOf s24).toNat)
      case atStart => exact ⟨0, Nat.zero_le _, rfl, o2', Below.trans e2 (Below.mono e3 (Ext.size e2)), o3, fun k hk e => by have := (hok3 k e).1; have := o3n k hk; omega, Nat.le_refl _⟩
      case round =>
        obtain ⟨j, hj, rfl, ownK, hbK, o4, hne, hs4⟩ := hrel
        have eW4 : Ext w wr := eW.trans hbK
        have hsK := hbK.size
        obtain ⟨c0, c1, c2, c3, c4, c5⟩ := HS1.out.all hbK
        by_cases hltj : j < rn
        · obtain ⟨g, rfl, hg1, hg2, hg3, hg4⟩ := OwnP.elem o4 0 j hltj
          rw [HRS.out j (by rw [← Hrn.out]; exact hltj)] at hg3
          have HU := Lib.hid (keysTo_succ (rs := rs) (cuts := cuts) (j := j) (by rw [← Hrn.out]; exact hltj))
          have hle := keysTo_len rs cuts j
          generalize rs.getD j 0 = key at *
          generalize hks : keysTo rs cuts j = ks at *
          clear hks
          by_cases hkc : key < n2
          · obtain ⟨b', off', rfl, a1', n1', k1', hn1', hm1', -, hc', ⟨yy, -, hy⟩, -⟩ := HC.out key hkc
            have hU := IntsR.free (hy w (Ext.refl _))
            have hUW := stable_ints.ext hU eW4
            replace hc' := hc' wr eW4
            have HV : Hid (keysTo rs cuts (j+1) = ks ++ [cuts.getD key []]) := by show _ = _; rw [HU.out, if_pos (by rw [← Hn2.out]; exact hkc)]
            clear hy hn1' HU hU
            generalize cuts.getD key [] = row at *
            go_wp2_with (at_builtin; (refine wpList_appendAlias (B := wo.heap.size) (xs := ks) (w0 := w) rfl _ _ 24 rfl Try.underlying24 Try.infoInts rfl ownK (a1', n1', k1') row hUW (by omega) rfl (by omega) (by omega) ?_); intro v6 w6 hown6 hb6 hg6 hat6)
            go_roundw
            case rel =>
              refine ⟨j + 1, by omega, by go_num, by rw [HV.out]; exact hown6, hbK.trans hb6, o4.kept hg6 ?_, ?_, by have := hb6.size; omega⟩
              · right; intro e; exact hne g e.symm rfl
              · intro k hk e
                rcases hat6 k hk with h | h
                · exact hne k h e
                · have h1 : g = k := Option.some.inj e
                  omega
            case measure => simp [intOf]; omega
          · have HV : Hid (keysTo rs cuts (j+1) = ks) := by show _ = _; rw [HU.out, if_neg (by rw [← Hn2.out]; exact hkc), List.append_nil]
            have hki : ¬ ((key : Int) < (n2 : Int)) := by omega
            clear HU
            go_wp2_with fail
            go_roundw
            case rel => exact ⟨j + 1, by omega, by go_num, by rw [HV.out]; exact ownK, hbK, o4, hne, hs4⟩
            case measure => simp [intOf]; omega
        · have hjr : j = rs.length := by have := Hrn.out; omega
          have hx := ownK.rows
          rw [hjr, HKd.out] at hx
          have hcall := HH.out wr d _ hx
          generalize hull mk (keysAt t cuts d cuts.length) = hl at *
          generalize hls : lT d = ls at *
          clear hls hx ownK o4 hne HH HKA HKd
          go_wp2_with fail
          refine Calls.mono hcall ?_
          rintro e w5 hr
          obtain ⟨r, rfl, ⟨x, rfl, hx⟩, e5⟩ := ret_ext hr
          clear hr hcall
          obtain ⟨xa, xn, xc, rfl, -⟩ := SliceR.shape hx
          have hx' := stable_rows.sub (z := .new wo w5) hx ⟨fun k hk => ⟨Nat.le_trans hsK hk.1, hk.2⟩, fun _ => rfl⟩
          go_wp2_with (at_builtin; (refine wpList_appendRow (E := RowsR) (L := w.heap.size + 1) (B := w.heap.size + 1) (xs := ls) stable_rows slRepr_slice rfl _ _ 66 rfl Try.underlying66 Try.infoLock rfl Hown.out (Ext.trans hbK e5) (xa, xn, xc) hl hx' rfl (by omega) (by omega) (by omega) ?_); intro v6 w6 hown6 hb6 hs6 hg6 hat6)
          go_roundw
          case rel => exact ⟨d + 1, by omega, by go_num, by rw [HSd.out]; exact hown6, Hb.out.trans hb6⟩
          case measure => simp [intOf]; omega
    · have hdm : d = doorsOf t := by have := Hm.out; omega
      go_wp2_with fail
      go_ret
      refine ⟨_, rfl, ?_, eW⟩
      rw [HE.out, ← hdm]
      exact stable_locks.sub (own.reads (Nat.le_refl _)) ⟨fun k hk => ⟨by have q1 := hk.1; simp only [Zone.new] at *; omega, hk.2⟩, fun _ => rfl⟩
end Go.Proofs.Ytgagjibjnaappaa
