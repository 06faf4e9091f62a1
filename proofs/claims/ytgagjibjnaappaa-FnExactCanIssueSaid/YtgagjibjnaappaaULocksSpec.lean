/- Proved: the locks of all doors, as the reference makes them. -/
import Derived.Test.YtgagjibjnaappaaChecked
import Derived.Test.YtgagjibjnaappaaULockSpec
namespace Go.Proofs.Ytgagjibjnaappaa
open Go.ChangeShapes Go.WideShapes Go.ChangeAt Go.RowKit
set_option linter.unusedVariables false

abbrev LocksR : Repr (List (List (List Int))) := SliceR RowsR
theorem stable_locks : Stable LocksR := stable_slice stable_rows
theorem Try.infoLock : (Try.prog.info? 69).map (fun i => (i.zero, i.size, i.bytes)) = some (some (.agg #[.slice none 0 0]), 1, 24) := by kernel_rfl
/-- cuts for the first rows of a system -/
structure PartOk (mk : MK) (t cuts : List (List Int)) : Prop extends SysOk mk t where
  le : cuts.length ≤ t.length
  key : ∀ r ∈ cuts, KeyOk mk r

set_option maxRecDepth 20000 in
set_option maxHeartbeats 2000000 in
theorem l15Locks_c (w : World) (mk : MK) (v : Value) (z : Zone) (t : List (List Int)) (h : RowsR z w v t) (u : Value) (y : Zone) (cuts : List (List Int)) (hc : RowsR y w u cuts) (hok : PartOk mk t cuts) :
    Calls Try.prog 56 #[sysV mk v, u] w (Ret w fun r w' => LocksR (.new w w') w' r (locks mk t cuts)) := by
  have HK : Hid (∀ w', Ext w w' → ∀ d : Nat, d < doorsOf t → Calls Try.prog 90 #[sysV mk v, u, .int .i64 d] w' (Ret w' (LockP (hull mk (keysAt t cuts d cuts.length)) w'))) := fun w' e d hd => l15Lock_c w' mk hok.mk1 hok.mk2 v z t (stable_rows.ext h e) u y cuts (stable_rows.ext hc e) hok.le hok.len.2 (fun r hr => (hok.key r hr).len) d (fun k hk => by rw [hok.row k hk]; exact hd)
  have HS := Lib.hid (fun n => locksTo_succ mk t cuts n)
  have HL := Lib.hid (fun n => locksTo_len mk t cuts n)
  have H0 : Hid (locksTo mk t cuts 0 = []) := rfl
  have HE : Hid (locks mk t cuts = locksTo mk t cuts (doorsOf t)) := rfl
  have hdr := hok.doors
  have hle1 := hok.len
  generalize locks mk t cuts = res at *
  generalize locksTo mk t cuts = lT at *
  obtain ⟨a, n, cap, rfl, hn, hmax, -⟩ := SliceR.shape h
  obtain ⟨a2, n2, cap2, rfl, hn2, hmax2, -⟩ := SliceR.shape hc
  have hn0 : 0 < n := by omega
  obtain ⟨b, off, rfl, a0, m, cp, hm0, hmm, -, hc0, -⟩ := rows_at h hn0
  have Hm : Hid (m = doorsOf t) := hm0
  have hm12 : m ≤ 12 := by have := Hm.out; omega
  clear hn hn2 h hc hok hdr hle1 hm0
  unfold sysV at *
  go_enter Try.func56, Try.ntmps56
  go_wp2_with fail
  generalize hw1 : World.alloc _ _ = w1
  obtain ⟨e1, S0, o1⟩ : Ext w w1 ∧ SysAt w1 w.heap.size mk (.slice (some ⟨b, off, none⟩) n cap) ∧ OwnR true (w.heap.size+1) RowsR 69 (w.heap.size+1) w1 (.slice (some ⟨w.heap.size + 1, 0, none⟩) 0 0) [] := by
    subst hw1
    obtain ⟨f1, f2⟩ := sys_box (w := w) (mk := mk) (u := .slice (some ⟨b, off, none⟩) n cap) (t := 34) rfl
    refine ⟨f1.trans (Ext.alloc _ _), f2.ext (Ext.alloc _ _), ?_⟩
    have := OwnR.empty (b := true) (L := w.heap.size + 1) (E := RowsR) (e := 69) (B := w.heap.size + 1) (w := w.alloc (.cells #[.int .i64 mk.c, .int .i64 mk.d, .int .i64 mk.s, .int .i64 mk.m, .int .i64 mk.l, .slice (some ⟨b, off, none⟩) n cap] 34)) (by simp)
    simpa using this
  have HI : Hid ((w.heap.size + 1 : Nat) < w1.heap.size) := (o1.block _ rfl).2
  clear hw1
  obtain ⟨c0, c1, c2, c3, c4, c5⟩ := S0
  go_loopw [5, 6] (fun s5 s6 wr => ∃ d : Nat, d ≤ m ∧ s6 = .int .i64 d ∧ OwnR true (w.heap.size+1) RowsR 69 (w.heap.size+1) wr s5 (lT d) ∧ Below (w.heap.size+1) w1 wr) (fun _ s6 _ => m - (intOf s6).toNat)
  case atStart => exact ⟨0, Nat.zero_le _, rfl, by rw [H0.out]; exact o1, Below.refl _ _⟩
  case round =>
    obtain ⟨d, hd, rfl, own, hb⟩ := hrel
    have hsz := hb.size
    have hI := HI.out
    have eW : Ext w wr := Below.trans e1 (hb.mono (by omega))
    have c0' := (hb.cell (p := ⟨w.heap.size, 0, none⟩) (by simp)).trans c0
    have c1' := (hb.cell (p := ⟨w.heap.size, 1, none⟩) (by simp)).trans c1
    have c2' := (hb.cell (p := ⟨w.heap.size, 2, none⟩) (by simp)).trans c2
    have c3' := (hb.cell (p := ⟨w.heap.size, 3, none⟩) (by simp)).trans c3
    have c4' := (hb.cell (p := ⟨w.heap.size, 4, none⟩) (by simp)).trans c4
    have c5' := (hb.cell (p := ⟨w.heap.size, 5, none⟩) (by simp)).trans c5
    have h0 := hc0 wr eW
    rw [Nat.add_zero] at h0
    by_cases hlt : d < m
    · have hlen := HL.out d
      have HSd := Lib.hid (HS.out d)
      have hcall := HK.out wr eW d (by rw [← Hm.out]; exact hlt)
      generalize hull mk (keysAt t cuts d cuts.length) = hl at *
      generalize hlt' : lT d = ls at *
      clear hlt'
      go_wp2_with fail
      refine Calls.mono hcall ?_
      rintro e w2 hr
      obtain ⟨r, rfl, ⟨x, rfl, hx⟩, e2⟩ := ret_ext hr
      clear hr hcall
      obtain ⟨xa, xn, xc, rfl, -⟩ := SliceR.shape hx
      go_wp2_with (at_builtin; (refine wpList_appendRow (E := RowsR) (L := w.heap.size + 1) (B := w.heap.size + 1) (xs := ls) stable_rows slRepr_slice rfl _ _ 66 rfl Try.underlying66 Try.infoLock rfl own e2 (xa, xn, xc) hl hx rfl (by omega) (by omega) (by omega) ?_); intro v6 w6 hown6 hb6 hs6 hg6 hat6)
      go_roundw
      case rel => exact ⟨d + 1, by omega, by go_num, by rw [HSd.out]; exact hown6, hb.trans hb6⟩
      case measure => simp [intOf]; omega
    · have hdm : d = doorsOf t := by have := Hm.out; omega
      go_wp2_with fail
      go_ret
      refine ⟨_, rfl, ?_, eW⟩
      rw [HE.out, ← hdm]
      exact stable_locks.sub (own.reads (Nat.le_refl _)) ⟨fun k hk => ⟨by have q1 := hk.1; simp only [Zone.new] at *; omega, hk.2⟩, fun _ => rfl⟩
end Go.Proofs.Ytgagjibjnaappaa
