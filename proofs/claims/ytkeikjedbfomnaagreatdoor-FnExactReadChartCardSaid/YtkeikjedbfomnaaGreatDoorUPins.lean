/- Proved: the pins of a lock, program and reference. -/
import Derived.Test.YtkeikjedbfomnaaGreatDoorChecked
import Derived.Deep.RegionLaw
import Derived.Deep.RegionHeld3
import Derived.Test.YtkeikjedbfomnaaGreatDoorULockOk
import Derived.Test.YtkeikjedbfomnaaGreatDoorUPkA
namespace Go.Proofs.YtkeikjedbfomnaaGreatDoor
open Go.ChangeShapes Go.WideShapes Go.ChangeAt Go.RowKit
set_option linter.unusedVariables false

def stackAt (set : List Int) (k : Nat) : Int := if k = 0 then set.getD 0 0 else set.getD k 0 - set.getD (k-1) 0
def stackTo (set : List Int) (n : Nat) : List Int := (List.range n).map (stackAt set)
def stackL (D : Int) (set : List Int) : List Int := stackTo set set.length ++ [D - 1 - set.getD (set.length - 1) 0]
theorem stackTo_succ (set : List Int) (n : Nat) : stackTo set (n+1) = stackTo set n ++ [stackAt set n] := by
  unfold stackTo; rw [List.range_succ, List.map_append]; rfl
theorem stackTo_len (set : List Int) (n : Nat) : (stackTo set n).length = n := by simp [stackTo]
/-- a set of a lock -/
structure SetOk (D : Int) (set : List Int) : Prop where
  ne : 1 ≤ set.length
  d8 : 2 ≤ D ∧ D ≤ 8
  ri : rising set D = true
theorem LockOk.set {mk : MK} {l : List (List Int)} (h : LockOk mk l) {i : Nat} (hi : i < l.length) : SetOk mk.d (l.getD i []) := by
  obtain ⟨h1, h2⟩ := h.row i hi
  exact ⟨h1, (isMaker_iff.1 h.maker).2.1, h2⟩
theorem SetOk.len {D : Int} {set : List Int} (h : SetOk D set) : set.length ≤ 8 := by
  have := rising_length h.ri
  have := h.d8
  omega
theorem SetOk.cut {D : Int} {set : List Int} (h : SetOk D set) {i : Nat} (hi : i < set.length) : 0 ≤ set.getD i 0 ∧ set.getD i 0 < D := by
  have := rising_ge h.ri i hi
  omega

set_option maxRecDepth 20000 in
set_option maxHeartbeats 1000000 in
theorem stackOf_c (w : World) (mk : MK) (v : Value) (z : Zone) (set : List Int) (h : IntsR z w v set) (hok : SetOk mk.d set) :
    Calls Tryz.prog 154 #[mk.v, v] w (Ret w fun r w' => OwnP (Value.int .i64) 2 w.heap.size w' r (stackL mk.d set)) := by
  have HA : Hid (∀ k, 0 < k → stackAt set k = set.getD k 0 - set.getD (k-1) 0) := fun k hk => by unfold stackAt; rw [if_neg (by omega)]
  have HS := Lib.hid (fun k => stackTo_succ set k)
  have HL := Lib.hid (fun k => stackTo_len set k)
  have H1 : Hid (stackTo set 1 = [set.getD 0 0]) := rfl
  have HE : Hid (stackL mk.d set = stackTo set set.length ++ [mk.d - 1 - set.getD (set.length - 1) 0]) := rfl
  have HC : Hid (∀ i, i < set.length → 0 ≤ set.getD i 0 ∧ set.getD i 0 < mk.d) := fun i hi => hok.cut hi
  have hd8 := hok.d8
  have hne := hok.ne
  have hl8 := hok.len
  generalize stackL mk.d set = res at *
  generalize stackTo set = sT at *
  obtain ⟨a, n, cap, rfl, hn, hmax, -⟩ := SliceR.shape h
  have HX := Lib.hid (fun (k : Nat) (hk : k < n) => ints_at h hk)
  rw [← hn] at hne hl8
  have Hn := Lib.hid hn
  obtain ⟨b, off, rfl, -, hc0⟩ := HX.out 0 (by omega)
  have hc00 := hc0 w (Ext.refl _)
  rw [Nat.add_zero] at hc00
  have hbl := World.block_lt_of_cell? _ _ hc00
  simp only at hbl
  have hn0 : 0 < n := hne
  clear hn h hok hc0
  unfold MK.v
  go_enter Tryz.func154, Tryz.ntmps154
  go_wp2_with fail
  generalize hwb : World.alloc w _ = wb
  obtain ⟨eb, Sb⟩ := mk_box hwb
  have hbs : wb.heap.size = w.heap.size + 1 := by rw [← hwb]; simp
  clear hwb
  generalize hw1 : World.alloc _ _ = w1
  obtain ⟨e1, o1⟩ : Ext wb w1 ∧ OwnP (Value.int .i64) 2 (w.heap.size+1) w1 (.slice (some ⟨w.heap.size + 1, 0, none⟩) 1 1) [set.getD 0 0] := by
    subst hw1
    refine ⟨Ext.alloc _ _, ?_⟩
    have := OwnP.one (f := Value.int .i64) (e := 2) (B := w.heap.size + 1) (w := wb) (by omega) (set.getD 0 0)
    rwa [hbs] at this
  have et1 := eb.trans e1
  have c1 := e1.cell Sb.2.1
  clear hw1 hbs Sb hbl hc00
  go_loopw [5, 6] (fun s5 s6 wr => ∃ k : Nat, 1 ≤ k ∧ k ≤ n ∧ s6 = .int .i64 k ∧ OwnP (Value.int .i64) 2 (w.heap.size+1) wr s5 (sT k) ∧ Below (w.heap.size+1) w1 wr) (fun _ s6 _ => n - (intOf s6).toNat)
  case atStart => exact ⟨1, Nat.le_refl _, hne, rfl, by rw [H1.out]; exact o1, Below.refl _ _⟩
  case round =>
    obtain ⟨k, hk1, hk, rfl, own, hb⟩ := hrel
    have hsz := hb.size
    have hI : w.heap.size + 1 < w1.heap.size := (o1.block _ rfl).2
    have eW : Ext w wr := Below.trans et1 (hb.mono (by omega))
    have c1' := (hb.cell (p := ⟨w.heap.size, 1, none⟩) (by simp)).trans c1
    have HO := Lib.hid own
    have hul := HL.out k
    by_cases hlt : k < n
    · obtain ⟨_, _, he, -, hc⟩ := HX.out k hlt
      injection he with he; injection he with he1 he2 _
      subst he1; subst he2
      obtain ⟨_, _, he, -, hcp⟩ := HX.out (k-1) (by omega)
      injection he with he; injection he with he1 he2 _
      subst he1; subst he2
      replace hc := hc wr eW
      replace hcp := hcp wr eW
      have q1 := HC.out k (by rw [← Hn.out]; exact hlt)
      have q2 := HC.out (k-1) (by rw [← Hn.out]; omega)
      have HSk : Hid (sT (k+1) = sT k ++ [set.getD k 0 - set.getD (k-1) 0]) := by show _ = _; rw [HS.out, HA.out k (by omega)]
      have hwk : IntKind.i64.wrap ((k : Int) - 1) = ((k - 1 : Nat) : Int) := by rw [IntWalk.i64_in _ (by omega)]; omega
      have hk1n : k - 1 < n := by omega
      have HE2 : Hid (w.heap.size + 1 ≤ wr.heap.size) := by show _ ≤ _; omega
      generalize set.getD k 0 = x at *
      generalize set.getD (k-1) 0 = y at *
      generalize hst : sT k = st at *
      have HLs : Hid (st.length + 1 ≤ 1099511627776) := by show _ ≤ _; omega
      have hwxy : IntKind.i64.wrap (x - y) = x - y := IntWalk.i64_in _ (by omega)
      clear hst own hul
      go_wp2_with fail
      go_region_law (first | (refine step_append_of (by rfl) _ _ 46 (by rfl) (by rfl) (by rfl) (fun ty => run_append1 (f := Value.int .i64) (e := 2) (B := w.heap.size + 1) 46 ty 0 8 Tryz.underlying46 Tryz.infoI64 rfl (fun _ => rfl) (OwnP.drewN HO.out 1) (x - y) rfl HLs.out (by decide) HE2.out) ?_; intro v8 w8 h8))
      all_goals
        have b8 : Below (w.heap.size + 1) w1 w8 := (hb.drewN 1).trans h8.2.2.1
        have o8 := h8.1
        clear h8
        go_wp2_with fail
        go_roundw
        case rel => exact ⟨k+1, by omega, by omega, by go_num, by rw [HSk.out]; exact o8, b8⟩
        case measure => simp [intOf]; omega
    · have hkn : k = n := by omega
      obtain ⟨_, _, he, -, hc⟩ := HX.out (n-1) (by omega)
      injection he with he; injection he with he1 he2 _
      subst he1; subst he2
      replace hc := hc wr eW
      have q1 := HC.out (n-1) (by rw [← Hn.out]; omega)
      have HR : Hid (res = sT k ++ [mk.d - 1 - set.getD (n-1) 0]) := by show _ = _; rw [HE.out, ← Hn.out, hkn]
      have hwn : IntKind.i64.wrap ((n : Int) - 1) = ((n - 1 : Nat) : Int) := by rw [IntWalk.i64_in _ (by omega)]; omega
      have hwd : IntKind.i64.wrap (mk.d - 1) = mk.d - 1 := IntWalk.i64_in _ (by omega)
      have hn1n : n - 1 < n := by omega
      have HE2 : Hid (w.heap.size + 1 ≤ wr.heap.size) := by show _ ≤ _; omega
      generalize set.getD (n-1) 0 = x at *
      generalize hst : sT k = st at *
      have HLs : Hid (st.length + 1 ≤ 1099511627776) := by show _ ≤ _; omega
      have hwxy : IntKind.i64.wrap (mk.d - 1 - x) = mk.d - 1 - x := IntWalk.i64_in _ (by omega)
      clear hst own hul hkn
      go_wp2_with fail
      go_region_law (first | (refine step_append_of (by rfl) _ _ 46 (by rfl) (by rfl) (by rfl) (fun ty => run_append1 (f := Value.int .i64) (e := 2) (B := w.heap.size + 1) 46 ty 0 8 Tryz.underlying46 Tryz.infoI64 rfl (fun _ => rfl) (OwnP.drewN HO.out 1) (mk.d - 1 - x) rfl HLs.out (by decide) HE2.out) ?_; intro v8 w8 h8))
      all_goals
        have b8 : Below (w.heap.size + 1) w1 w8 := (hb.drewN 1).trans h8.2.2.1
        have o8 := h8.1
        clear h8
        go_wp2_with fail
        go_ret
        exact ⟨_, rfl, by rw [HR.out]; exact o8.lower (Nat.le_succ _), Below.trans et1 (b8.mono (by omega))⟩

set_option maxRecDepth 20000 in
set_option maxHeartbeats 1000000 in
theorem l05Stack_c (w : World) (mk : MK) (v : Value) (z : Zone) (set : List Int) (h : IntsR z w v set) (hok : SetOk mk.d set) :
    Calls Tryz.prog 111 #[mk.v, v] w (Ret w fun r w' => OwnP (Value.int .i64) 2 w.heap.size w' r (stackL mk.d set)) := by
  have HA : Hid (∀ k, 0 < k → stackAt set k = set.getD k 0 - set.getD (k-1) 0) := fun k hk => by unfold stackAt; rw [if_neg (by omega)]
  have HS := Lib.hid (fun k => stackTo_succ set k)
  have HL := Lib.hid (fun k => stackTo_len set k)
  have H1 : Hid (stackTo set 1 = [set.getD 0 0]) := rfl
  have HE : Hid (stackL mk.d set = stackTo set set.length ++ [mk.d - 1 - set.getD (set.length - 1) 0]) := rfl
  have HC : Hid (∀ i, i < set.length → 0 ≤ set.getD i 0 ∧ set.getD i 0 < mk.d) := fun i hi => hok.cut hi
  have hd8 := hok.d8
  have hne := hok.ne
  have hl8 := hok.len
  generalize stackL mk.d set = res at *
  generalize stackTo set = sT at *
  obtain ⟨a, n, cap, rfl, hn, hmax, -⟩ := SliceR.shape h
  have HX := Lib.hid (fun (k : Nat) (hk : k < n) => ints_at h hk)
  rw [← hn] at hne hl8
  have Hn := Lib.hid hn
  obtain ⟨b, off, rfl, -, hc0⟩ := HX.out 0 (by omega)
  have hc00 := hc0 w (Ext.refl _)
  rw [Nat.add_zero] at hc00
  have hbl := World.block_lt_of_cell? _ _ hc00
  simp only at hbl
  have hn0 : 0 < n := hne
  clear hn h hok hc0
  unfold MK.v
  go_enter Tryz.func111, Tryz.ntmps111
  go_wp2_with fail
  generalize hwb : World.alloc w _ = wb
  obtain ⟨eb, Sb⟩ := mk_box hwb
  have hbs : wb.heap.size = w.heap.size + 1 := by rw [← hwb]; simp
  clear hwb
  generalize hw1 : World.alloc _ _ = w1
  obtain ⟨e1, o1⟩ : Ext wb w1 ∧ OwnP (Value.int .i64) 2 (w.heap.size+1) w1 (.slice (some ⟨w.heap.size + 1, 0, none⟩) 1 1) [set.getD 0 0] := by
    subst hw1
    refine ⟨Ext.alloc _ _, ?_⟩
    have := OwnP.one (f := Value.int .i64) (e := 2) (B := w.heap.size + 1) (w := wb) (by omega) (set.getD 0 0)
    rwa [hbs] at this
  have et1 := eb.trans e1
  have c1 := e1.cell Sb.2.1
  clear hw1 hbs Sb hbl hc00
  go_loopw [5, 6] (fun s5 s6 wr => ∃ k : Nat, 1 ≤ k ∧ k ≤ n ∧ s6 = .int .i64 k ∧ OwnP (Value.int .i64) 2 (w.heap.size+1) wr s5 (sT k) ∧ Below (w.heap.size+1) w1 wr) (fun _ s6 _ => n - (intOf s6).toNat)
  case atStart => exact ⟨1, Nat.le_refl _, hne, rfl, by rw [H1.out]; exact o1, Below.refl _ _⟩
  case round =>
    obtain ⟨k, hk1, hk, rfl, own, hb⟩ := hrel
    have hsz := hb.size
    have hI : w.heap.size + 1 < w1.heap.size := (o1.block _ rfl).2
    have eW : Ext w wr := Below.trans et1 (hb.mono (by omega))
    have c1' := (hb.cell (p := ⟨w.heap.size, 1, none⟩) (by simp)).trans c1
    have HO := Lib.hid own
    have hul := HL.out k
    by_cases hlt : k < n
    · obtain ⟨_, _, he, -, hc⟩ := HX.out k hlt
      injection he with he; injection he with he1 he2 _
      subst he1; subst he2
      obtain ⟨_, _, he, -, hcp⟩ := HX.out (k-1) (by omega)
      injection he with he; injection he with he1 he2 _
      subst he1; subst he2
      replace hc := hc wr eW
      replace hcp := hcp wr eW
      have q1 := HC.out k (by rw [← Hn.out]; exact hlt)
      have q2 := HC.out (k-1) (by rw [← Hn.out]; omega)
      have HSk : Hid (sT (k+1) = sT k ++ [set.getD k 0 - set.getD (k-1) 0]) := by show _ = _; rw [HS.out, HA.out k (by omega)]
      have hwk : IntKind.i64.wrap ((k : Int) - 1) = ((k - 1 : Nat) : Int) := by rw [IntWalk.i64_in _ (by omega)]; omega
      have hk1n : k - 1 < n := by omega
      have HE2 : Hid (w.heap.size + 1 ≤ wr.heap.size) := by show _ ≤ _; omega
      generalize set.getD k 0 = x at *
      generalize set.getD (k-1) 0 = y at *
      generalize hst : sT k = st at *
      have HLs : Hid (st.length + 1 ≤ 1099511627776) := by show _ ≤ _; omega
      have hwxy : IntKind.i64.wrap (x - y) = x - y := IntWalk.i64_in _ (by omega)
      clear hst own hul
      go_wp2_with fail
      go_region_law (first | (refine step_append_of (by rfl) _ _ 46 (by rfl) (by rfl) (by rfl) (fun ty => run_append1 (f := Value.int .i64) (e := 2) (B := w.heap.size + 1) 46 ty 0 8 Tryz.underlying46 Tryz.infoI64 rfl (fun _ => rfl) (OwnP.drewN HO.out 1) (x - y) rfl HLs.out (by decide) HE2.out) ?_; intro v8 w8 h8))
      all_goals
        have b8 : Below (w.heap.size + 1) w1 w8 := (hb.drewN 1).trans h8.2.2.1
        have o8 := h8.1
        clear h8
        go_wp2_with fail
        go_roundw
        case rel => exact ⟨k+1, by omega, by omega, by go_num, by rw [HSk.out]; exact o8, b8⟩
        case measure => simp [intOf]; omega
    · have hkn : k = n := by omega
      obtain ⟨_, _, he, -, hc⟩ := HX.out (n-1) (by omega)
      injection he with he; injection he with he1 he2 _
      subst he1; subst he2
      replace hc := hc wr eW
      have q1 := HC.out (n-1) (by rw [← Hn.out]; omega)
      have HR : Hid (res = sT k ++ [mk.d - 1 - set.getD (n-1) 0]) := by show _ = _; rw [HE.out, ← Hn.out, hkn]
      have hwn : IntKind.i64.wrap ((n : Int) - 1) = ((n - 1 : Nat) : Int) := by rw [IntWalk.i64_in _ (by omega)]; omega
      have hwd : IntKind.i64.wrap (mk.d - 1) = mk.d - 1 := IntWalk.i64_in _ (by omega)
      have hn1n : n - 1 < n := by omega
      have HE2 : Hid (w.heap.size + 1 ≤ wr.heap.size) := by show _ ≤ _; omega
      generalize set.getD (n-1) 0 = x at *
      generalize hst : sT k = st at *
      have HLs : Hid (st.length + 1 ≤ 1099511627776) := by show _ ≤ _; omega
      have hwxy : IntKind.i64.wrap (mk.d - 1 - x) = mk.d - 1 - x := IntWalk.i64_in _ (by omega)
      clear hst own hul hkn
      go_wp2_with fail
      go_region_law (first | (refine step_append_of (by rfl) _ _ 46 (by rfl) (by rfl) (by rfl) (fun ty => run_append1 (f := Value.int .i64) (e := 2) (B := w.heap.size + 1) 46 ty 0 8 Tryz.underlying46 Tryz.infoI64 rfl (fun _ => rfl) (OwnP.drewN HO.out 1) (mk.d - 1 - x) rfl HLs.out (by decide) HE2.out) ?_; intro v8 w8 h8))
      all_goals
        have b8 : Below (w.heap.size + 1) w1 w8 := (hb.drewN 1).trans h8.2.2.1
        have o8 := h8.1
        clear h8
        go_wp2_with fail
        go_ret
        exact ⟨_, rfl, by rw [HR.out]; exact o8.lower (Nat.le_succ _), Below.trans et1 (b8.mono (by omega))⟩
end Go.Proofs.YtkeikjedbfomnaaGreatDoor
