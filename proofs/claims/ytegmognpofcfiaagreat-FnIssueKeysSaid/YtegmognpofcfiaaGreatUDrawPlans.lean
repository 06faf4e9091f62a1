/- Proved: the draws of a plan and its access table. -/
import Derived.Test.YtegmognpofcfiaaGreatChecked
import Derived.Deep.RegionHeld3
import Derived.Deep.Cut
import Derived.Test.YtegmognpofcfiaaGreatUDrawBld
import Derived.Test.YtegmognpofcfiaaGreatUPkA
namespace Go.Proofs.YtegmognpofcfiaaGreat
open Go.ChangeShapes Go.WideShapes Go.ChangeAt Go.RowKit
set_option linter.unusedVariables false

theorem intsAt {w : World} {a : Option Addr} {n cap : Nat} {z : Zone} {t : List Int} (h : IntsR z w (.slice a n cap) t) {k : Nat} (hk : k < n) :
    ∃ b off, a = some ⟨b, off, none⟩ ∧ I64 (t.getD k 0) ∧ ∀ w', Ext w w' → w'.cell? ⟨b, off + k, none⟩ = some (.int .i64 (t.getD k 0)) := by
  obtain ⟨a', n', c', he, hn, hmax, -, -, -, hel⟩ := IntsR.shape h
  injection he with e1 e2 e3
  subst e1; subst e2; subst e3
  obtain ⟨b, off, rfl, hc, hi, -⟩ := hel k hk
  exact ⟨b, off, rfl, hi, fun w' e => e.cell hc⟩

theorem rows_at' {w : World} {a : Option Addr} {n cap : Nat} {z : Zone} {t : List (List Int)} (h : RowsR z w (.slice a n cap) t) {k : Nat} (hk : k < n) :
    ∃ b off, a = some ⟨b, off, none⟩ ∧ ∃ a1 n1 c1, (∀ w', Ext w w' → w'.cell? ⟨b, off + k, none⟩ = some (.slice a1 n1 c1)) ∧ ∃ y : Zone, ∀ w', Ext w w' → IntsR y w' (.slice a1 n1 c1) (t.getD k []) := by
  obtain ⟨a', n', c', he, hn, -, -, -, -, hel⟩ := SliceR.shape h
  injection he with e1 e2 e3
  subst e1; subst e2; subst e3
  have hk' : k < t.length := by omega
  obtain ⟨b, off, rfl, -, -, -, u, y, hc, -, -, hE⟩ := hel k hk'
  obtain ⟨a1, n1, c1, rfl, -⟩ := SliceR.shape hE
  have e : t.getD k [] = t[k] := by simp [hk']
  exact ⟨b, off, rfl, a1, n1, c1, fun w' e => e.cell hc, y, fun w' e' => by rw [e]; exact stable_ints.ext hE e'⟩
theorem bools_at {z : Zone} {w : World} {a : Option Addr} {n c : Nat} {ds : List Bool} (h : BoolsR z w (.slice a n c) ds) {k : Nat} (hk : k < n) : ∃ b off, a = some ⟨b, off, none⟩ ∧ ∀ w', Ext w w' → w'.cell? ⟨b, off + k, none⟩ = some (.bool (ds.getD k false)) := by
  obtain ⟨a', n', c', he, hn, -, -, -, -, hel⟩ := SliceR.shape h
  injection he with e1 e2 e3
  subst e1; subst e2; subst e3
  have hk' : k < ds.length := by omega
  obtain ⟨b, off, rfl, -, -, -, u, y, hc, -, -, hE⟩ := hel k hk'
  have e : ds.getD k false = ds[k] := by simp [hk']
  rw [e]
  have hu : u = .bool ds[k] := hE
  subst hu
  exact ⟨b, off, rfl, fun w' e' => e'.cell hc⟩

def UnderR (node other : Int) (r : Value) (_ : World) : Prop := ∃ b, r = .bool b ∧ (other = 0 → 0 ≤ node → b = true)
def DoorsR (w : World) (n : Nat) (r : Value) (w' : World) : Prop := ∃ l : List Int, OwnP (Value.int .i64) 2 w.heap.size w' r l ∧ 1 ≤ l.length ∧ l.length ≤ 10 ∧ ∀ x ∈ l, 0 ≤ x ∧ x < n

set_option maxRecDepth 20000 in
set_option maxHeartbeats 1000000 in
theorem l09Under_c (w : World) (up ud : Value) (z : Zone) (ps : List Int) (ds : List Bool) (hB : BldOk ps ds) (hp : IntsR z w up ps) (node other : Int) (hn : -1 ≤ node ∧ node < ps.length) :
    Calls Tryz.prog 284 #[.agg #[up, ud], .int .i64 node, .int .i64 other] w (Ret w (UnderR node other)) := by
  obtain ⟨a, n, cap, rfl, hnl, -⟩ := SliceR.shape hp
  have HX := Lib.hid (fun (k : Nat) (hk : k < n) => intsAt hp hk)
  have HP : Hid (∀ k : Nat, k < n → -1 ≤ ps.getD k 0 ∧ ps.getD k 0 < k ∧ (1 ≤ k → 0 ≤ ps.getD k 0)) := fun k hk => by
    rcases Nat.eq_zero_or_pos k with q | q
    · subst q; rw [hB.root]; omega
    · have := hB.par k q (by omega); omega
  rw [← hnl] at hn
  have hn10 : n ≤ 10 := by have := hB.hi; omega
  obtain ⟨hn1, hn2⟩ := hn
  clear hnl hp hB
  go_enter Tryz.func284, Tryz.ntmps284
  go_wp2_with fail
  generalize hw0 : World.alloc _ _ = w0
  obtain ⟨e0, c0⟩ : Ext w w0 ∧ w0.cell? ⟨w.heap.size, 0, none⟩ = some (.slice a n cap) := by subst hw0; exact ⟨Ext.alloc _ _, by simp⟩
  clear hw0
  go_loopw [1] (fun s1 wr => ∃ nd : Int, s1 = .int .i64 nd ∧ -1 ≤ nd ∧ nd < n ∧ (other = 0 → 0 ≤ node → 0 ≤ nd) ∧ Drew w0 wr) (fun s1 _ => (intOf s1 + 1).toNat)
  case atStart => exact ⟨node, rfl, hn1, hn2, fun _ h => h, Drew.refl _⟩
  case round =>
    obtain ⟨nd, rfl, h1, h2, hz, hd⟩ := hrel
    have HZ := Lib.hid hz
    clear hz
    have et := e0.trans (Ext.ofDrew hd)
    have c0' := (hd.cell _).trans c0
    by_cases hnd : 0 ≤ nd
    · obtain ⟨k, rfl⟩ : ∃ k : Nat, nd = k := ⟨nd.toNat, by omega⟩
      have hkn : k < n := by omega
      by_cases he : (k : Int) = other
      · have hb : ((k : Int) == other) = true := by simpa using he
        clear he
        go_wp2_with fail
        go_ret
        exact ⟨.bool true, rfl, ⟨true, rfl, fun _ _ => rfl⟩, et⟩
      · have hb : ((k : Int) == other) = false := by simpa using he
        obtain ⟨b, off, rfl, -, hcx⟩ := HX.out k hkn
        replace hcx := hcx wr et
        obtain ⟨p1, p2, p3⟩ := HP.out k hkn
        have HZ' : Hid (other = 0 → 0 ≤ node → 0 ≤ ps.getD k 0) := fun ho hnn => p3 (by omega)
        generalize ps.getD k 0 = p at *
        clear he p3
        go_wp2_with fail
        go_roundw
        case rel => exact ⟨p, rfl, p1, by omega, HZ'.out, hd⟩
        case measure => simp [intOf]; omega
    · have HF : Hid (other = 0 → 0 ≤ node → (false : Bool) = true) := fun ho hnn => absurd (HZ.out ho hnn) hnd
      go_wp2_with fail
      go_ret
      exact ⟨.bool false, rfl, ⟨false, rfl, HF.out⟩, et⟩

set_option maxRecDepth 20000 in
set_option maxHeartbeats 2000000 in
/-- the doors under the root: some, at least one -/
theorem l09Doors_c (w : World) (up ud : Value) (z z2 : Zone) (ps : List Int) (ds : List Bool) (hB : BldOk ps ds) (hp : IntsR z w up ps) (hds : BoolsR z2 w ud ds) :
    Calls Tryz.prog 274 #[.agg #[up, ud], .int .i64 0] w (Ret w (DoorsR w ps.length)) := by
  have hlen := hB.len
  have hlo := hB.lo
  have hhi := hB.hi
  have hla := hB.last
  obtain ⟨a, n, cap, rfl, hnl, -⟩ := SliceR.shape hp
  obtain ⟨a2, n2, cap2, rfl, hnl2, -⟩ := SliceR.shape hds
  have hn2 : n2 = n := by omega
  subst hn2
  have HX := Lib.hid (fun (k : Nat) (hk : k < n2) => bools_at hds hk)
  have HU := Lib.hid (fun (w' : World) (e : Ext w w') (node : Int) (hn : -1 ≤ node ∧ node < ps.length) => l09Under_c w' _ (.slice a2 n2 cap2) z ps ds hB (stable_ints.ext hp e) node 0 hn)
  rw [← hnl] at hlo hhi hla
  have Hla : Hid (∀ i, i + 1 = n2 → ds.getD i false = true) := fun i hi => by rw [show i = n2 - 1 by omega]; exact hla
  have Hnl := Lib.hid hnl
  clear hp hds hB hnl hnl2 hla hlen
  go_enter Tryz.func274, Tryz.ntmps274
  go_wp2_with fail
  generalize hw0 : World.alloc (World.alloc _ _) _ = w0
  obtain ⟨e0, c0, c1, o0⟩ : Ext w w0 ∧ w0.cell? ⟨w.heap.size, 0, none⟩ = some (.slice a n2 cap) ∧ w0.cell? ⟨w.heap.size, 1, none⟩ = some (.slice a2 n2 cap2) ∧ OwnP (Value.int .i64) 2 (w.heap.size + 1) w0 (.slice (some ⟨w.heap.size + 1, 0, none⟩) 0 0) [] := by
    subst hw0
    refine ⟨(Ext.alloc _ _).trans (Ext.alloc _ _), by simp, by simp, ?_⟩
    have := OwnP.empty (f := Value.int .i64) (e := 2) (B := w.heap.size + 1) (w := w.alloc (.cells #[.slice a n2 cap, .slice a2 n2 cap2] 201)) (by simp)
    rw [World.size_alloc] at this
    exact this
  have z0 : w.heap.size + 1 ≤ w0.heap.size := World.block_lt_of_cell? _ _ c0
  clear hw0
  go_loopw [5, 6] (fun s5 s6 wr => ∃ (i : Nat) (l : List Int), s6 = .int .i64 i ∧ i ≤ n2 ∧ l.length ≤ i ∧ (i = n2 → 1 ≤ l.length) ∧ OwnP (Value.int .i64) 2 (w.heap.size + 1) wr s5 l ∧ (∀ x ∈ l, 0 ≤ x ∧ x < n2) ∧ Below (w.heap.size + 1) w0 wr) (fun _ s6 _ => n2 - (intOf s6).toNat)
  case atStart => exact ⟨0, [], rfl, Nat.zero_le _, by simp, fun h => by omega, o0, by simp, Below.refl _ _⟩
  case round =>
    obtain ⟨i, l, rfl, hi, hli, hl1, ho, hlx, hb⟩ := hrel
    have etw : Ext w wr := Below.trans e0 (hb.mono (Nat.le_succ _))
    have c0' := hb.cell (p := ⟨w.heap.size, 0, none⟩) (Nat.lt_succ_self _) |>.trans c0
    have c1' := hb.cell (p := ⟨w.heap.size, 1, none⟩) (Nat.lt_succ_self _) |>.trans c1
    obtain ⟨a5, n5, c5, rfl, -⟩ := OwnP.shape ho
    have HO := Lib.hid ho
    have HL := Lib.hid hlx
    have HL1 := Lib.hid hl1
    have hzr := hb.size
    have hzw : w.heap.size + 1 ≤ wr.heap.size := by omega
    clear ho hlx hl1 o0
    by_cases hlt : i < n2
    · obtain ⟨b, off, rfl, hcx⟩ := HX.out i hlt
      replace hcx := hcx wr etw
      have HLi : Hid (i + 1 = n2 → ds.getD i false = true) := fun h => Hla.out i h
      cases hdi : ds.getD i false with
      | false =>
        rw [hdi] at hcx
        have HN : Hid (i + 1 = n2 → 1 ≤ l.length) := fun h => by have := HLi.out h; rw [hdi] at this; cases this
        clear hdi
        go_wp2_with fail
        go_roundw
        case rel => exact ⟨i + 1, l, by go_num, by omega, by omega, HN.out, HO.out, HL.out, hb⟩
        case measure => simp [intOf]; omega
      | true =>
        rw [hdi] at hcx
        clear hdi
        have hcall := HU.out wr etw i (by rw [← Hnl.out]; omega)
        go_wp2_with fail
        refine Calls.mono hcall ?_
        rintro e w2 hr
        obtain ⟨r, rfl, ⟨q, rfl, hq⟩, e2⟩ := ret_ext hr
        obtain rfl := hq (by trivial) (by omega)
        clear hr hcall hq
        have ho2 := HO.out.ext e2
        have HO2 := Lib.hid ho2
        have hz2 : w.heap.size + 1 ≤ w2.heap.size := by have := e2.size; omega
        have HLl : Hid (l.length + 1 ≤ 1099511627776) := by show _ ≤ _; omega
        have HBe := Lib.hid (hb.trans (Below.mono e2 hzw))
        go_wp2_with (at_builtin; (refine wpList_append1X (f := Value.int .i64) (e := 2) (B := w.heap.size + 1) (xs := l) rfl _ _ 29 rfl 0 8 Tryz.underlying29 Tryz.infoI64 rfl (fun _ => rfl) rfl HO2.out (i : Int) rfl HLl.out (by omega) hz2 ?_); intro v8 w8 hown8 hg8 hb8 hat8; have HO8 := Lib.hid hown8; have HB8 := Lib.hid (HBe.out.trans hb8); clear hown8 hg8 hb8 hat8)
        go_roundw
        case rel => exact ⟨i + 1, l ++ [(i : Int)], by go_num, by omega, by rw [List.length_append, List.length_singleton]; omega, fun _ => by simp, HO8.out, fun x hx => by
          rcases List.mem_append.1 hx with hx | hx
          · exact HL.out x hx
          · rw [List.mem_singleton.1 hx]; omega, HB8.out⟩
        case measure => simp [intOf]; omega
    · have hie : i = n2 := by omega
      have H1 := HL1.out hie
      have HR : Hid (OwnP (Value.int .i64) 2 w.heap.size wr (.slice a5 n5 c5) l) := HO.out.lower (Nat.le_succ _)
      have HX2 : Hid (∀ x ∈ l, 0 ≤ x ∧ x < ps.length) := fun x hx => by have := HL.out x hx; rw [← Hnl.out]; exact this
      clear hie
      go_wp2_with fail
      go_ret
      exact ⟨_, rfl, ⟨l, HR.out, H1, by omega, HX2.out⟩, etw⟩

def SomeBool (r : Value) (_ : World) : Prop := ∃ b, r = .bool b
set_option maxRecDepth 20000 in
set_option maxHeartbeats 2000000 in
theorem l10May_c (w : World) (up ud : Value) (z zn z2 : Zone) (ps : List Int) (ds : List Bool) (hB : BldOk ps ds) (hp : IntsR z w up ps) (hds : BoolsR z2 w ud ds) (un : Value) (ns : List Int) (hns : IntsR zn w un ns) (door : Int) (hdo : -1 ≤ door ∧ door < ps.length) :
    Calls Tryz.prog 275 #[.agg #[up, ud], un, .int .i64 door] w (Ret w SomeBool) := by
  have HU := Lib.hid (fun (w' : World) (e : Ext w w') (other : Int) => l09Under_c w' up ud z ps ds hB (stable_ints.ext hp e) door other hdo)
  obtain ⟨a1, n1, c1, rfl, -⟩ := SliceR.shape hp
  obtain ⟨a2, n2, c2, rfl, -⟩ := SliceR.shape hds
  obtain ⟨a, n, cap, rfl, hnl, hmax, -⟩ := SliceR.shape hns
  have HX := Lib.hid (fun (k : Nat) (hk : k < n) => intsAt hns hk)
  clear hp hds hns hB hnl
  go_enter Tryz.func275, Tryz.ntmps275
  go_wp2_with fail
  generalize hw0 : World.alloc _ _ = w0
  obtain ⟨e0, HC⟩ : Ext w w0 ∧ Hid (∀ w', Ext w0 w' → w'.cell? ⟨w.heap.size, 0, none⟩ = some (.slice a1 n1 c1) ∧ w'.cell? ⟨w.heap.size, 1, none⟩ = some (.slice a2 n2 c2)) := by
    subst hw0
    exact ⟨Ext.alloc _ _, fun w' e => ⟨e.cell (by simp), e.cell (by simp)⟩⟩
  clear hw0
  go_loopw [7] (fun s7 wr => ∃ k : Nat, k ≤ n ∧ s7 = .int .i64 k ∧ Ext w0 wr) (fun s7 _ => n - (intOf s7).toNat)
  case atStart => exact ⟨0, Nat.zero_le _, rfl, Ext.refl _⟩
  case round =>
    obtain ⟨k, hk, rfl, ew⟩ := hrel
    have et := e0.trans ew
    by_cases hlt : k < n
    · obtain ⟨b, off, rfl, -, hcx⟩ := HX.out k hlt
      have HCel : Hid (∀ w', Ext wr w' → w'.cell? ⟨w.heap.size, 0, none⟩ = some (.slice a1 n1 c1) ∧ w'.cell? ⟨w.heap.size, 1, none⟩ = some (.slice a2 n2 c2) ∧ w'.cell? ⟨b, off + k, none⟩ = some (.int .i64 (ns.getD k 0))) := fun w' e => ⟨(HC.out w' (ew.trans e)).1, (HC.out w' (ew.trans e)).2, hcx w' (et.trans e)⟩
      generalize ns.getD k 0 = p at *
      have hk0 : (0 : Int) ≤ (k : Int) := by omega
      have hkn : (k : Int) < (n : Int) := by omega
      clear hcx
      go_wp2_with fail
      first | (go_region_held3 (fun w' => w'.cell? ⟨w.heap.size, 0, none⟩ = some (.slice a1 n1 c1) ∧ w'.cell? ⟨w.heap.size, 1, none⟩ = some (.slice a2 n2 c2) ∧ w'.cell? ⟨b, off + k, none⟩ = some (.int .i64 p)) (exact HCel.out _ (by repeat (first | exact Ext.refl _ | assumption | (refine Ext.trans ?_ (Ext.alloc _ _)) | (refine Ext.trans ?_ (Ext.drew _)) | (refine Ext.trans ?_ (by assumption))))) (first | (go_at_call 284; (with_reducible refine (HU.out _ (by repeat (first | exact Ext.refl _ | assumption | (refine Ext.trans ?_ (Ext.alloc _ _)) | (refine Ext.trans ?_ (Ext.drew _)) | (refine Ext.trans ?_ (by assumption)))) p).mono ?_); rintro e w7 hr7; obtain ⟨r7, rfl, ⟨q, rfl, -⟩, e7⟩ := ret_ext hr7; clear hr7) | fail)) | fail
      have e77 : Ext wr w7 := (by repeat (first | exact Ext.refl _ | assumption | (refine Ext.trans ?_ (Ext.alloc _ _)) | (refine Ext.trans ?_ (Ext.drew _)) | (refine Ext.trans ?_ (by assumption))))
      cases q with
      | true =>
        go_wp2_with fail
        go_ret
        exact ⟨.bool true, rfl, ⟨true, rfl⟩, et.trans e77⟩
      | false =>
        go_wp2_with fail
        go_roundw
        case rel => exact ⟨k + 1, by omega, by go_num, ew.trans e77⟩
        case measure => simp [intOf]; omega
    · go_wp2_with fail
      go_ret
      exact ⟨.bool false, rfl, ⟨false, rfl⟩, et⟩

def NodesR (w : World) (r : Value) (w' : World) : Prop := ∃ l : List Int, OwnP (Value.int .i64) 2 w.heap.size w' r l ∧ (∀ x ∈ l, I64 x) ∧ l.length ≤ 10
set_option maxRecDepth 20000 in
set_option maxHeartbeats 2000000 in
theorem l10DrawNodes_c (w : World) (g : Nat) (h : Src g w) (up ud : Value) (z z2 : Zone) (ps : List Int) (ds : List Bool) (hB : BldOk ps ds) (hp : IntsR z w up ps) (hds : BoolsR z2 w ud ds) :
    Calls Tryz.prog 277 #[.pointer (some ⟨g, 0, none⟩), .agg #[up, ud]] w (DrawR g w (NodesR w)) := by
  have hlt := h.lt
  have hlo := hB.lo
  have hhi := hB.hi
  obtain ⟨a, n, cap, rfl, hnl, -⟩ := SliceR.shape hp
  obtain ⟨a2, n2, cap2, rfl, -⟩ := SliceR.shape hds
  rw [← hnl] at hlo hhi
  have hr0 := (Dr.refl h).alloc (.cells #[.slice a n cap, .slice a2 n2 cap2] 201)
  have hbx := Box2.new w (.slice a n cap) (.slice a2 n2 cap2) 201
  have hs0 : (w.alloc (.cells #[.slice a n cap, .slice a2 n2 cap2] 201)).heap.size = w.heap.size + 1 := by simp
  clear hp hds hB hnl h
  go_enter Tryz.func277, Tryz.ntmps277
  go_wp2_with fail
  have o1 : OwnP (Value.int .i64) 2 (w.heap.size + 1) ((w.alloc (.cells #[.slice a n cap, .slice a2 n2 cap2] 201)).alloc (.cells #[] 2)) (.slice (some ⟨w.heap.size + 1, 0, none⟩) 0 0) [] := by
    have := OwnP.empty (f := Value.int .i64) (e := 2) (B := w.heap.size + 1) (w := w.alloc (.cells #[.slice a n cap, .slice a2 n2 cap2] 201)) (by simp)
    rw [hs0] at this
    exact this
  generalize hw0 : w.alloc (.cells #[.slice a n cap, .slice a2 n2 cap2] 201) = w0 at *
  have di : Dr g w0 (w0.alloc (.cells #[] 2)) := (Dr.refl hr0.src).alloc _
  have HB : Hid (∀ w', Dr g w0 w' → w'.cell? ⟨w.heap.size, 0, none⟩ = some (.slice a n cap)) := fun w' hd => (hbx.dr hd (by omega)).1
  clear hw0 hbx
  generalize hwi : w0.alloc (.cells #[] 2) = wi at *
  clear hwi
  have hgr : g < w.heap.size + 1 := by omega
  go_loopw [5, 6] (fun s5 s6 wx => ∃ (m : Nat) (l : List Int), s6 = .int .i64 m ∧ m ≤ n ∧ l.length ≤ m ∧ OwnP (Value.int .i64) 2 (w.heap.size + 1) wx s5 l ∧ (∀ y ∈ l, I64 y) ∧ Dr g w0 wx) (fun _ s6 _ => n - (intOf s6).toNat)
  case atStart => exact ⟨0, [], rfl, Nat.zero_le _, by simp, o1, by simp, di⟩
  case round =>
    obtain ⟨m, l, rfl, hm, hlm, ho, hy, hd⟩ := hrel
    clear o1 di
    have hc := HB.out wr hd
    have hsx : w.heap.size + 1 ≤ wr.heap.size := by have := hd.size; omega
    by_cases hmn : m < n
    · have hcall := l01Next_c _ g hd.src 4 (by unfold I64; omega)
      go_wp2_with fail
      refine Calls.mono hcall ?_
      rintro e w4 ⟨_, rfl, ⟨x4, rfl, -, -⟩, hd4⟩
      clear hcall
      replace ho := ho.dr hd4 hgr
      have hd5 := hd.trans hd4
      have hs4 := hd4.size
      have Hy := Lib.hid hy
      clear hd4 hd hy hc
      by_cases hx4 : x4 = 0
      · subst hx4
        go_wp2_with (at_builtin; (refine wpList_drawInt (g := g) (w0 := w0) (B := w.heap.size + 1) rfl _ _ 29 rfl Tryz.underlying29 Tryz.infoI64 rfl ho (m : Int) rfl (by omega) hd5 (by omega) (by omega) ?_); intro v6 w6 hown6 hd6 hs6)
        go_wp2_with fail
        exact ⟨⟨m + 1, l ++ [(m : Int)], by go_num, by omega, by simp; omega, hown6, ints_snoc Hy.out (by unfold I64; omega), hd6⟩, by simp [intOf]; omega⟩
      · have hb : (x4 == 0) = false := by simpa using hx4
        go_wp2_with fail
        exact ⟨⟨m + 1, l, by go_num, by omega, by omega, ho, Hy.out, hd5⟩, by simp [intOf]; omega⟩
    · have ho' := ho
      obtain ⟨a7, n7, c7, rfl, hn7', -⟩ := OwnP.shape ho'
      have Hn7 := Lib.hid hn7'
      have Hy := Lib.hid hy
      have hl10 : l.length ≤ 10 := by omega
      clear ho' hn7' hy
      by_cases h7 : n7 = 0
      · subst h7
        have hcall := l01Next_c _ g hd.src n (by unfold I64; omega)
        go_wp2_with fail
        refine Calls.mono hcall ?_
        rintro e w4 ⟨_, rfl, ⟨x4, rfl, hx1, hx2⟩, hd4⟩
        clear hcall
        replace ho := ho.dr hd4 hgr
        have hd5 := hd.trans hd4
        have hs4 := hd4.size
        clear hd4 hd hc
        have HI4 : I64 x4 := by unfold I64; omega
        have Hl1 : Hid (l.length + 1 ≤ 10) := by show _ ≤ _; have := Hn7.out; omega
        go_wp2_with (at_builtin; (refine wpList_drawInt (g := g) (w0 := w0) (B := w.heap.size + 1) rfl _ _ 29 rfl Tryz.underlying29 Tryz.infoI64 rfl ho x4 rfl (by omega) hd5 (by omega) (by omega) ?_); intro v6 w6 hown6 hd6 hs6)
        go_wp2_with fail
        go_ret
        exact ⟨_, rfl, ⟨_, hown6.lower (Nat.le_succ _), ints_snoc Hy.out HI4, by rw [List.length_append, List.length_singleton]; exact Hl1.out⟩, hr0.trans hd6⟩
      · have hb : ((n7 : Int) == 0) = false := by simpa using h7
        go_wp2_with fail
        go_ret
        exact ⟨_, rfl, ⟨_, ho.lower (Nat.le_succ _), Hy.out, hl10⟩, hr0.trans hd⟩

/-- three cells of a block of its own -/
def Box3 (b : Nat) (x y z : Value) (w : World) : Prop := w.cell? ⟨b, 0, none⟩ = some x ∧ w.cell? ⟨b, 1, none⟩ = some y ∧ w.cell? ⟨b, 2, none⟩ = some z ∧ w.frozen? ⟨b, 0, none⟩ = false ∧ w.frozen? ⟨b, 1, none⟩ = false ∧ w.frozen? ⟨b, 2, none⟩ = false
theorem Box3.new (w : World) (x y z : Value) (t : TypeId) : Box3 w.heap.size x y z (w.alloc (.cells #[x, y, z] t)) :=
  ⟨by simp, by simp, by simp, frozen_of_row _ _ _ _ t (heap_alloc_new w _), frozen_of_row _ _ _ _ t (heap_alloc_new w _), frozen_of_row _ _ _ _ t (heap_alloc_new w _)⟩
theorem Box3.dr {b g : Nat} {x y z : Value} {w w' : World} (h : Box3 b x y z w) (hd : Dr g w w') (hb : b ≠ g) : Box3 b x y z w' := by
  have hlt : b < w.heap.size := World.block_lt_of_cell? w _ h.1
  exact ⟨hd.cell h.1 hb, hd.cell h.2.1 hb, hd.cell h.2.2.1 hb, (hd.frozen hlt hb).trans h.2.2.2.1, (hd.frozen hlt hb).trans h.2.2.2.2.1, (hd.frozen hlt hb).trans h.2.2.2.2.2⟩
def set3 (w : World) (b : Nat) (x y z : Value) : World := ((w.setCell ⟨b, 0, none⟩ x).setCell ⟨b, 1, none⟩ y).setCell ⟨b, 2, none⟩ z
theorem set3_far (w : World) (b : Nat) (x y z : Value) {k : Nat} (hk : k ≠ b) : (set3 w b x y z).heap[k]? = w.heap[k]? := (Below.heap_setCell _ _ _ _ hk).trans ((Below.heap_setCell _ _ _ _ hk).trans (Below.heap_setCell _ _ _ _ hk))
theorem set3_size (w : World) (b : Nat) (x y z : Value) : (set3 w b x y z).heap.size = w.heap.size := by simp [set3, World.setCell]
theorem set3_keep {α : Type} {E : Repr α} (hE : Stable E) {w : World} {b lo hi lo' : Nat} {q : Bool} {v x y z : Value} {xs : α} (h : E ⟨lo, hi, q⟩ w v xs) (hb : b < lo) (hlo : lo' ≤ lo) (hhi : hi ≤ w.heap.size) : E ⟨lo', (set3 w b x y z).heap.size, false⟩ (set3 w b x y z) v xs :=
  hE.sub (hE.keep h (fun k hk _ => set3_far w b x y z (by have := hk.1; simp only at this; omega))) ⟨fun k hk => ⟨Nat.le_trans hlo hk.1, by rw [set3_size]; exact Nat.lt_of_lt_of_le hk.2 hhi⟩, fun h => by cases h⟩
theorem Dr.set3 {g : Nat} {a w : World} (h : Dr g a w) {b : Nat} (hb : a.heap.size ≤ b) (x y z : Value) : Dr g a (set3 w b x y z) := ((h.put (p := ⟨b, 0, none⟩) hb _).put (p := ⟨b, 1, none⟩) hb _).put (p := ⟨b, 2, none⟩) hb _

def Valid10 (w : World) (r : Value) (w' : World) : Prop := ∃ (up ud ur : Value) (ps : List Int) (ds : List Bool) (rs : List (List Int)), r = .agg #[up, ud, ur] ∧ BldOk ps ds ∧ IntsR ⟨w.heap.size, w'.heap.size, false⟩ w' up ps ∧ BoolsR ⟨w.heap.size, w'.heap.size, false⟩ w' ud ds ∧ RowsR ⟨w.heap.size, w'.heap.size, false⟩ w' ur rs ∧ 1 ≤ rs.length ∧ rs.length ≤ 4
set_option maxRecDepth 20000 in
set_option maxHeartbeats 2000000 in
theorem l10Valid_c (w : World) (g : Nat) (h : Src g w) : Calls Tryz.prog 262 #[.pointer (some ⟨g, 0, none⟩)] w (DrawR g w (Valid10 w)) := by
  have hlt := h.lt
  have hd0 := (Dr.refl h).alloc (.cells #[.slice none 0 0, .slice none 0 0, .slice none 0 0] 203)
  have hbx := Box3.new w (.slice none 0 0) (.slice none 0 0) (.slice none 0 0) 203
  have hcall := l09Valid_c _ g hd0.src
  have hsz0 : (w.alloc (.cells #[.slice none 0 0, .slice none 0 0, .slice none 0 0] 203)).heap.size = w.heap.size + 1 := by simp
  clear h
  go_enter Tryz.func262, Tryz.ntmps262
  go_wp2_with fail
  generalize w.alloc (.cells #[.slice none 0 0, .slice none 0 0, .slice none 0 0] 203) = w0 at *
  refine Calls.mono hcall ?_
  rintro e w1 ⟨_, rfl, ⟨up, ud, ps, ds, rfl, hB, hp, hds⟩, hd1⟩
  clear hcall
  obtain ⟨a1, n1, c1, rfl, -⟩ := SliceR.shape hp
  obtain ⟨a2, n2, c2, rfl, -⟩ := SliceR.shape hds
  have hd2 := hd0.trans hd1
  have hs1 : w.heap.size + 1 ≤ w1.heap.size := by have := hd1.size; omega
  have hlt1 : g < w1.heap.size := by omega
  have hbx1 := hbx.dr hd1 (by omega)
  have hn0 := Box2.new w1 (.slice a1 n1 c1) (.slice a2 n2 c2) 201
  have r1 : Dr g w1 (w1.alloc (.cells #[.slice a1 n1 c1, .slice a2 n2 c2] 201)) := (Dr.refl hd2.src).alloc _
  have s2 : (w1.alloc (.cells #[.slice a1 n1 c1, .slice a2 n2 c2] 201)).heap.size = w1.heap.size + 1 := by simp
  have HB : Hid (∀ w', Dr g w1 w' → Box3 w.heap.size (.slice none 0 0) (.slice none 0 0) (.slice none 0 0) w') := fun w' hd => hbx1.dr hd (by omega)
  have HBo := Lib.hid hB
  have HP : Hid (∀ w', Dr g w1 w' → IntsR ⟨w0.heap.size, w1.heap.size, false⟩ w' (.slice a1 n1 c1) ps ∧ BoolsR ⟨w0.heap.size, w1.heap.size, false⟩ w' (.slice a2 n2 c2) ds) := fun w' hd => ⟨stable_ints.dr hp hd (.inl (by show g < w0.heap.size; omega)), stable_bools.dr hds hd (.inl (by show g < w0.heap.size; omega))⟩
  clear hp hds hB hbx hbx1
  go_wp2_with fail
  have o1 : OwnR false (w1.heap.size + 1) IntsR 29 (w1.heap.size + 1) ((w1.alloc (.cells #[.slice a1 n1 c1, .slice a2 n2 c2] 201)).alloc (.cells #[] 29)) (.slice (some ⟨w1.heap.size + 1, 0, none⟩) 0 0) [] := by
    have := OwnR.empty (b := false) (L := w1.heap.size + 1) (E := IntsR) (e := 29) (B := w1.heap.size + 1) (w := w1.alloc (.cells #[.slice a1 n1 c1, .slice a2 n2 c2] 201)) (by simp)
    rw [s2] at this
    exact this
  have d3 := r1.alloc (.cells #[] 29)
  have HN : Hid (∀ w', Dr g (w1.alloc (.cells #[.slice a1 n1 c1, .slice a2 n2 c2] 201)) w' → w'.cell? ⟨w1.heap.size, 0, none⟩ = some (.slice a1 n1 c1) ∧ w'.cell? ⟨w1.heap.size, 1, none⟩ = some (.slice a2 n2 c2)) := fun w' hd => ⟨(hn0.dr hd (by omega)).1, (hn0.dr hd (by omega)).2.1⟩
  have r2 : Dr g (w1.alloc (.cells #[.slice a1 n1 c1, .slice a2 n2 c2] 201)) ((w1.alloc (.cells #[.slice a1 n1 c1, .slice a2 n2 c2] 201)).alloc (.cells #[] 29)) := (Dr.refl r1.src).alloc _
  have hcall := l01Next_c _ g d3.src 4 (by unfold I64; omega)
  have HR1 := Lib.hid r1
  clear hn0 r1
  generalize w1.alloc (.cells #[.slice a1 n1 c1, .slice a2 n2 c2] 201) = w2 at *
  generalize w2.alloc (.cells #[] 29) = w3 at *
  refine Calls.mono hcall ?_
  rintro e w4 ⟨_, rfl, ⟨k0, rfl, hk0, hk1⟩, hd4⟩
  clear hcall
  obtain ⟨k, hk⟩ : ∃ k : Nat, 1 + k0 = k := ⟨(1 + k0).toNat, by omega⟩
  have hk8 : 1 ≤ k ∧ k ≤ 4 := by omega
  have hlt2 : g < w1.heap.size + 1 := by omega
  replace o1 := OwnR.dr stable_ints o1 hd4 hlt2 hlt2
  have d4 := r2.trans hd4
  have HD2 := Lib.hid hd2
  clear hk0 hk1 hd4 hd2 hd1 hd0 d3 r2
  go_wp2_with fail
  try rw [hk]
  clear hk
  go_loopw [4, 5] (fun s4 s5 wr => ∃ (j : Nat) (rs : List (List Int)), s5 = .int .i64 j ∧ rs.length + j = k ∧ OwnR false (w1.heap.size + 1) IntsR 29 (w1.heap.size + 1) wr s4 rs ∧ Dr g w2 wr) (fun _ s5 _ => (intOf s5).toNat)
  case atStart => exact ⟨k, [], rfl, by simp, o1, d4⟩
  case round =>
    obtain ⟨j, rs, rfl, hjk, hown, hd⟩ := hrel
    clear o1 d4
    have hd1 := HR1.out.trans hd
    by_cases hj : 0 < j
    · obtain ⟨q1, q2⟩ := HN.out wr hd
      have hcall := l10DrawNodes_c wr g hd.src _ _ _ _ ps ds HBo.out (HP.out wr hd1).1 (HP.out wr hd1).2
      go_wp2_with fail
      refine Calls.mono hcall ?_
      rintro e w5 ⟨_, rfl, ⟨l, ol, hli, hl10⟩, hd5⟩
      clear hcall q1 q2
      have hown5 := OwnR.dr stable_ints hown hd5 hlt2 hlt2
      have hd6 := hd.trans hd5
      have hi5 : IntsR ⟨wr.heap.size, w5.heap.size, true⟩ w5 _ l := ints_new ol hli
      obtain ⟨a7, n7, c7, rfl, -⟩ := OwnP.shape ol
      have HV : Hid (∀ k, u4.ownBlock = some k → k < wr.heap.size) := fun k hk => (OwnA.block hown k hk).2
      have hwr : w1.heap.size + 1 ≤ wr.heap.size := by have := hd.size; omega
      have hw5 := hd5.size
      have hrl : rs.length ≤ 1000000 := by omega
      clear hown hd hd5 ol hli hd1
      go_wp2_with (at_builtin; (refine wpList_drawRow (v := u4) (g := g) (w0 := w2) (B := w1.heap.size + 1) stable_ints slRepr_slice rfl _ _ 26 rfl Tryz.underlying26 Tryz.infoInts rfl hown5 (a7, n7, c7) _ hi5 rfl rfl hrl hwr hw5 HV.out hd6 (by omega) ?_); intro v8 w8 hown8 hd8 hs8)
      go_wp2_with fail
      exact ⟨⟨j - 1, _, by go_num, by simp; omega, hown8, hd8⟩, by simp [intOf]; omega⟩
    · obtain rfl : j = 0 := by omega
      obtain ⟨q1, q2⟩ := HN.out wr hd
      obtain ⟨p1, p2, p3, p4, p5, p6⟩ := HB.out wr hd1
      have hrr := OwnR.reads hown (Nat.le_refl _)
      obtain ⟨a4, n4, c4, rfl, -⟩ := OwnA.shape hown
      have HPr := Lib.hid (HP.out wr hd1)
      have HRr := Lib.hid hrr
      have hd' := HD2.out.trans hd1
      have HD' := Lib.hid hd'
      have hz1 := hd1.size
      clear hown hd hd1 hrr hd'
      go_wp2_with fail
      refine bodyPost_ret (v := .agg #[.slice a1 n1 c1, .slice a2 n2 c2, .slice a4 n4 c4]) (by simp [results, Tryz.results262, go_sem, p1, p2, p3]) rfl ⟨_, rfl, ⟨_, _, _, ps, ds, rs, rfl, HBo.out, ?_, ?_, ?_, by omega, by omega⟩, ?_⟩
      · exact set3_keep stable_ints HPr.out.1 (by omega) (by omega) hz1
      · exact set3_keep stable_bools HPr.out.2 (by omega) (by omega) hz1
      · exact set3_keep stable_rows HRr.out (by omega) (by omega) (Nat.le_refl _)
      · exact HD'.out.set3 (Nat.le_refl _) _ _ _

/-- what the access table of a plan is: rows of the call's own, none empty -/
def TabR (w : World) (r : Value) (w' : World) : Prop := ∃ t : List (List Int), OwnR true w.heap.size IntsR 29 w.heap.size w' r t ∧ 1 ≤ t.length ∧ t.length ≤ 5 ∧ ∀ x ∈ t, 1 ≤ x.length ∧ x.length ≤ 10
set_option maxRecDepth 20000 in
set_option maxHeartbeats 4000000 in
theorem l10Access_c (w : World) (up ud ur : Value) (z z2 z3 : Zone) (ps : List Int) (ds : List Bool) (hB : BldOk ps ds) (hp : IntsR z w up ps) (hds : BoolsR z2 w ud ds) (rs : List (List Int)) (hrs : RowsR z3 w ur rs) (h1 : 1 ≤ rs.length) (h4 : rs.length ≤ 4) :
    Calls Tryz.prog 261 #[.agg #[up, ud, ur]] w (Ret w (TabR w)) := by
  have HD := Lib.hid (fun (w' : World) (e : Ext w w') => l09Doors_c w' up ud z z2 ps ds hB (stable_ints.ext hp e) (stable_bools.ext hds e))
  have HM := Lib.hid (fun (w' : World) (e : Ext w w') (un : Value) (zn : Zone) (ns : List Int) (g : IntsR zn w' un ns) (door : Int) (hdo : -1 ≤ door ∧ door < ps.length) => l10May_c w' up ud z zn z2 ps ds hB (stable_ints.ext hp e) (stable_bools.ext hds e) un ns g door hdo)
  obtain ⟨a1, n1, c1, rfl, -⟩ := SliceR.shape hp
  obtain ⟨a2, n2, c2, rfl, -⟩ := SliceR.shape hds
  obtain ⟨a3, n3, c3, rfl, hn3, -⟩ := SliceR.shape hrs
  have HT := Lib.hid (fun (k : Nat) (hk : k < n3) => rows_at' hrs hk)
  rw [← hn3] at h1 h4
  clear hp hds hrs hB hn3
  go_enter Tryz.func261, Tryz.ntmps261
  go_wp2_with fail
  generalize hw0 : World.alloc _ _ = w0
  obtain ⟨e0, HC⟩ : Ext w w0 ∧ Hid (∀ w', Ext w0 w' → w'.cell? ⟨w.heap.size, 0, none⟩ = some (.slice a1 n1 c1) ∧ w'.cell? ⟨w.heap.size, 1, none⟩ = some (.slice a2 n2 c2) ∧ w'.cell? ⟨w.heap.size, 2, none⟩ = some (.slice a3 n3 c3)) := by
    subst hw0
    exact ⟨Ext.alloc _ _, fun w' e => ⟨e.cell (by simp), e.cell (by simp), e.cell (by simp)⟩⟩
  clear hw0
  refine Calls.mono (HD.out w0 e0) ?_
  rintro e w1 hr
  obtain ⟨r, rfl, ⟨dl, hdl, hd1, hd2, hdx⟩, e1⟩ := ret_ext hr
  clear hr
  have et1 := e0.trans e1
  obtain ⟨ad, nd, cd, rfl, hnd, -⟩ := OwnP.shape hdl
  rw [← hnd] at hd1 hd2
  have HDl := Lib.hid (fun (k : Nat) (hk : k < nd) => OwnP.elem hdl 0 k hk)
  have HDx : Hid (∀ k, k < nd → 0 ≤ dl.getD k 0 ∧ dl.getD k 0 < ps.length) := fun k hk => hdx _ (by
    have hk' : k < dl.length := by omega
    have e : dl.getD k 0 = dl[k] := by simp [hk']
    rw [e]; exact List.getElem_mem hk')
  clear hdl hnd hdx
  obtain ⟨q1, q2, q3⟩ := HC.out w1 e1
  go_wp2_with fail
  have o1 : OwnR true w1.heap.size IntsR 29 w1.heap.size (w1.alloc (.cells #[] 29)) (.slice (some ⟨w1.heap.size, 0, none⟩) 0 0) [] := OwnR.empty (Nat.le_refl _)
  have e2 : Ext w1 (w1.alloc (.cells #[] 29)) := Ext.alloc _ _
  generalize w1.alloc (.cells #[] 29) = w2 at *
  clear q1 q2 q3
  go_loopw [4, 5, 6, 7] (fun s4 s5 _ _ wr => ∃ (k : Nat) (t : List (List Int)), s5 = .int .i64 k ∧ k ≤ n3 ∧ t.length = k ∧ OwnR true w1.heap.size IntsR 29 w1.heap.size wr s4 t ∧ (∀ x ∈ t, x.length = nd) ∧ Ext w1 wr) (fun _ s5 _ _ _ => n3 - (intOf s5).toNat)
  case atStart => exact ⟨0, [], rfl, Nat.zero_le _, rfl, o1, by simp, e2⟩
  case round =>
    obtain ⟨k, t, rfl, hk, htl, hown, htn, ew⟩ := hrel
    obtain ⟨wo, rfl⟩ : ∃ wo, wo = wr := ⟨_, rfl⟩
    clear o1 e2
    have HO := Lib.hid hown
    have HTn := Lib.hid htn
    have Htl := Lib.hid htl
    clear hown htn htl
    have etw := et1.trans ew
    obtain ⟨q1, q2, q3⟩ := HC.out wo (e1.trans ew)
    by_cases hlt : k < n3
    · obtain ⟨b3, o3, rfl, ra, rn, rc, hc3, ⟨zr, hzr⟩⟩ := HT.out k hlt
      go_wp2_with fail
      have oi : OwnP (Value.int .i64) 2 wo.heap.size (wo.alloc (.cells #[] 2)) (.slice (some ⟨wo.heap.size, 0, none⟩) 0 0) [] := OwnP.empty (Nat.le_refl _)
      have ei : Ext wo (wo.alloc (.cells #[] 2)) := Ext.alloc _ _
      generalize wo.alloc (.cells #[] 2) = wi at *
      clear q1 q2 q3
      have HC3 := Lib.hid hc3
      have HZr := Lib.hid hzr
      clear hc3 hzr
      go_loopw [6, 7] (fun s6 s7 wx => ∃ (i : Nat) (l : List Int), s7 = .int .i64 i ∧ i ≤ nd ∧ l.length = i ∧ (∀ y ∈ l, I64 y) ∧ OwnP (Value.int .i64) 2 wo.heap.size wx s6 l ∧ Ext wo wx) (fun _ s7 _ => nd - (intOf s7).toNat)
      case atStart => exact ⟨0, [], rfl, Nat.zero_le _, rfl, by simp, oi, ei⟩
      case round =>
        obtain ⟨i, l, rfl, hi, hll, hli, ho, ex⟩ := hrel
        clear oi ei
        have etx := etw.trans ex
        have hsx := ex.size
        by_cases hin : i < nd
        · obtain ⟨gd, rfl, -, -, hcd, -⟩ := HDl.out i hin
          obtain ⟨x1, x2⟩ := HDx.out i hin
          have HCel : Hid (∀ w', Ext wr w' → w'.cell? ⟨w.heap.size, 0, none⟩ = some (.slice a1 n1 c1) ∧ w'.cell? ⟨w.heap.size, 1, none⟩ = some (.slice a2 n2 c2) ∧ w'.cell? ⟨w.heap.size, 2, none⟩ = some (.slice (some ⟨b3, o3, none⟩) n3 c3) ∧ w'.cell? ⟨b3, o3 + k, none⟩ = some (.slice ra rn rc) ∧ w'.cell? ⟨gd, i, none⟩ = some (.int .i64 (dl.getD i 0))) := fun w' e => have q := HC.out w' (((e1.trans ew).trans ex).trans e); ⟨q.1, q.2.1, q.2.2, HC3.out w' (etx.trans e), ((ew.trans ex).trans e).cell hcd⟩
          have HMa := Lib.hid (fun (w' : World) (e : Ext wr w') => HM.out w' (etx.trans e) _ zr _ (HZr.out w' (etx.trans e)) (dl.getD i 0) ⟨by omega, x2⟩)
          generalize dl.getD i 0 = door at *
          have hk0 : (0 : Int) ≤ (k : Int) := by omega
          have hkn : (k : Int) < (n3 : Int) := by omega
          have hi0 : (0 : Int) ≤ (i : Int) := by omega
          have hind : (i : Int) < (nd : Int) := by omega
          have HOx := Lib.hid ho
          have HLi := Lib.hid hli
          have Hll := Lib.hid hll
          clear hcd ho hli hll
          go_wp2_with fail
          first | (go_region_held3 (fun w' => w'.cell? ⟨w.heap.size, 0, none⟩ = some (.slice a1 n1 c1) ∧ w'.cell? ⟨w.heap.size, 1, none⟩ = some (.slice a2 n2 c2) ∧ w'.cell? ⟨w.heap.size, 2, none⟩ = some (.slice (some ⟨b3, o3, none⟩) n3 c3) ∧ w'.cell? ⟨b3, o3 + k, none⟩ = some (.slice ra rn rc) ∧ w'.cell? ⟨gd, i, none⟩ = some (.int .i64 door)) (exact HCel.out _ (by repeat (first | exact Ext.refl _ | assumption | (refine Ext.trans ?_ (Ext.alloc _ _)) | (refine Ext.trans ?_ (Ext.drew _)) | (refine Ext.trans ?_ (by assumption))))) (first | (go_at_call 275; (with_reducible refine (HMa.out _ (by repeat (first | exact Ext.refl _ | assumption | (refine Ext.trans ?_ (Ext.alloc _ _)) | (refine Ext.trans ?_ (Ext.drew _)) | (refine Ext.trans ?_ (by assumption))))).mono ?_); rintro e w7 hr7; obtain ⟨r7, rfl, ⟨q, rfl⟩, e7⟩ := ret_ext hr7; clear hr7) | fail)) | fail
          have e77 : Ext wr w7 := (by repeat (first | exact Ext.refl _ | assumption | (refine Ext.trans ?_ (Ext.alloc _ _)) | (refine Ext.trans ?_ (Ext.drew _)) | (refine Ext.trans ?_ (by assumption))))
          have HO7 := Lib.hid (HOx.out.ext e77)
          have hs7 : wo.heap.size ≤ w7.heap.size := by have := e77.size; omega
          have HL1 : Hid (l.length + 1 ≤ 1099511627776) := by show _ ≤ _; rw [Hll.out]; omega
          have HEx := Lib.hid (ex.trans e77)
          cases q with
          | true =>
            go_wp2_with (at_builtin; (refine wpList_append1X (f := Value.int .i64) (e := 2) (B := wo.heap.size) (xs := l) rfl _ _ 29 rfl 0 8 Tryz.underlying29 Tryz.infoI64 rfl (fun _ => rfl) rfl HO7.out 1 rfl HL1.out (by omega) hs7 ?_); intro v8 w8 hown8 hg8 hb8 hat8; have HO8 := Lib.hid hown8; have HE8 := Lib.hid (Below.trans HEx.out hb8); clear hown8 hg8 hb8 hat8)
            go_roundw
            case rel => exact ⟨i + 1, l ++ [1], by go_num, by omega, by rw [List.length_append, List.length_singleton, Hll.out], ints_snoc HLi.out (by unfold I64; omega), HO8.out, HE8.out⟩
            case measure => simp [intOf]; omega
          | false =>
            go_wp2_with (at_builtin; (refine wpList_append1X (f := Value.int .i64) (e := 2) (B := wo.heap.size) (xs := l) rfl _ _ 29 rfl 0 8 Tryz.underlying29 Tryz.infoI64 rfl (fun _ => rfl) rfl HO7.out 0 rfl HL1.out (by omega) hs7 ?_); intro v8 w8 hown8 hg8 hb8 hat8; have HO8 := Lib.hid hown8; have HE8 := Lib.hid (Below.trans HEx.out hb8); clear hown8 hg8 hb8 hat8)
            go_roundw
            case rel => exact ⟨i + 1, l ++ [0], by go_num, by omega, by rw [List.length_append, List.length_singleton, Hll.out], ints_snoc HLi.out (by unfold I64; omega), HO8.out, HE8.out⟩
            case measure => simp [intOf]; omega
        · have hie : i = nd := by omega
          obtain ⟨a6, n6, c6, rfl, -⟩ := OwnP.shape ho
          have HX : Hid (IntsR (.new wo wr) wr (.slice a6 n6 c6) l) := OwnP.ints ho hli (Nat.le_refl _)
          have HLn : Hid (l.length = nd) := hll.trans hie
          have HEx := Lib.hid ex
          have HL1 : Hid (t.length + 1 ≤ 1099511627776) := by show _ ≤ _; rw [Htl.out]; omega
          have hwo := ew.size
          clear ho hli hll hie ex
          go_wp2_with (at_builtin; (refine wpList_appendRow (E := IntsR) (L := w1.heap.size) (B := w1.heap.size) (xs := t) stable_ints slRepr_slice rfl _ _ 26 rfl Tryz.underlying26 Tryz.infoInts rfl HO.out HEx.out (a6, n6, c6) l HX.out rfl HL1.out hwo hwo ?_); intro v8 w8 hown8 hb8 hs8 hg8 hat8; have HO8 := Lib.hid hown8; have HB8 := Lib.hid (Below.trans ew hb8); clear hown8 hb8 hg8 hat8)
          go_roundw
          case rel => exact ⟨k + 1, t ++ [l], by go_num, by omega, by rw [List.length_append, List.length_singleton, Htl.out], HO8.out, fun x hx => by
            rcases List.mem_append.1 hx with hx | hx
            · exact HTn.out x hx
            · rw [List.mem_singleton.1 hx]; exact HLn.out, HB8.out⟩
          case measure => simp [intOf]; omega
    · have hke : k = n3 := by omega
      obtain ⟨a4, n4, c4, rfl, -⟩ := OwnA.shape HO.out
      have HR : Hid (OwnR true w.heap.size IntsR 29 w.heap.size wo (.slice a4 n4 c4) t) := OwnR.lower HO.out et1.size et1.size
      have HT1 : Hid (t.length = n3) := Htl.out.trans hke
      clear hke
      go_wp2_with fail
      go_ret
      exact ⟨_, rfl, ⟨t, HR.out, by rw [HT1.out]; exact h1, by rw [HT1.out]; omega, fun x hx => by rw [HTn.out x hx]; omega⟩, etw⟩
end Go.Proofs.YtegmognpofcfiaaGreat
