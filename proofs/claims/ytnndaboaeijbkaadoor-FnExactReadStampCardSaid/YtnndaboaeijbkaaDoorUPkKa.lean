/- Proved: the key with a rank, the program; the key of a stamp, the program. -/
import Derived.Test.YtnndaboaeijbkaaDoorChecked
import Derived.Deep.RegionHeld3
import Derived.Test.YtnndaboaeijbkaaDoorUPkW
import Derived.Test.YtnndaboaeijbkaaDoorUClone
import Derived.Test.YtnndaboaeijbkaaDoorUPkSm
namespace Go.Proofs.YtnndaboaeijbkaaDoor
open Go.ChangeShapes Go.WideShapes Go.ChangeAt Go.RowKit
set_option linter.unusedVariables false

theorem OwnP.keepB {α : Type} {f : α → Value} {e : TypeId} {B : Nat} {w w' : World} {v : Value} {xs : List α} (h : OwnP f e B w v xs) (hown : ∀ k, v.ownBlock = some k → w'.heap[k]? = w.heap[k]?) : OwnP f e B w' v xs := by
  obtain ⟨h1, h2⟩ := h
  refine ⟨h1, ?_⟩
  rcases h2 with h2 | ⟨g, cap, cur, hv, hbg, hg, r⟩
  · exact .inl h2
  · exact .inr ⟨g, cap, cur, hv, hbg, by rw [hown g (by rw [hv]; rfl)]; exact hg, r⟩
/-- what is left of a rank, and the key that has been found -/
structure KatAt (bb bl : Nat) (F : Nat → Prop) (s : Int × List Int) (w : World) (v : Value) : Prop where
  cell : w.cell? ⟨bb, 0, none⟩ = some v
  free : w.frozen? ⟨bb, 0, none⟩ = false
  own : OwnP (Value.int .i64) 2 0 w v s.2
  row : ∀ k, v.ownBlock = some k → F k ∧ k ≠ bb ∧ k ≠ bl
  i64 : ∀ x ∈ s.2, I64 x
  left : w.cell? ⟨bl, 0, none⟩ = some (.int .i64 s.1)
  lfree : w.frozen? ⟨bl, 0, none⟩ = false
  box : F bb ∧ F bl ∧ bb ≠ bl
  lt : ∀ k, F k → k < w.heap.size
def KatInv (bb bl : Nat) (F : Nat → Prop) (s : Int × List Int) (w : World) : Prop := ∃ v, KatAt bb bl F s w v
theorem KatAt.keep {bb bl : Nat} {F : Nat → Prop} {s : Int × List Int} {w w' : World} {v : Value} (h : KatAt bb bl F s w v) (hb : ∀ k, F k → w'.heap[k]? = w.heap[k]?) (hs : w.heap.size ≤ w'.heap.size) : KatAt bb bl F s w' v :=
  ⟨(World.cell?_of_block (a := ⟨bb, 0, none⟩) (hb bb h.box.1)).trans h.cell, (World.frozen?_of_block (a := ⟨bb, 0, none⟩) (hb bb h.box.1)).trans h.free, h.own.keepB (fun k hk => hb k (h.row k hk).1), h.row, h.i64, (World.cell?_of_block (a := ⟨bl, 0, none⟩) (hb bl h.box.2.1)).trans h.left, (World.frozen?_of_block (a := ⟨bl, 0, none⟩) (hb bl h.box.2.1)).trans h.lfree, h.box, fun k hk => Nat.lt_of_lt_of_le (h.lt k hk) hs⟩
theorem KatAt.set {bb bl : Nat} {F : Nat → Prop} {s : Int × List Int} {w w2 : World} {v v8 : Value} {key : List Int} (x : Int) (h : KatAt bb bl F s w v) (e : Ext w w2) (ho : OwnP (Value.int .i64) 2 w.heap.size w2 v8 key) (hm : ∀ x ∈ key, I64 x) :
    KatAt bb bl (fun k => F k ∨ (w.heap.size ≤ k ∧ k < w2.heap.size)) (x, key) ((w2.setCell ⟨bb, 0, none⟩ v8).setCell ⟨bl, 0, none⟩ (.int .i64 x)) v8 ∧ Frame F w ((w2.setCell ⟨bb, 0, none⟩ v8).setCell ⟨bl, 0, none⟩ (.int .i64 x)) := by
  obtain ⟨h1, h2, h3⟩ := h.box
  have q1 := h.lt bb h1
  have q2 := h.lt bl h2
  have q3 := e.size
  have hb1 : w2.heap[bb]? = w.heap[bb]? := Below.block e bb q1
  have hb2 : w2.heap[bl]? = w.heap[bl]? := Below.block e bl q2
  have hset : ∀ k, k ≠ bb → k ≠ bl → ((w2.setCell ⟨bb, 0, none⟩ v8).setCell ⟨bl, 0, none⟩ (.int .i64 x)).heap[k]? = w2.heap[k]? := fun k g1 g2 => (Below.heap_setCell _ _ _ _ g2).trans (Below.heap_setCell _ _ _ _ g1)
  have hsz : ((w2.setCell ⟨bb, 0, none⟩ v8).setCell ⟨bl, 0, none⟩ (.int .i64 x)).heap.size = w2.heap.size := by rw [setCell_size, setCell_size]
  have hrow : ∀ k, v8.ownBlock = some k → w.heap.size ≤ k ∧ k < w2.heap.size := ho.block
  have c1 : w2.cell? ⟨bb, 0, none⟩ = some v := (World.cell?_of_block (a := ⟨bb, 0, none⟩) hb1).trans h.cell
  have c2 : w2.cell? ⟨bl, 0, none⟩ = some (.int .i64 s.1) := (World.cell?_of_block (a := ⟨bl, 0, none⟩) hb2).trans h.left
  have f1 : w2.frozen? ⟨bb, 0, none⟩ = false := (World.frozen?_of_block (a := ⟨bb, 0, none⟩) hb1).trans h.free
  have f2 : w2.frozen? ⟨bl, 0, none⟩ = false := (World.frozen?_of_block (a := ⟨bl, 0, none⟩) hb2).trans h.lfree
  have ne1 : (⟨bl, 0, none⟩ : Addr) ≠ ⟨bb, 0, none⟩ := fun q => h3 (by injection q with q _ _; exact q.symm)
  refine ⟨⟨?_, ?_, ?_, fun k hk => ?_, hm, ?_, ?_, ⟨.inl h1, .inl h2, h3⟩, fun k hk => ?_⟩, ?_⟩
  · rw [World.cell?_setCell_other _ _ _ _ ne1]; exact World.cell?_setCell_same _ _ _ c1
  · rw [World.frozen?_setCell, World.frozen?_setCell]; exact f1
  · have : OwnP (Value.int .i64) 2 0 w2 v8 key := ho.lower (Nat.zero_le _)
    exact this.keepB (fun k hk => by have := hrow k hk; exact hset k (by omega) (by omega))
  · have := hrow k hk
    exact ⟨.inr this, by omega, by omega⟩
  · exact World.cell?_setCell_same _ _ _ ((World.cell?_setCell_other _ _ _ _ ne1.symm).trans c2)
  · rw [World.frozen?_setCell, World.frozen?_setCell]; exact f2
  · rw [hsz]
    rcases hk with hk | hk
    · have := h.lt k hk; omega
    · exact hk.2
  · exact ⟨e.os, e.tape, e.output, by omega, fun k hk hn => (hset k (fun q => hn (q ▸ h1)) (fun q => hn (q ▸ h2))).trans (Below.block e k hk)⟩
theorem KatAt.dec {bb bl : Nat} {F : Nat → Prop} {s : Int × List Int} {w : World} {v : Value} (x : Int) (h : KatAt bb bl F s w v) :
    KatAt bb bl F (x, s.2) (w.setCell ⟨bl, 0, none⟩ (.int .i64 x)) v ∧ Frame F w (w.setCell ⟨bl, 0, none⟩ (.int .i64 x)) := by
  obtain ⟨h1, h2, h3⟩ := h.box
  have hset : ∀ k, k ≠ bl → (w.setCell ⟨bl, 0, none⟩ (.int .i64 x)).heap[k]? = w.heap[k]? := fun k g => Below.heap_setCell _ _ _ _ g
  have hsz : (w.setCell ⟨bl, 0, none⟩ (.int .i64 x)).heap.size = w.heap.size := setCell_size _ _ _
  refine ⟨⟨(World.cell?_of_block (a := ⟨bb, 0, none⟩) (hset bb h3)).trans h.cell, (World.frozen?_of_block (a := ⟨bb, 0, none⟩) (hset bb h3)).trans h.free, h.own.keepB (fun k hk => hset k (h.row k hk).2.2), h.row, h.i64, World.cell?_setCell_same _ _ _ h.left, by rw [World.frozen?_setCell]; exact h.lfree, h.box, fun k hk => by rw [hsz]; exact h.lt k hk⟩, rfl, rfl, rfl, by omega, fun k hk hn => hset k (fun q => hn (q ▸ h2))⟩
def katStep (s : Int × List Int) (k : List Int) : Int × List Int := (wrap64 (s.1 - 1), if s.1 = 0 then k else s.2)
def katMore (s : Int × List Int) (_ : List Int) : Bool := decide (0 ≤ wrap64 (s.1 - 1))
theorem visits_kat : ∀ (L : List (List Int)) (q : Nat) (f key : List Int), q ≤ 1000000 → L[q]? = some key → (visits katStep katMore ((q : Int), f) L).1 = (-1, key)
  | [], q, f, key, _, h => by simp at h
  | k :: L, 0, f, key, _, h => by
    have hk : k = key := by simpa using h
    subst hk
    have hm : katMore (((0 : Nat) : Int), f) k = false := by unfold katMore wrap64; exact decide_eq_false (by simp)
    unfold visits
    rw [if_neg (by rw [hm]; decide)]
    unfold katStep wrap64
    simp
  | k :: L, q + 1, f, key, hq, h => by
    have hm : katMore (((q + 1 : Nat) : Int), f) k = true := by unfold katMore wrap64; exact decide_eq_true (by simp only; omega)
    have hs : katStep (((q + 1 : Nat) : Int), f) k = ((q : Int), f) := by
      unfold katStep
      have e1 : wrap64 (((q + 1 : Nat) : Int) - 1) = (q : Int) := by unfold wrap64; omega
      have e2 : ¬ (((q + 1 : Nat) : Int) = 0) := by omega
      simp only
      rw [e1, if_neg e2]
    unfold visits
    rw [if_pos hm, hs]
    exact visits_kat L q f key (by omega) (by simpa using h)

theorem Tryd.goesKeyAt1 : Goes Tryd.prog 57 := goes_of Tryd.func57 (by kernel_rfl) (by kernel_rfl)

set_option maxRecDepth 20000 in
set_option maxHeartbeats 2000000 in
theorem keyAt1_c {bb bl : Nat} {F : Nat → Prop} {s : Int × List Int} (w : World) (v : Value) (z : Zone) (key : List Int) (hI : KatInv bb bl F s w) (hk : IntsR z w v key) (hkl : key.length ≤ 6) :
    Calls Tryd.prog 57 #[v, .pointer (some ⟨bl, 0, none⟩), .pointer (some ⟨bb, 0, none⟩)] w (fun e w' => e = .returned (.bool (katMore s key)) ∧ ∃ F', KatInv bb bl F' (katStep s key) w' ∧ (∀ k, F' k → F k ∨ w.heap.size ≤ k) ∧ Frame F w w') := by
  obtain ⟨lv, hB⟩ := hI
  have HCl := Lib.hid (Clone_c w v z key hk (by omega))
  have HM := Lib.hid (IntsR.mem hk)
  have HB := Lib.hid hB
  obtain ⟨s1, f⟩ := s
  have HMo : Hid (katMore (s1, f) key = decide (0 ≤ wrap64 (s1 - 1))) := rfl
  have HSt : Hid (katStep (s1, f) key = (wrap64 (s1 - 1), if s1 = 0 then key else f)) := rfl
  obtain ⟨a, n, c, rfl, -⟩ := SliceR.shape hk
  have c1 : w.cell? ⟨bl, 0, none⟩ = some (.int .i64 s1) := hB.left
  have hne := hB.box.2.2
  have hne2 := Ne.symm hne
  have hf1 := hB.lfree
  clear hB hk
  generalize katStep (s1, f) key = st at *
  generalize katMore (s1, f) key = mo at *
  by_cases h0 : s1 = 0
  · have HS2 : Hid (st = (wrap64 (s1 - 1), key)) := by show _ = _; rw [HSt.out, if_pos h0]
    have hb0 : (s1 == 0) = true := by rw [beq_iff_eq]; exact h0
    have HSet := Lib.hid (fun (w2 : World) (v8 : Value) (e : Ext w w2) (o : OwnP (Value.int .i64) 2 w.heap.size w2 v8 key) => HB.out.set (wrap64 (s1 - 1)) e o HM.out)
    clear HSt h0
    go_enter Tryd.func57, Tryd.ntmps57
    go_wp2_with fail
    refine Calls.mono HCl.out ?_
    rintro e w2 hr
    obtain ⟨r, rfl, o2, e2⟩ := ret_ext hr
    clear hr c1 hf1
    have HP := Lib.hid (HSet.out w2 r e2 o2)
    have hB2 := HB.out.keep (fun k hk => Below.block e2 k (HB.out.lt k hk)) e2.size
    have d1 := hB2.cell
    have d2 := hB2.free
    have d3 : w2.cell? ⟨bl, 0, none⟩ = some (.int .i64 s1) := hB2.left
    have d4 := hB2.lfree
    obtain ⟨a8, n8, k8, rfl, -⟩ := OwnP.shape o2
    clear hB2 o2
    go_wp2_with fail
    go_ret
    exact ⟨by rw [HMo.out]; rfl, fun k => F k ∨ (w.heap.size ≤ k ∧ k < w2.heap.size), ⟨_, by rw [HS2.out]; exact HP.out.1⟩, fun k hk => Or.elim hk .inl (fun q => .inr q.1), HP.out.2⟩
  · have HS2 : Hid (st = (wrap64 (s1 - 1), f)) := by show _ = _; rw [HSt.out, if_neg h0]
    have hb0 : (s1 == 0) = false := by rw [beq_eq_false_iff_ne]; exact h0
    have HP := Lib.hid (HB.out.dec (wrap64 (s1 - 1)))
    clear HSt
    go_enter Tryd.func57, Tryd.ntmps57
    go_wp2_with fail
    go_ret
    exact ⟨by rw [HMo.out]; rfl, F, ⟨lv, by rw [HS2.out]; exact HP.out.1⟩, fun k hk => .inl hk, HP.out.2⟩

theorem visitKat {bb bl : Nat} {w0 : World} {F0 : Nat → Prop} :
    VisitK 57 #[.pointer (some ⟨bl, 0, none⟩), .pointer (some ⟨bb, 0, none⟩)] w0 F0 (KatInv bb bl) katStep katMore (fun k => k.length ≤ 6) where
  goes := Tryd.goesKeyAt1
  keep := by
    rintro F s w w' ⟨v, hb⟩ hk hs
    exact ⟨v, hb.keep hk hs⟩
  fresh := by
    rintro F s w ⟨v, hb⟩
    exact hb.lt
  call := by
    rintro F s w v z key hI hF hK hr _ hok
    exact keyAt1_c w v z key hI hr hok

/-- a key that is looked for: two variables of the call's own -/
theorem kat_new {w2 : World} {bl : Nat} {q : Int} (hbl : bl < w2.heap.size) (hl : w2.cell? ⟨bl, 0, none⟩ = some (.int .i64 q)) (hlf : w2.frozen? ⟨bl, 0, none⟩ = false) :
    KatInv w2.heap.size bl (fun k => k = w2.heap.size ∨ k = bl) (q, []) (w2.alloc (.cells #[.slice none 0 0] 28)) := by
  have e : Ext w2 (w2.alloc (.cells #[.slice none 0 0] 28)) := Ext.alloc _ _
  have hb : (w2.alloc (.cells #[.slice none 0 0] 28)).heap[bl]? = w2.heap[bl]? := Below.block e bl hbl
  refine ⟨.slice none 0 0, by simp, by simp, OwnP.none, fun k hk => by (cases hk), fun x hx => by simp at hx, e.cell hl, (World.frozen?_of_block (a := ⟨bl, 0, none⟩) hb).trans hlf, ⟨.inl rfl, .inr rfl, by omega⟩, fun k hk => ?_⟩
  have hs : (w2.alloc (.cells #[.slice none 0 0] 28)).heap.size = w2.heap.size + 1 := by simp
  rcases hk with hk | hk <;> omega

set_option maxRecDepth 20000 in
set_option maxHeartbeats 2000000 in
theorem KeyAt_c (w : World) (mk : MK) (hm : isMaker mk = true) (q : Nat) (key : List Int) (hkey : (allK mk)[q]? = some key) :
    Calls Tryd.prog 42 #[mk.v, .int .i64 (q : Int)] w (Ret w fun r w' => ∃ u, r = .tuple #[u, .int .i64 0] ∧ OwnP (Value.int .i64) 2 w.heap.size w' u key ∧ ∀ x ∈ key, I64 x) := by
  have ok := mkOk hm
  have HM := Lib.hid (fun (w' : World) => IsMaker_c w' mk)
  rw [hm] at HM
  have hmem : key ∈ allK mk := List.mem_of_getElem? hkey
  have hkl : ∀ k ∈ allK mk, k.length ≤ 6 := fun k hk => by
    obtain ⟨A, B, h⟩ := List.append_of_mem hk
    have h1 := (allK_next h).2.1
    have := ok.c6
    omega
  have hpos : 0 < key.length := by
    obtain ⟨A, B, h⟩ := List.append_of_mem hmem
    have h1 := (allK_next h).2.1
    have := ok.c6
    omega
  have hq : q < (allK mk).length := (List.getElem?_eq_some_iff.1 hkey).1
  have hlen : (allK mk).length ≤ 262144 := countM_le ok
  have HV : Hid ((visits katStep katMore ((q : Int), []) (allK mk)).1 = (-1, key)) := visits_kat (allK mk) q [] key (by omega) hkey
  have HE := Lib.hid (fun (w' : World) (bb bl : Nat) (F0 : Nat → Prop) (hI : KatInv bb bl F0 ((q : Int), []) w') => eachKeyK_c (visitKat (bb := bb) (bl := bl) (w0 := w') (F0 := F0)) mk ok hkl ((q : Int), []) hI)
  rw [HV.out] at HE
  have Hpos := Lib.hid hpos
  have hGo := Tryd.goesKeyAt1
  unfold Goes at hGo
  clear ok hmem hkl hpos hq hlen HV hkey hm
  obtain ⟨c, d, s, m, l⟩ := mk
  unfold MK.v at *
  simp only at HE ⊢
  go_enter Tryd.func42, Tryd.ntmps42
  go_wp2_with fail
  generalize hw0 : World.alloc _ _ = w0
  obtain ⟨e0, S0, c7, f7, z0⟩ : Ext w w0 ∧ MkAt w0 w.heap.size ⟨c, d, s, m, l⟩ ∧ w0.cell? ⟨w.heap.size + 1, 0, none⟩ = some (.int .i64 (q : Int)) ∧ w0.frozen? ⟨w.heap.size + 1, 0, none⟩ = false ∧ w0.heap.size = w.heap.size + 1 + 1 := by
    subst hw0
    refine ⟨(Ext.alloc _ _).trans (Ext.alloc _ _), ⟨?_, ?_, ?_, ?_, ?_⟩, ?_, ?_, ?_⟩
    all_goals (clear HE hGo HM; go_simp; done)
  clear hw0
  have HS := Lib.hid S0
  obtain ⟨c0, c1, c2, c3, c4⟩ := S0
  go_wp2_with fail
  refine Calls.mono (HM.out w0) ?_
  rintro e w1 hr
  obtain ⟨r, rfl, rfl, e1⟩ := ret_ext hr
  clear hr c0 c1 c2 c3 c4
  have et := e0.trans e1
  obtain ⟨c0, c1, c2, c3, c4⟩ := HS.out.ext e1
  have c7' := e1.cell c7
  have f7' : w1.frozen? ⟨w.heap.size + 1, 0, none⟩ = false := (World.frozen?_of_block (a := ⟨w.heap.size + 1, 0, none⟩) (Below.block e1 (w.heap.size + 1) (by omega))).trans f7
  have hs1 : w.heap.size + 1 + 1 ≤ w1.heap.size := by rw [← z0]; exact e1.size
  have HC := kat_new (w2 := w1) (bl := w.heap.size + 1) (by omega) c7' f7'
  have d0 := fun o => (Ext.alloc w1 o).cell c0
  have d1 := fun o => (Ext.alloc w1 o).cell c1
  have d2 := fun o => (Ext.alloc w1 o).cell c2
  have d3 := fun o => (Ext.alloc w1 o).cell c3
  have d4 := fun o => (Ext.alloc w1 o).cell c4
  clear c7 f7 c7' f7' z0
  go_wp2_with fail
  have e3 : Ext w1 (w1.alloc (.cells #[.slice none 0 0] 28)) := Ext.alloc _ _
  generalize hw3 : World.alloc w1 _ = w3 at HC e3 ⊢
  clear hw3 c0 c1 c2 c3 c4 d0 d1 d2 d3 d4
  refine Calls.mono (HE.out w3 _ _ _ HC) ?_
  rintro e w4 ⟨rfl, F', ⟨v4, hB4⟩, g4, f4⟩
  have hc4 := hB4.cell
  have HX : Hid (Ext w w4) := (Frame.trans (Frame.of_ext (F := fun k => k = w1.heap.size ∨ k = w.heap.size + 1) (et.trans e3)) f4 (fun i hi _ => hi)).below (B := w.heap.size) (fun k hk => by rcases hk with hk | hk <;> omega) (Nat.le_refl _)
  have hs3 := e3.size
  have HO : Hid (OwnP (Value.int .i64) 2 w.heap.size w4 v4 key) := hB4.own.raise (fun k hk => by
    rcases g4 k (hB4.row k hk).1 with q' | q'
    · rcases q' with q' | q' <;> omega
    · omega)
  have HI := Lib.hid hB4.i64
  obtain ⟨g, hg⟩ : ∃ g n4 k4, v4 = .slice (some g) n4 k4 := by
    obtain ⟨a4, n4, k4, rfl, hn4, -⟩ := OwnP.shape hB4.own
    obtain ⟨g, h1, -⟩ := OwnP.elem hB4.own 0 0 (by rw [hn4]; exact Hpos.out)
    exact ⟨_, n4, k4, by rw [h1]⟩
  obtain ⟨n4, k4, rfl⟩ := hg
  have hnil := fun (wq : World) => Lib.run_eql_slice_nil (P := Tryd.prog) wq 28 2 (some g) n4 k4 0 0 Tryd.underlying28
  clear hB4 g4 f4 HC HE
  go_wp2_with fail
  go_ret2
  exact ⟨_, rfl, ⟨_, rfl, HO.out, HI.out⟩, HX.out⟩

open Go.ChangeShapes Go.WideShapes Go.ChangeAt Go.RowKit
set_option linter.unusedVariables false

set_option maxRecDepth 20000 in
set_option maxHeartbeats 1000000 in
theorem keyWith_c (w : World) (mk : MK) (hm : isMaker mk = true) (y sec : Int) (hy : 0 ≤ y ∧ y < countM mk) (hs : 0 ≤ sec ∧ sec ≤ (countM mk : Int) - 1) (ix : Nat) (hix : (ix : Int) = (y + (countM mk : Int) - sec) % (countM mk : Int)) (key : List Int) (hkey : (allK mk)[ix]? = some key) :
    Calls Tryd.prog 28 #[mk.v, .int .i64 (countM mk : Int), .int .i64 y, .int .i64 sec] w (Ret w fun r w' => OwnP (Value.int .i64) 2 w.heap.size w' r key) := by
  have HK := Lib.hid (fun (w' : World) => KeyAt_c w' mk hm ix key hkey)
  have hN := countM_le (mkOk hm)
  generalize countM mk = N at *
  have hw1 : IntKind.i64.wrap (y - sec) = y - sec := IntWalk.i64_in _ (by omega)
  have hw2 : IntKind.i64.wrap (y - sec + (N : Int)) = y - sec + (N : Int) := IntWalk.i64_in _ (by omega)
  have hraw : (IntKind.i64.wrap (IntKind.i64.wrap (y - sec) + (N : Int))).tmod (N : Int) = (ix : Int) := by
    rw [hw1, hw2, Int.tmod_eq_emod_of_nonneg (by omega), hix]
    congr 1; omega
  rw [← hraw] at HK
  have hN0 : ((N : Int) == 0) = false := by rw [beq_eq_false_iff_ne]; omega
  have hN1 : ¬ N = 0 := by omega
  clear hw1 hw2 hraw hix hkey hy hs hN
  obtain ⟨mc, md, ms, mm, ml⟩ := mk
  unfold MK.v at *
  go_enter Tryd.func28, Tryd.ntmps28
  go_wp2_with fail
  generalize hw0 : World.alloc _ _ = w0
  obtain ⟨e0, S0⟩ := mk_box (mk := ⟨mc, md, ms, mm, ml⟩) hw0
  clear hw0
  have HCel : Hid (∀ w', Ext w0 w' → w'.cell? ⟨w.heap.size, 0, none⟩ = some (.int .i64 mc) ∧ w'.cell? ⟨w.heap.size, 1, none⟩ = some (.int .i64 md) ∧ w'.cell? ⟨w.heap.size, 2, none⟩ = some (.int .i64 ms) ∧ w'.cell? ⟨w.heap.size, 3, none⟩ = some (.int .i64 mm) ∧ w'.cell? ⟨w.heap.size, 4, none⟩ = some (.int .i64 ml)) := fun w' e => S0.ext e
  clear S0
  have HB : Hid (w.heap.size ≤ w0.heap.size) := e0.size
  go_region_held3 (fun w' => w'.cell? ⟨w.heap.size, 0, none⟩ = some (.int .i64 mc) ∧ w'.cell? ⟨w.heap.size, 1, none⟩ = some (.int .i64 md) ∧ w'.cell? ⟨w.heap.size, 2, none⟩ = some (.int .i64 ms) ∧ w'.cell? ⟨w.heap.size, 3, none⟩ = some (.int .i64 mm) ∧ w'.cell? ⟨w.heap.size, 4, none⟩ = some (.int .i64 ml)) (exact HCel.out _ (by repeat (first | exact Ext.refl _ | assumption | (refine Ext.trans ?_ (Ext.alloc _ _)) | (refine Ext.trans ?_ (Ext.drew _)) | (refine Ext.trans ?_ (by assumption))))) (first | (go_at_call 42; (with_reducible refine (HK.out _).mono ?_); rintro e w5 hr5; obtain ⟨r5, rfl, ⟨u5, rfl, o5, -⟩, e5⟩ := ret_ext hr5; clear hr5; have e45 : Ext w0 w5 := (by repeat (first | exact Ext.refl _ | assumption | (refine Ext.trans ?_ (Ext.alloc _ _)) | (refine Ext.trans ?_ (Ext.drew _)) | (refine Ext.trans ?_ (by assumption)))); have o5' := OwnP.lower (B' := w0.heap.size) o5 (Ext.size (by repeat (first | exact Ext.refl _ | assumption | (refine Ext.trans ?_ (Ext.alloc _ _)) | (refine Ext.trans ?_ (Ext.drew _)) | (refine Ext.trans ?_ (by assumption)))))) | fail)
  all_goals go_wp2_with fail
  all_goals go_ret
  all_goals exact ⟨_, rfl, OwnP.lower o5' HB.out, e0.trans e45⟩

set_option maxRecDepth 20000 in
set_option maxHeartbeats 1000000 in
theorem ReadStamp_c (w : World) (hT : Pow10 w) (mk : MK) (s : ByteArray) (hs : s.size ≤ maxLen) (sec : Int) :
    Calls Tryd.prog 11 #[mk.v, .string s, .int .i64 sec] w (Ret w fun r w' => ReadOut mk s.data.toList sec w.heap.size r w') := by
  have HC := Lib.hid (fun (w' : World) => CountKeys_c w' mk)
  have hcn : (allK mk).length = countM mk := rfl
  rw [hcn] at HC
  have HRd := Lib.hid (fun (h : isMaker mk = true) (w' : World) (e : Ext w w') => readStamp_c w' (hT.ext e) (countM mk) (countM_le (mkOk h)) s hs)
  have hln : (Lib.decDigits (countM mk)).length = lenM mk := rfl
  rw [hln] at HRd
  unfold ReadRes at HRd
  have HNm : Hid (isMaker mk = true → countM mk ≤ 262144) := fun h => countM_le (mkOk h)
  have HY := Lib.hid (fun (h : readB (lenM mk) (countM mk) s.data.toList = true) => readB_yes h)
  have HKW := Lib.hid (fun (hm : isMaker mk = true) (hy : 0 ≤ numI s.data.toList (lenM mk) ∧ numI s.data.toList (lenM mk) < countM mk) (hs : 0 ≤ sec ∧ sec ≤ (countM mk : Int) - 1) (hix : (idxM mk s.data.toList sec : Int) = (numI s.data.toList (lenM mk) + (countM mk : Int) - sec) % (countM mk : Int)) (key : List Int) (hkey : (allK mk)[idxM mk s.data.toList sec]? = some key) (w' : World) => keyWith_c w' mk hm (numI s.data.toList (lenM mk)) sec hy hs (idxM mk s.data.toList sec) hix key hkey)
  have HKey : Hid (0 < countM mk → ∃ key, (allK mk)[idxM mk s.data.toList sec]? = some key) := fun h => ⟨_, List.getElem?_eq_getElem (idxM_lt h)⟩
  have HIx : Hid (idxM mk s.data.toList sec = ((numI s.data.toList (lenM mk) + (countM mk : Int) - sec) % (countM mk : Int)).toNat) := rfl
  have HCd : Hid (codeM mk 0 sec = if isMaker mk = true then (if (inB 0 0 25 && inB sec 0 ((countM mk : Int) - 1)) = true then 0 else 2) else 1) := rfl
  have HRO : Hid (∀ r w', ((codeM mk 0 sec ≠ 0 → r = .tuple #[.slice none 0 0, .int .i64 0, .int .i64 (codeM mk 0 sec)]) ∧
    (codeM mk 0 sec = 0 → readB (lenM mk) (countM mk) s.data.toList = false → r = .tuple #[.slice none 0 0, .int .i64 0, .int .i64 6]) ∧
    (codeM mk 0 sec = 0 → readB (lenM mk) (countM mk) s.data.toList = true → ∃ u key, r = .tuple #[u, .int .i64 ((byteN s.data.toList 0 : Int) - 65), .int .i64 0] ∧ OwnP (Value.int .i64) 2 w.heap.size w' u key ∧ (allK mk)[idxM mk s.data.toList sec]? = some key)) → ReadOut mk s.data.toList sec w.heap.size r w') := fun r w' h => h
  clear hcn hln hT hs
  generalize ReadOut mk s.data.toList sec w.heap.size = RO at *
  generalize idxM mk s.data.toList sec = ix at *
  generalize codeM mk 0 sec = cd at *
  generalize lenM mk = W at *
  generalize countM mk = N at *
  generalize readB W N s.data.toList = b at *
  generalize isMaker mk = q at *
  generalize allK mk = AK at *
  generalize numI s.data.toList W = nn at *
  generalize byteN s.data.toList 0 = b0 at *
  obtain ⟨c, d, s', m, l⟩ := mk
  unfold MK.v at *
  go_enter Tryd.func11, Tryd.ntmps11
  go_wp2_with fail
  generalize hw2 : World.alloc w _ = w1
  obtain ⟨e1, S1⟩ := mk_box (mk := ⟨c, d, s', m, l⟩) hw2
  clear hw2
  have HS := Lib.hid S1
  obtain ⟨c0, c1, c2, c3, c4⟩ := S1
  go_wp2_with fail
  refine Calls.mono (HC.out w1) ?_
  rintro e w2 hr
  obtain ⟨r, rfl, rfl, e2⟩ := ret_ext hr
  clear hr c0 c1 c2 c3 c4
  have et := e1.trans e2
  cases q with
  | false =>
    have hcd : cd = 1 := HCd.out
    subst hcd
    clear HCd HRd HKW
    go_wp2_with fail
    go_ret3
    exact ⟨_, rfl, HRO.out _ _ ⟨fun _ => rfl, fun h => absurd h (by decide), fun h => absurd h (by decide)⟩, et⟩
  | true =>
    have hN := HNm.out rfl
    have HRd' := Lib.hid (HRd.out rfl)
    have HKW' := Lib.hid (HKW.out rfl)
    have HCd' : Hid (cd = if inB sec 0 ((N : Int) - 1) = true then 0 else 2) := HCd.out
    clear HRd HNm HKW HCd
    have hwN : IntKind.i64.wrap ((N : Int) - 1) = (N : Int) - 1 := IntWalk.i64_in _ (by omega)
    go_wp2_with fail
    refine Calls.mono (within_c w2 sec 0 ((N : Int) - 1)) ?_
    rintro e w3 hr
    obtain ⟨rfl, hd3, g3⟩ := retq_ext hr
    clear hr
    have et3 := et.trans g3
    cases h0 : inB sec 0 ((N : Int) - 1) with
    | false =>
      have hcd : cd = 2 := by rw [HCd'.out, if_neg (by rw [h0]; decide)]
      subst hcd
      clear HCd' HRd' HKW' h0
      go_wp2_with fail
      go_ret3
      exact ⟨_, rfl, HRO.out _ _ ⟨fun _ => rfl, fun h => absurd h (by decide), fun h => absurd h (by decide)⟩, et3⟩
    | true =>
      have h0' := inB_iff.1 h0
      have hcd : cd = 0 := by rw [HCd'.out, if_pos h0]
      subst hcd
      have HRd2 := Lib.hid (HRd'.out w3 et3)
      clear HCd' HRd' h0
      go_wp2_with fail
      refine Calls.mono HRd2.out ?_
      rintro e w4 hr
      obtain ⟨r, rfl, ⟨x, y, rfl, hxy⟩, e4⟩ := ret_ext hr
      clear hr
      have et4 := et3.trans e4
      cases b with
      | false =>
        clear hxy HRd2 HY HKW'
        go_wp2_with fail
        go_ret3
        exact ⟨_, rfl, HRO.out _ _ ⟨fun h => absurd rfl h, fun _ _ => rfl, fun _ h => by cases h⟩, et4⟩
      | true =>
        obtain ⟨rfl, rfl⟩ := hxy rfl
        obtain ⟨-, h65, h90, hn0, hn1, -⟩ := HY.out rfl
        have hm0 := Int.emod_nonneg (y + (N : Int) - sec) (show (N : Int) ≠ 0 by omega)
        obtain ⟨key, hkey⟩ := HKey.out (by omega)
        have HK := Lib.hid (HKW'.out ⟨hn0, hn1⟩ h0' (by rw [HIx.out]; omega) key hkey)
        have HKk := Lib.hid hkey
        obtain ⟨c0, c1, c2, c3, c4⟩ := HS.out.ext ((e2.trans g3).trans e4)
        have HB : Hid (w.heap.size ≤ w4.heap.size) := et4.size
        clear HRd2 HY HKW' HKey HIx h65 h90 hn0 hn1 h0' hm0 hkey
        go_wp2_with fail
        refine Calls.mono (HK.out w4) ?_
        rintro e w5 hr
        obtain ⟨r5, rfl, o5, e5⟩ := ret_ext hr
        clear hr
        have HO := Lib.hid (OwnP.lower o5 HB.out)
        obtain ⟨a5, n5, k5, rfl, -⟩ := OwnP.shape o5
        clear o5
        go_wp2_with fail
        go_ret3
        exact ⟨_, rfl, HRO.out _ _ ⟨fun h => absurd rfl h, fun _ h => by (cases h), fun _ _ => ⟨_, key, rfl, HO.out, HKk.out⟩⟩, et4.trans e5⟩
end Go.Proofs.YtnndaboaeijbkaaDoor
