/- Proved: the laws' own marks in a list of lists whose rows lie among those of another. -/
import Derived.Test.YtkeikjedbfomnaaGreatDoorChecked
import Derived.Test.YtkeikjedbfomnaaGreatDoorUPkL
import Derived.Test.YtkeikjedbfomnaaGreatDoorUPkA
import Derived.Test.YtkeikjedbfomnaaGreatDoorUPkB
namespace Go.Proofs.YtkeikjedbfomnaaGreatDoor
open Go.ChangeShapes Go.WideShapes Go.ChangeAt Go.RowKit
set_option linter.unusedVariables false

/-- only blocks of A have been written -/
structure OnlyA (A : Nat → Prop) (w w' : World) : Prop where
  os : w'.os = w.os
  tape : w'.tape = w.tape
  output : w'.output = w.output
  size : w'.heap.size = w.heap.size
  block : ∀ k, ¬ A k → w'.heap[k]? = w.heap[k]?
theorem OnlyA.refl (A : Nat → Prop) (w : World) : OnlyA A w w := ⟨rfl, rfl, rfl, rfl, fun _ _ => rfl⟩
theorem OnlyA.within {A : Nat → Prop} {Y : Zone} {w w1 w2 : World} (h : OnlyA A w w1) (hw : Within Y w1 w2) (hY : ∀ k, Y.Has k → A k) : OnlyA A w w2 :=
  ⟨hw.os.trans h.os, hw.tape.trans h.tape, hw.output.trans h.output, hw.size.trans h.size, fun k hk => (hw.block k (fun q => hk (hY k q))).trans (h.block k hk)⟩
/-- nothing has been written but from block lo on and below block hi -/
structure Past (lo hi : Nat) (w w' : World) : Prop where
  os : w'.os = w.os
  tape : w'.tape = w.tape
  output : w'.output = w.output
  size : w.heap.size ≤ w'.heap.size
  block : ∀ k, k < w.heap.size → ¬ (lo ≤ k ∧ k < hi) → w'.heap[k]? = w.heap[k]?
section
variable {lo hi : Nat} {w w' w'' : World}
theorem Past.refl (lo hi : Nat) (w : World) : Past lo hi w w := ⟨rfl, rfl, rfl, Nat.le_refl _, fun _ _ _ => rfl⟩
theorem Past.trans (h : Past lo hi w w') (k : Past lo hi w' w'') : Past lo hi w w'' :=
  ⟨k.os.trans h.os, k.tape.trans h.tape, k.output.trans h.output, Nat.le_trans h.size k.size, fun i hi hn => (k.block i (Nat.lt_of_lt_of_le hi h.size) hn).trans (h.block i hi hn)⟩
theorem Past.ext (e : Ext w w') : Past lo hi w w' := ⟨Below.os e, Below.tape e, Below.output e, Below.size e, fun k hk _ => Below.block e k hk⟩
theorem Past.only {A : Nat → Prop} (h : OnlyA A w w') (hA : ∀ k, A k → lo ≤ k ∧ k < hi) : Past lo hi w w' :=
  ⟨h.os, h.tape, h.output, by rw [h.size]; exact Nat.le_refl _, fun k _ hn => h.block k (fun q => hn (hA k q))⟩
theorem Past.cell (h : Past lo hi w w') {p : Addr} {u : Value} (hp : ¬ (lo ≤ p.block ∧ p.block < hi)) (hc : w.cell? p = some u) : w'.cell? p = some u :=
  (World.cell?_of_block (h.block _ (World.block_lt_of_cell? _ _ hc) hp)).trans hc
theorem Past.sys {b : Nat} {mk : MK} {u : Value} (h : Past lo hi w w') (s : SysAt w b mk u) (hb : ¬ (lo ≤ b ∧ b < hi)) : SysAt w' b mk u :=
  ⟨h.cell hb s.c0, h.cell hb s.c1, h.cell hb s.c2, h.cell hb s.c3, h.cell hb s.c4, h.cell hb s.c5⟩
theorem Past.rows {z : Zone} {v : Value} {t : List (List Int)} (h : Past lo hi w w') (r : RowsR z w v t) (hz : z.hi ≤ lo) : RowsR z w' v t :=
  stable_rows.keep r (fun k hk hlt => h.block k hlt (fun q => by have := hk.2; omega))
/-- for a world before lo -/
theorem Past.toExt {a : World} (h : Past lo hi w w') (e : Ext a w) (hl : a.heap.size ≤ lo) : Ext a w' :=
  Below.trans e ⟨h.os, h.tape, h.output, h.size, fun k hk => h.block k (Nat.lt_of_lt_of_le hk e.size) (by omega)⟩
end
/-- the blocks of A are as they were -/
theorem OwnA.keepM {α : Type} {b : Bool} {A : Nat → Prop} {E : Repr α} {e : TypeId} {B : Nat} {w w' : World} {v : Value} {xs : List α} (hE : Stable E) (h : OwnA b A E e B w v xs) {F : Nat → Prop} (hw : OnlyA F w w') (hA : ∀ k, A k → ¬ F k) (hv : ∀ k, v.ownBlock = some k → ¬ F k) : OwnA b A E e B w' v xs := by
  obtain ⟨us, Z, hl, ⟨ho1, ho2⟩, h1, h2, h3⟩ := h
  refine ⟨us, Z, hl, ⟨ho1, ?_⟩, fun i hi => ⟨(h1 i hi).1, fun k hk => ?_⟩, h2, fun i hi hi' => hE.keep (h3 i hi hi') (fun k hz _ => hw.block k (hA k ((h1 i hi).2 k hz).1))⟩
  · rcases ho2 with ho2 | ⟨g, cap, cur, he, hb, hg, r⟩
    · exact .inl ho2
    · exact .inr ⟨g, cap, cur, he, hb, (hw.block g (hv g (by rw [he]; rfl))).trans hg, r⟩
  · have q := (h1 i hi).2 k hk
    exact ⟨q.1, by rw [hw.size]; exact q.2.1, q.2.2⟩

/-- a row's own zone, written by whoever -/
theorem OwnA.inner {α : Type} {E : Repr α} (hE : Stable E) {A : Nat → Prop} {e : TypeId} {B : Nat} {w : World} {v : Value} {xs : List α} (h : OwnA true A E e B w v xs) (i : Nat) (hi : i < xs.length) :
    ∃ b n cap u Y, v = .slice (some ⟨b, 0, Option.none⟩) n cap ∧ n = xs.length ∧ w.cell? ⟨b, i, Option.none⟩ = some u ∧ E Y w u xs[i] ∧ (∀ k, Y.Has k → A k) ∧ Y.own = true ∧
      ∀ w' x', Within Y w w' → E Y w' u x' → OwnA true A E e B w' v (xs.set i x') := by
  obtain ⟨us, Z, hl, ho, h1, h2, h3⟩ := h
  obtain ⟨hoB, ho2⟩ := ho
  rcases ho2 with ⟨rfl, h0⟩ | ⟨g, cap, cur, rfl, hb, hg, hnc, hcm, hcs, htake⟩
  · omega
  · have hi2 : i < us.length := by omega
    refine ⟨g, _, cap, slV us[i], Z i, rfl, hl, ?_, h3 i hi hi2, fun k hk => ((h1 i hi).2 k hk).1, (h1 i hi).1 rfl, fun w' x' hw hx => ?_⟩
    · rw [cell_of_row w g i cur e (0, 0) hg]
      have : (cur.toList.take (us.length * 1))[i]? = (us.map slV)[i]? := by rw [htake]
      rw [List.getElem?_take, if_pos (by omega)] at this
      simpa [hi2] using this
    · have hblk : w'.heap[g]? = w.heap[g]? := hw.block g (fun hk => ((h1 i hi).2 g hk).2.2 rfl)
      refine ⟨us, Z, by simpa using hl, ⟨by first | exact hoB | (rw [hw.size]; exact hoB), .inr ⟨g, cap, cur, rfl, hb, hblk.trans hg, hnc, hcm, hcs, htake⟩⟩, fun j hj => ⟨(h1 j (by simpa using hj)).1, fun k hk => ?_⟩, fun hh a b hab hb' => h2 hh a b hab (by simpa using hb'), fun j hj hj' => ?_⟩
      · have q := (h1 j (by simpa using hj)).2 k hk
        exact ⟨q.1, by rw [hw.size]; exact q.2.1, q.2.2⟩
      · have hjl : j < xs.length := by simpa using hj
        by_cases e : j = i
        · subst e
          rw [List.getElem_set_self]; exact hx
        · rw [List.getElem_set_ne (by omega)]
          refine hE.within (h3 j hjl hj') hw ?_
          rcases Nat.lt_or_gt_of_ne e with hlt | hgt
          · exact h2 rfl j i hlt hi
          · exact fun k a b => h2 rfl i j hgt hjl k b a

/-- what markInt64SS leaves of rows that lie in A -/
def MarksOwn (w : World) (A : Nat → Prop) (B : Nat) (v : Value) (k : Int) (xss : List (List Int)) (e : Ending) (w' : World) : Prop := e = .returned (.int .i64 (k + (offs xss xss.length : Int))) ∧ OwnA true A IntsR 46 B w' v (markRows k xss) ∧ OnlyA A w w'

set_option maxHeartbeats 400000 in
theorem markInt64SS_own (w : World) (v : Value) (A : Nat → Prop) (B : Nat) (xss : List (List Int)) (k0 : Int) (h : OwnA true A IntsR 46 B w v xss) (h0 : 0 ≤ k0) (h1 : k0 + (offs xss xss.length : Int) ≤ 4611686018427387904) :
    Calls Tryz.prog 10 #[v, .int .i64 k0] w (MarksOwn w A B v k0 xss) := by
  obtain ⟨a, n, cap, rfl, hn, hmax⟩ := OwnA.shape h
  have Hn := Lib.hid hn; clear hn
  have H := Lib.hid h; clear h
  have H1 := Lib.hid h1; clear h1
  go_enter Tryz.func10, Tryz.ntmps10
  go_wp2
  go_loopw [1, 5] (fun s t wr => ∃ i : Nat, i ≤ n ∧ t = .int .i64 i ∧ s = .int .i64 (k0 + (offs xss i : Int)) ∧ OwnA true A IntsR 46 B wr (.slice a n cap) ((markRows k0 xss).take i ++ xss.drop i) ∧ OnlyA A w wr) (fun _ t _ => n - (intOf t).toNat)
  case atStart => exact ⟨0, Nat.zero_le _, rfl, by simp [offs], by simpa using H.out, OnlyA.refl _ _⟩
  case round =>
    obtain ⟨i, hi, rfl, rfl, hr, hw⟩ := hrel
    have hn := Hn.out
    have hml := markRows_length k0 xss
    by_cases hlt : i < n
    · have hil : i < ((markRows k0 xss).take i ++ xss.drop i).length := by simp; omega
      obtain ⟨b, n', cap', u, Y, he, hn', hc, hu, hY, hYo, hput⟩ := OwnA.inner stable_ints hr i hil
      injection he with e1 e2 e3
      subst e1; subst e3
      have hx : ((markRows k0 xss).take i ++ xss.drop i)[i] = xss[i]'(by omega) := by
        rw [List.getElem_append_right (by simp; omega)]
        simp [show min i (markRows k0 xss).length = i by omega]
      rw [hx] at hu
      have Hs := Lib.hid (offs_succ (xss := xss) (k := i) (by omega))
      have hle := offs_le xss (i+1)
      have hle' : k0 + ((offs xss (i + 1) : Nat) : Int) ≤ 4611686018427387904 := by have := H1.out; omega
      have He := Lib.hid (markRows_set k0 xss i (by omega))
      have Hput := Lib.hid hput
      have HY := Lib.hid hY
      have Hw := Lib.hid hw
      clear hput hle hY hw
      generalize hxs : xss[i]'(by have := Hn.out; omega) = x at *
      clear hxs hx hr hil hml e2 hn' hn
      generalize hoi : offs xss i = oi at *
      have hb1 : k0 + (oi : Int) + (x.length : Int) ≤ 4611686018427387904 := by rw [Hs.out] at hle'; omega
      clear hle'
      go_wp2_with (go_at_call 32; refine (markInt64S_c _ _ _ x _ hu hYo (by omega) hb1).mono ?_; rintro e w2 ⟨rfl, hr2, hw2⟩)
      go_roundw
      case rel => exact ⟨i + 1, by omega, by go_num, by rw [Hs.out]; go_num, by rw [← He.out]; exact Hput.out _ _ hw2 hr2, Hw.out.within hw2 HY.out⟩
      case measure => simp [intOf]; omega
    · have hin : i = n := by omega
      clear hml
      go_wp2
      go_ret
      refine ⟨?_, ?_, hw⟩
      · rw [← hn, ← hin]; rfl
      · rw [hin, hn, List.drop_length, List.append_nil, List.take_of_length_le (by rw [markRows_length]; exact Nat.le_refl _)] at hr
        rw [hn]; exact hr

/-- what markSystem leaves: a box more, and the table's numbers marked -/
def MarkSysOwn (w : World) (A : Nat → Prop) (B : Nat) (v : Value) (k : Int) (xss : List (List Int)) (e : Ending) (w' : World) : Prop :=
  e = .returned (.int .i64 (k + (offs xss xss.length : Int))) ∧ OwnA true A IntsR 46 B w' v (markRows k xss) ∧ ∃ w1, Below w.heap.size w w1 ∧ OnlyA A w1 w'
set_option maxHeartbeats 400000 in
theorem markSystem_own (w : World) (mk : MK) (v : Value) (A : Nat → Prop) (B : Nat) (t : List (List Int)) (k0 : Int) (h : OwnA true A IntsR 46 B w v t) (h0 : 0 ≤ k0) (h1 : k0 + (offs t t.length : Int) ≤ 4611686018427387904) :
    Calls Tryz.prog 9 #[sysV mk v, .int .i64 k0] w (MarkSysOwn w A B v k0 t) := by
  have hcall := fun (wq : World) (hb : Below w.heap.size w wq) => markInt64SS_own wq v A B t k0 (OwnA.below stable_ints h hb) h0 h1
  obtain ⟨a, n, cap, rfl, -⟩ := OwnA.shape h
  clear h1
  unfold sysV
  generalize he : (Value.int .i64 (k0 + (offs t t.length : Int))) = r at *
  have HE := Lib.hid he
  clear he
  go_enter Tryz.func9, Tryz.ntmps9
  go_wp2_with fail
  generalize hw0 : World.alloc _ _ = w0
  obtain ⟨e0, S0⟩ := sys_box hw0
  clear hw0
  refine Calls.mono (hcall w0 e0) ?_
  rintro e w1 ⟨rfl, r1, hw1⟩
  go_wp2_with fail
  go_ret
  exact ⟨rfl, r1, w0, e0, hw1⟩
end Go.Proofs.YtkeikjedbfomnaaGreatDoor
