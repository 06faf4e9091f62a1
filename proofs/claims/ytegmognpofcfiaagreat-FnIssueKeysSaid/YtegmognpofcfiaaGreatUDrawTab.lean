/- Proved: the draw of an access table: spec.l11Valid, spec.l11Draw. -/
import Derived.Test.YtegmognpofcfiaaGreatChecked
import Derived.Deep.RegionHeld3
import Derived.Deep.Cut
import Derived.Test.YtegmognpofcfiaaGreatUDrawPlans
namespace Go.Proofs.YtegmognpofcfiaaGreat
open Go.ChangeShapes Go.WideShapes Go.ChangeAt Go.RowKit
set_option linter.unusedVariables false

/-- 'append(s, r)' among draws, the rows apart -/
theorem wpList_drawRowT {α : Type} {E : Repr α} {P : Program} {ops : Array Oper} {rest : List Oper} {o : Oper} {a : Act} {Q : Exit → Act → World → Prop} {w0 w : World} {v : Value} {xs : List α} {B L g : Nat} {e : TypeId} (hE : Stable E) (hsl : SlRepr E) (hgd : o.guard = Option.none) (s x : Operand) (t : TypeId)
    (ho : o.op = .call { callee := .builtin .append, args := #[s, x], argTypes := #[t, t] }) (ht : P.underlying t = some (.slice e)) (hinfo : (P.info? e).map (fun i => (i.zero, i.size, i.bytes)) = some (some (.slice Option.none 0 0), 1, 24))
    (hs : a.eval s = v) {lo : Nat} (hown : OwnA true (fun k => L ≤ k ∧ k < lo) E e B w v xs) (u : Option Addr × Nat × Nat) (y : α) (hu : E ⟨lo, w.heap.size, true⟩ w (slV u) y) {gx : Nat} (hgx : w.heap.size = gx) (hx : a.eval x = .slice (some ⟨gx, 0, Option.none⟩) 1 1) (hn : xs.length ≤ 1000000)
    (hL : L ≤ lo) (hlw : lo ≤ w.heap.size) (hv : ∀ k, v.ownBlock = some k → k < lo) (hd : Dr g w0 w) (hB : w0.heap.size ≤ B) (hBw : B ≤ w.heap.size)
    (h : ∀ v' w', OwnA true (fun k => L ≤ k) E e B w' v' (xs ++ [y]) → Dr g w0 w' → w.heap.size ≤ w'.heap.size → wpList P ops Q rest (a.put o.dst v') w') : wpList P ops Q (o :: rest) a (w.alloc (.cells #[slV u] e)) := by
  subst hgx
  have hb : Below w.heap.size w (w.alloc (.cells #[slV u] e)) := (Below.refl _ _).alloc (Nat.le_refl _) _
  refine wpList_append_of hgd s x t ho hs hx (fun ty => run_appendRowsZ (b := true) (A := fun k => L ≤ k) (w0 := w) (Zn := ⟨lo, w.heap.size + 1, true⟩) hE hsl t ty ht hinfo (fun k _ hk => hk.1) hown hb (SliceR.one (e := e) hE hu (Nat.le_refl _) (Nat.le_refl _) hlw) (fun _ => rfl) (fun k hk => ⟨Nat.le_trans hL hk.1, by have := hk.2; simpa using this, fun e => by have h1 := hv k e; have h2 : lo ≤ k := hk.1; omega⟩) (fun _ k hk _ ha => by have h1 : lo ≤ k := hk.1; have h2 := ha.2; omega) (by simp only [List.length_cons, List.length_nil]; omega) hBw) (fun v' w' h' => ?_)
  obtain ⟨h1, h2, -⟩ := h'
  exact h v' w' h1 ((hd.alloc _).own h2 (fun k hk => Nat.le_trans hB (OwnA.block hown k hk).1)) (Nat.le_trans (Nat.le_of_lt (by simp)) h2.size)
theorem OwnR.cap {α : Type} {b : Bool} {L : Nat} {E : Repr α} {e : TypeId} {B : Nat} {w : World} {v : Value} {xs : List α} (h : OwnR b L E e B w v xs) : OwnA b (fun k => L ≤ k ∧ k < w.heap.size) E e B w v xs := OwnA.weaken h (fun k hk ha => ⟨ha, hk⟩)
theorem OwnA.drA {α : Type} {E : Repr α} (hE : Stable E) {A : Nat → Prop} {e : TypeId} {B : Nat} {w w' : World} {v : Value} {xs : List α} {g : Nat} {b : Bool} (h : OwnA b A E e B w v xs) (hd : Dr g w w') (hg : g < B) (hA : ¬ A g) : OwnA b A E e B w' v xs := by
  cases hv : v.ownBlock with
  | none => exact OwnA.kept hE h hd.grown (.inl hv) (fun k hk => by injection hk with hk; subst hk; exact hA)
  | some k => exact OwnA.kept hE h hd.grown (.inr (by rw [hv]; intro e; injection e with e; have := (OwnA.block h k hv).1; omega)) (fun k hk => by injection hk with hk; subst hk; exact hA)

/-- a pick among numbers that have just been laid -/
theorem pickL_c (w : World) (g : Nat) (h : Src g w) (ys : List Int) (cs : Array Value) (hc : cs.toList = ys.map (Value.int .i64)) (hm : ∀ y ∈ ys, I64 y) (h0 : 0 < ys.length) (hs : ys.length ≤ 1000) {gx n : Nat} (hgx : w.heap.size = gx) (hn : ys.length = n) :
    Calls Tryz.prog 92 #[.pointer (some ⟨g, 0, none⟩), .slice (some ⟨gx, 0, none⟩) n n] (w.alloc (.cells cs 2)) (DrawR g (w.alloc (.cells cs 2)) fun r _ => ∃ y, r = .int .i64 y ∧ y ∈ ys) := by
  subst hgx; subst hn
  have hlit := OwnP.ints (OwnP.lit (f := Value.int .i64) (e := 2) (B := w.heap.size) (Nat.le_refl _) ys cs hc (by unfold maxLen; omega)) hm (Nat.le_refl _)
  refine (l01Pick_c _ g (h.alloc _) _ _ _ hlit (.inl h.lt) h0).mono ?_
  rintro e w' ⟨v, rfl, ⟨y, hy, rfl⟩, hd⟩
  exact ⟨_, rfl, ⟨y, rfl, hy⟩, hd⟩

def Tab11 (w : World) (r : Value) (w' : World) : Prop := ∃ t : List (List Int), OwnR true w.heap.size IntsR 29 w.heap.size w' r t ∧ 1 ≤ t.length ∧ t.length ≤ 5 ∧ ∀ x ∈ t, 1 ≤ x.length ∧ x.length ≤ 10
set_option maxRecDepth 20000 in
set_option maxHeartbeats 4000000 in
theorem l11Valid_c (w : World) (g : Nat) (h : Src g w) : Calls Tryz.prog 256 #[.pointer (some ⟨g, 0, none⟩)] w (DrawR g w (Tab11 w)) := by
  have hlt := h.lt
  have hcall := l01Next_c w g h 3 (by unfold I64; omega)
  clear h
  go_enter Tryz.func256, Tryz.ntmps256
  go_wp2_with fail
  refine Calls.mono hcall ?_
  rintro e w1 ⟨_, rfl, ⟨x, rfl, hx0, hx1⟩, hd1⟩
  clear hcall
  have hs1 := hd1.size
  by_cases e0 : x = 0
  · subst e0
    have hcall := l10Valid_c w1 g hd1.src
    go_wp2_with fail
    refine Calls.mono hcall ?_
    rintro e w2 ⟨_, rfl, ⟨up, ud, ur, ps, ds, rs, rfl, hB, hp, hds, hrs, h1, h4⟩, hd2⟩
    clear hcall
    have hcall := l10Access_c w2 up ud ur _ _ _ ps ds hB hp hds rs hrs h1 h4
    have hd3 := hd1.trans hd2
    obtain ⟨a1, n1, c1, rfl, -⟩ := SliceR.shape hp
    obtain ⟨a2, n2, c2, rfl, -⟩ := SliceR.shape hds
    obtain ⟨a3, n3, c3, rfl, -⟩ := SliceR.shape hrs
    clear hB hp hds hrs
    go_wp2_with fail
    refine Calls.mono hcall ?_
    rintro e w3 ⟨_, rfl, ⟨t, hr, t1, t2, t3⟩, hb⟩
    clear hcall
    have hs2 := hd3.size
    have HR : Hid (OwnR true w.heap.size IntsR 29 w.heap.size w3 _ t) := OwnR.lower hr hs2 hs2
    have HD := Lib.hid (hd3.below hb)
    obtain ⟨a4, n4, c4, rfl, -⟩ := OwnA.shape hr
    have HT : Hid (∀ x ∈ t, 1 ≤ x.length ∧ x.length ≤ 10) := t3
    clear hr hb t3
    go_wp2_with fail
    go_ret
    exact ⟨_, rfl, ⟨t, HR.out, t1, t2, HT.out⟩, HD.out⟩
  · have b0 : (x == 0) = false := by simpa using e0
    have hcall := l01Next_c _ g hd1.src 4 (by unfold I64; omega)
    go_wp2_with fail
    refine Calls.mono hcall ?_
    rintro e w2 ⟨_, rfl, ⟨x2, rfl, h20, h21⟩, hd2⟩
    clear hcall
    have hcall := l01Next_c _ g hd2.src 5 (by unfold I64; omega)
    replace hd2 := hd1.trans hd2
    go_wp2_with fail
    refine Calls.mono hcall ?_
    rintro e w3 ⟨_, rfl, ⟨x3, rfl, h30, h31⟩, hd3⟩
    clear hcall
    replace hd3 := hd2.trans hd3
    obtain ⟨rw', hrw⟩ : ∃ n : Nat, 1 + x2 = n := ⟨(1 + x2).toNat, by omega⟩
    obtain ⟨cl, hcl⟩ : ∃ n : Nat, 1 + x3 = n := ⟨(1 + x3).toNat, by omega⟩
    have hrw4 : 1 ≤ rw' ∧ rw' ≤ 4 := by omega
    have hcl5 : 1 ≤ cl ∧ cl ≤ 5 := by omega
    clear h20 h21 h30 h31 hx0 hx1 e0 hd1 hd2
    go_wp2_with fail
    try rw [hrw]
    try rw [hcl]
    clear hrw hcl
    have hs3 := hd3.size
    have o1 : OwnR true w.heap.size IntsR 29 w.heap.size (w3.alloc (.cells #[] 29)) (.slice (some ⟨w3.heap.size, 0, none⟩) 0 0) [] := OwnR.empty hs3
    have d1 := hd3.alloc (.cells #[] 29)
    generalize w3.alloc (.cells #[] 29) = w4 at *
    go_loopw [5, 6, 7, 8] (fun s5 s6 _ _ wr => ∃ (k : Nat) (t : List (List Int)), s6 = .int .i64 k ∧ k ≤ rw' ∧ t.length = k ∧ OwnR true w.heap.size IntsR 29 w.heap.size wr s5 t ∧ (∀ x ∈ t, x.length = cl) ∧ Dr g w wr) (fun _ s6 _ _ _ => rw' - (intOf s6).toNat)
    case atStart => exact ⟨0, [], rfl, Nat.zero_le _, rfl, o1, by simp, d1⟩
    case round =>
      obtain ⟨k, t, rfl, hk, htl, hown, htn, hd⟩ := hrel
      obtain ⟨wo, rfl⟩ : ∃ wo, wo = wr := ⟨_, rfl⟩
      clear o1 d1
      have HO := Lib.hid hown
      have HTn := Lib.hid htn
      have Htl := Lib.hid htl
      have HD := Lib.hid hd
      have hsz := hd.size
      have hgr : g < wo.heap.size := by omega
      by_cases hlt2 : k < rw'
      · clear hown htn htl
        go_wp2_with fail
        have oi : OwnP (Value.int .i64) 2 wo.heap.size (wo.alloc (.cells #[] 2)) (.slice (some ⟨wo.heap.size, 0, none⟩) 0 0) [] := OwnP.empty (Nat.le_refl _)
        have di : Dr g wo (wo.alloc (.cells #[] 2)) := (Dr.refl hd.src).alloc _
        generalize wo.alloc (.cells #[] 2) = wi at *
        clear hd
        go_loopw [7, 8] (fun s7 s8 wx => ∃ (i : Nat) (l : List Int), s8 = .int .i64 i ∧ i ≤ cl ∧ l.length = i ∧ (∀ y ∈ l, I64 y) ∧ OwnP (Value.int .i64) 2 wo.heap.size wx s7 l ∧ Dr g wo wx) (fun _ s8 _ => cl - (intOf s8).toNat)
        case atStart => exact ⟨0, [], rfl, Nat.zero_le _, rfl, by simp, oi, di⟩
        case round =>
          obtain ⟨i, l, rfl, hi, hll, hli, ho, hdx⟩ := hrel
          clear oi di
          have hsx := hdx.size
          by_cases hin : i < cl
          · have hcall := pickL_c wr g hdx.src [0, 1, 1] #[.int .i64 0, .int .i64 1, .int .i64 1] rfl (by simp [I64]) (by simp) (by simp) rfl rfl
            have hd5 := hdx.alloc (.cells #[.int .i64 0, .int .i64 1, .int .i64 1] 2)
            have ho5 := ho.alloc (.cells #[.int .i64 0, .int .i64 1, .int .i64 1] 2)
            have HLi := Lib.hid hli
            have Hll := Lib.hid hll
            clear hdx ho hli hll
            go_wp2_with fail
            refine Calls.mono hcall ?_
            rintro e w7 ⟨_, rfl, ⟨y, rfl, hyl⟩, hd6⟩
            have hy : I64 y := by simp only [List.mem_cons, List.not_mem_nil, or_false] at hyl; unfold I64; omega
            clear hcall hyl
            have hd7 := hd5.trans hd6
            have ho7 := ho5.dr hd6 hgr
            have hs7 := hd7.size
            have hl1 : l.length ≤ 1000000 := by rw [Hll.out]; omega
            clear hd5 hd6 ho5
            go_wp2_with (at_builtin; (refine wpList_drawInt (g := g) (w0 := wo) (B := wo.heap.size) rfl _ _ 29 rfl Tryz.underlying29 Tryz.infoI64 rfl ho7 y rfl hl1 hd7 (Nat.le_refl _) hs7 ?_); intro v8 w8 hown8 hd8 hs8)
            go_wp2_with fail
            exact ⟨⟨i + 1, l ++ [y], by go_num, by omega, by rw [List.length_append, List.length_singleton, Hll.out], ints_snoc HLi.out hy, hown8, hd8⟩, by simp [intOf]; omega⟩
          · have hie : i = cl := by omega
            obtain ⟨a7, n7, c7, rfl, -⟩ := OwnP.shape ho
            have HX : Hid (IntsR ⟨wo.heap.size, wr.heap.size, true⟩ wr (.slice a7 n7 c7) l) := OwnP.ints ho hli (Nat.le_refl _)
            have HLn : Hid (l.length = cl) := hll.trans hie
            have HOr : Hid (OwnA true (fun k => w.heap.size ≤ k ∧ k < wo.heap.size) IntsR 29 w.heap.size wr _ t) := OwnA.drA stable_ints HO.out.cap hdx hlt (fun q => by omega)
            have HV : Hid (∀ k, u5.ownBlock = some k → k < wo.heap.size) := fun k hk => (OwnA.block HO.out k hk).2
            have HL1 : Hid (t.length ≤ 1000000) := by show _ ≤ _; rw [Htl.out]; omega
            have HDx := Lib.hid (HD.out.trans hdx)
            clear ho hli hll hie hdx
            go_wp2_with (at_builtin; (refine wpList_drawRowT (v := u5) (g := g) (w0 := w) (B := w.heap.size) (L := w.heap.size) stable_ints slRepr_slice rfl _ _ 26 rfl Tryz.underlying26 Tryz.infoInts rfl HOr.out (a7, n7, c7) l HX.out rfl rfl HL1.out hsz hsx HV.out HDx.out (Nat.le_refl _) (by omega) ?_); intro v8 w8 hown8 hd8 hs8)
            go_wp2_with fail
            exact ⟨⟨k + 1, t ++ [l], by go_num, by omega, by rw [List.length_append, List.length_singleton, Htl.out], hown8, fun x hx => by
              rcases List.mem_append.1 hx with hx | hx
              · exact HTn.out x hx
              · rw [List.mem_singleton.1 hx]; exact HLn.out, hd8⟩, by simp [intOf]; omega⟩
      · have hke : k = rw' := by omega
        obtain ⟨a4, n4, c4, rfl, -⟩ := OwnA.shape hown
        have HR : Hid (OwnR true w.heap.size IntsR 29 w.heap.size wo (.slice a4 n4 c4) t) := hown
        have HT1 : Hid (t.length = rw') := htl.trans hke
        clear hke hown htn htl hd
        go_wp2_with fail
        go_ret
        exact ⟨_, rfl, ⟨t, HR.out, by rw [HT1.out]; omega, by rw [HT1.out]; omega, fun x hx => by rw [HTn.out x hx]; omega⟩, HD.out⟩

/-- 'append(s, r)' among draws, r a row that lies elsewhere -/
theorem wpList_drawAlias {α : Type} {E : Repr α} {P : Program} {ops : Array Oper} {rest : List Oper} {o : Oper} {a : Act} {Q : Exit → Act → World → Prop} {w0 w : World} {v : Value} {xs : List α} {B g : Nat} {e : TypeId} (hE : Stable E) (hgd : o.guard = Option.none) (s x : Operand) (t : TypeId)
    (ho : o.op = .call { callee := .builtin .append, args := #[s, x], argTypes := #[t, t] }) (ht : P.underlying t = some (.slice e)) (hinfo : (P.info? e).map (fun i => (i.zero, i.size, i.bytes)) = some (some (.slice Option.none 0 0), 1, 24))
    (hs : a.eval s = v) (hown : OwnR false B E e B w v xs) (u : Option Addr × Nat × Nat) (y : α) {Zn : Zone} (hu : E Zn w (slV u) y) (hZ : ∀ k, Zn.Has k → B ≤ k ∧ k < w.heap.size ∧ v.ownBlock ≠ some k) {gx : Nat} (hgx : w.heap.size = gx) (hx : a.eval x = .slice (some ⟨gx, 0, Option.none⟩) 1 1) (hn : xs.length ≤ 1000000)
    (hd : Dr g w0 w) (hB : w0.heap.size ≤ B) (hBw : B ≤ w.heap.size)
    (h : ∀ v' w', OwnR false B E e B w' v' (xs ++ [y]) → Dr g w0 w' → w.heap.size ≤ w'.heap.size → wpList P ops Q rest (a.put o.dst v') w') : wpList P ops Q (o :: rest) a (w.alloc (.cells #[slV u] e)) := by
  subst hgx
  have hb : Below w.heap.size w (w.alloc (.cells #[slV u] e)) := (Below.refl _ _).alloc (Nat.le_refl _) _
  refine wpList_append_of hgd s x t ho hs hx (fun ty => run_appendRowsY (b := false) (A := fun k => B ≤ k) (A0 := fun k => B ≤ k) (w0 := w) (ad := ⟨w.heap.size, 0, Option.none⟩) (cap := 1) (ys := [y]) hE t ty ht hinfo (fun _ _ hk => hk) hown hb (fun _ => Zn) (fun _ _ h => by cases h)
    (fun _ _ k hk => ⟨(hZ k hk).1, by have := (hZ k hk).2.1; simp; omega, (hZ k hk).2.2⟩) (fun h => by cases h) (fun h => by cases h)
    (fun j hj => by
      have hj0 : j = 0 := by simpa using hj
      subst hj0
      refine ⟨u, by rw [Addr.add_zero']; simp, fun hj => ?_⟩
      exact hE.below hu hb) (Nat.le_refl _) (by unfold maxLen; omega) (by simp only [List.length_cons, List.length_nil]; omega) hBw) (fun v' w' h' => ?_)
  obtain ⟨h1, h2, -⟩ := h'
  exact h v' w' h1 ((hd.alloc _).own h2 (fun k hk => Nat.le_trans hB (OwnA.block hown k hk).1)) (Nat.le_trans (Nat.le_of_lt (by simp)) h2.size)
theorem OwnA.unown {α : Type} {A : Nat → Prop} {E : Repr α} {e : TypeId} {B : Nat} {w : World} {v : Value} {xs : List α} {b : Bool} (h : OwnA b A E e B w v xs) : OwnA false A E e B w v xs := by
  obtain ⟨us, Z, hl, ho, h1, h2, h3⟩ := h
  exact ⟨us, Z, hl, ho, fun i hi => ⟨(fun h => by cases h), (h1 i hi).2⟩, (fun h => by cases h), h3⟩
theorem ints_store {z : Zone} {w : World} {b off n c : Nat} {xs : List Int} (h : IntsR z w (.slice (some ⟨b, off, none⟩) n c) xs) (i : Nat) (hi : i < n) {y : Int} (hy : I64 y) : IntsR z (w.setCell ⟨b, off + i, none⟩ (.int .i64 y)) (.slice (some ⟨b, off, none⟩) n c) (xs.set i y) := by
  obtain ⟨a, cap, he, h1, h2, h3, h4⟩ := h
  injection he with e1 e2 e3
  subst e1; subst e2; subst e3
  refine ⟨_, _, by rw [List.length_set], by rw [List.length_set]; exact h1, h2, (fun h => by cases h), fun ad had hp => ?_⟩
  cases had
  obtain ⟨k1, k2, k3, k4, Z, k5, k6, k7⟩ := h4 _ rfl (by omega)
  refine ⟨k1, k2, by simp only [World.setCell, Array.size_modify]; exact k3, fun ho j hj => by rw [World.frozen?_setCell]; exact k4 ho j (by simpa using hj), Z, fun j hj => k5 j (by simpa using hj), fun ho => ⟨fun j hj => (k6 ho).1 j (by simpa using hj), fun j l hjl hl => (k6 ho).2 j l hjl (by simpa using hl)⟩, fun j hj => ?_⟩
  have hj' : j < xs.length := by simpa using hj
  obtain ⟨u, c1, c2⟩ := k7 j hj'
  by_cases e : j = i
  · subst e
    refine ⟨.int .i64 y, World.cell?_setCell_same _ _ _ c1, ?_⟩
    rw [List.getElem_set_self]; exact ⟨rfl, hy⟩
  · refine ⟨u, ?_, ?_⟩
    · rw [World.cell?_setCell_other _ _ _ _ (by intro h; injection h with _ h _; simp only at h; omega)]; exact c1
    · rw [List.getElem_set_ne (by omega)]; exact c2
/-- the first cell of the first row may be written -/
theorem pokeRows {L B : Nat} {e : TypeId} {w : World} {v : Value} {t : List (List Int)} (h : OwnR true L IntsR e B w v t) (h0 : 0 < t.length) (h1 : 0 < t[0].length) :
    ∃ gb n cap rb ro rn rc, v = .slice (some ⟨gb, 0, none⟩) n cap ∧ w.cell? ⟨gb, 0, none⟩ = some (.slice (some ⟨rb, ro, none⟩) rn rc) ∧ 0 < rn ∧ L ≤ rb ∧ rb < w.heap.size ∧ rb ≠ gb ∧ (∃ x, w.cell? ⟨rb, ro, none⟩ = some (.int .i64 x)) ∧ w.frozen? ⟨rb, ro, none⟩ = false ∧ B ≤ gb ∧ gb < w.heap.size ∧
      ∀ (w' : World), (∀ k, L ≤ k → k < w.heap.size → w'.heap[k]? = w.heap[k]?) → w.heap.size ≤ w'.heap.size → L ≤ B → ∀ y, I64 y → OwnR false L IntsR e B (w'.setCell ⟨rb, ro, none⟩ (.int .i64 y)) v (t.set 0 (t[0].set 0 y)) := by
  obtain ⟨us, Z, hl, ho, g1, g2, g3⟩ := h
  obtain ⟨a, n, cap, rfl, hn, hm, hel⟩ := ho.shape
  obtain ⟨gb, rfl, hb, hlt, hc, hf⟩ := hel 0 (by omega)
  have hus : 0 < us.length := by omega
  have hE := g3 0 h0 hus
  obtain ⟨hown0, hz0⟩ := g1 0 h0
  obtain ⟨ra, rn, rc, he, hrn, -, -, -, -, hrel⟩ := SliceR.shape hE
  obtain ⟨rb, ro, rfl, hrz, hrlt, hrf, u, y0, hru, -, -, hux⟩ := hrel 0 h1
  obtain ⟨hrz1, -, hrz3⟩ := hz0 rb hrz
  have hne : rb ≠ gb := fun q => hrz3 (by rw [q]; rfl)
  rw [he] at hc hE
  refine ⟨gb, n, cap, rb, ro, rn, rc, rfl, hc, by omega, hrz1, hrlt, hne, ⟨_, by rw [Nat.add_zero] at hru; rw [hru, hux.1]⟩, by have := hrf (hown0 rfl); rwa [Nat.add_zero] at this, hb, hlt, fun w' hk hs hLB y hy => ?_⟩
  have hset : ∀ k, k ≠ rb → (w'.setCell ⟨rb, ro, none⟩ (.int .i64 y)).heap[k]? = w'.heap[k]? := fun k hk => Below.heap_setCell _ _ _ _ hk
  have hsz : (w'.setCell ⟨rb, ro, none⟩ (.int .i64 y)).heap.size = w'.heap.size := by simp [World.setCell]
  refine ⟨us, Z, by rw [List.length_set]; exact hl, ?_, fun i hi => ⟨(fun h => by cases h), fun k hk' => ?_⟩, (fun h => by cases h), fun i hi hi' => ?_⟩
  · obtain ⟨o1, o2⟩ := ho
    refine ⟨o1, ?_⟩
    rcases o2 with o2 | ⟨g, cp, cur, hv, hbg, hg, r⟩
    · exact .inl o2
    · refine .inr ⟨g, cp, cur, hv, hbg, ?_, r⟩
      have hgg : g = gb := by injection hv with hv _ _; injection hv with hv; injection hv with hv _ _; exact hv.symm
      have hg3 : g < w.heap.size := (Array.getElem?_eq_some_iff.1 hg).1
      rw [hset g (by omega), hk g (by omega) hg3]; exact hg
  · rw [hsz]
    obtain ⟨q1, q2, q3⟩ := (g1 i (by simpa using hi)).2 k hk'
    exact ⟨q1, Nat.lt_of_lt_of_le q2 hs, q3⟩
  · have hi2 : i < t.length := by simpa using hi
    have hsame : Same (Z i) w w' := fun k hk1 hk2 => hk k ((g1 i hi2).2 k hk1).1 hk2
    by_cases e : i = 0
    · subst e
      rw [List.getElem_set_self]
      have := ints_store (stable_ints.keep hE hsame) 0 (by omega) hy
      rw [Nat.add_zero] at this
      rw [he]; exact this
    · rw [List.getElem_set_ne (by omega)]
      refine stable_ints.keep (stable_ints.keep (g3 i hi2 hi') hsame) (fun k hk1 _ => hset k (fun q => ?_))
      subst q
      exact g2 rfl 0 i (by omega) hi2 k hrz hk1
/-- row 0 -/
theorem OwnA.first {α : Type} {A : Nat → Prop} {E : Repr α} {e : TypeId} {B : Nat} {w : World} {v : Value} {xs : List α} {b : Bool} (h : OwnA b A E e B w v xs) (h0 : 0 < xs.length) :
    ∃ gb n cap u Zn, v = .slice (some ⟨gb, 0, Option.none⟩) n cap ∧ w.cell? ⟨gb, 0, Option.none⟩ = some (slV u) ∧ B ≤ gb ∧ gb < w.heap.size ∧ E Zn w (slV u) xs[0] ∧ (b = true → Zn.own = true) ∧ ∀ k, Zn.Has k → A k ∧ k < w.heap.size ∧ v.ownBlock ≠ some k := by
  obtain ⟨us, Z, hl, ho, h1, h2, h3⟩ := h
  obtain ⟨a, n, cap, rfl, hn, hm, hel⟩ := ho.shape
  obtain ⟨gb, rfl, hb, hlt, hc, hf⟩ := hel 0 (by omega)
  exact ⟨gb, n, cap, us[0], Z 0, rfl, hc, hb, hlt, h3 0 h0 (by omega), (h1 0 h0).1, (h1 0 h0).2⟩

theorem make_small (D : Nat) (hD : D ≤ 1000) (w' : World) : (Instr.makeSlice 29 (.int .i64 D) (.int .i64 D)).run Tryz.prog w' = .ok (.slice (some ⟨w'.heap.size, 0, none⟩) D D) (w'.alloc (.cells (madeCells #[.int .i64 0] D) 2)) := by
  obtain ⟨i, hi, hz0, hz1, hz2⟩ := info_parts Tryz.infoI64
  have hr := run_make (P := Tryz.prog) w' 29 2 i (.int .i64 0) Tryz.underlying29 hi hz0 .i64 .i64 D D (by omega) (Int.le_refl _) (by rw [hz2]; omega) (by omega)
  simp only [Int.toNat_natCast, hz1, Nat.mul_one] at hr
  exact hr
theorem made_row (D : Nat) (hD : D ≤ 1000) (w : World) : IntsR ⟨w.heap.size, w.heap.size + 1, true⟩ (w.alloc (.cells (madeCells #[.int .i64 0] D) 2)) (.slice (some ⟨w.heap.size, 0, none⟩) D D) (List.replicate D 0) := by
  have e1 : (madeCells #[Value.int .i64 0] D).toList = (List.replicate D (0 : Int)).map (Value.int .i64) := by rw [toList_madeCells_one]; simp
  have := OwnP.ints (OwnP.lit (f := Value.int .i64) (e := 2) (B := w.heap.size) (w := w) (Nat.le_refl _) (List.replicate D 0) _ e1 (by unfold maxLen; simp; omega)) (fun x hx => by rw [List.eq_of_mem_replicate hx]; unfold I64; omega) (Nat.le_refl _)
  rw [World.size_alloc, List.length_replicate] at this
  exact this
def Tab11D (w : World) (r : Value) (w' : World) : Prop := ∃ t : List (List Int), RowsR ⟨w.heap.size, w'.heap.size, false⟩ w' r t ∧ t.length ≤ 14 ∧ ∀ x ∈ t, x.length ≤ 14
/-- one made row in a list of its own -/
theorem made_one (D : Nat) (hD : D ≤ 14) {g : Nat} {w w5 : World} (hd : Dr g w w5) : Tab11D w (.slice (some ⟨w5.heap.size + 1, 0, none⟩) 1 1) ((w5.alloc (.cells (madeCells #[.int .i64 0] D) 2)).alloc (.cells #[.slice (some ⟨w5.heap.size, 0, none⟩) D D] 29)) := by
  have hs := hd.size
  have h := SliceR.one (e := 29) (u := (some ⟨w5.heap.size, 0, none⟩, D, D)) stable_ints (made_row D (by omega) w5) (by simp) (lo := w.heap.size) hs (by simp; omega)
  rw [World.size_alloc] at h
  refine ⟨_, stable_rows.sub h ⟨fun k hk => ⟨hk.1, by have := hk.2; simp only at this; simp; omega⟩, fun h => by cases h⟩, by simp, fun x hx => by rw [List.mem_singleton.1 hx]; simp; omega⟩

set_option maxRecDepth 20000 in
set_option maxHeartbeats 4000000 in
theorem l11Draw_c (w : World) (g : Nat) (h : Src g w) : Calls Tryz.prog 232 #[.pointer (some ⟨g, 0, none⟩)] w (DrawR g w (Tab11D w)) := by
  have hlt := h.lt
  have hcall := l11Valid_c w g h
  clear h
  go_enter Tryz.func232, Tryz.ntmps232
  go_wp2_with fail
  refine Calls.mono hcall ?_
  rintro e w1 ⟨_, rfl, ⟨t, hr, t1, t2, t3⟩, hd1⟩
  clear hcall
  have hcall := l01Next_c _ g hd1.src 30 (by unfold I64; omega)
  obtain ⟨a, n, c, rfl, hn, -⟩ := OwnA.shape hr
  have hs1 := hd1.size
  have HR := Lib.hid hr
  have HT3 := Lib.hid t3
  have Hn := Lib.hid hn
  rw [← hn] at t1 t2
  have HTD : Hid (∀ w', Dr g w1 w' → Tab11D w (.slice a n c) w') := fun w' hd => ⟨t, stable_rows.sub (OwnR.rows (OwnR.dr stable_ints HR.out hd hlt hlt)) ⟨fun k hk => hk, fun h => by cases h⟩, by rw [← Hn.out]; omega, fun x hx => by have := HT3.out x hx; omega⟩
  clear hr hn t3
  go_wp2_with fail
  refine Calls.mono hcall ?_
  rintro e w2 ⟨_, rfl, ⟨x, rfl, hx0, hx1⟩, hd2⟩
  clear hcall
  have hd3 := hd1.trans hd2
  have HD3 := Lib.hid hd3
  have hs2 := hd3.size
  by_cases e0 : x = 0
  · subst e0
    have hO2 := OwnR.dr stable_ints HR.out hd2 hlt hlt
    have ht0 : 0 < t.length := by rw [← Hn.out]; omega
    have ht1 : 0 < t[0].length := (HT3.out _ (List.getElem_mem ht0)).1
    obtain ⟨gb, n', c', rb, ro, rn, rc, he, hc0, hrn, hrb1, hrb2, hrb3, ⟨x0, hcx⟩, hcf, hgb1, hgb2, hpoke⟩ := pokeRows hO2 ht0 ht1
    injection he with he1 he2 he3
    subst he1; subst he2; subst he3
    have HPk := Lib.hid hpoke
    have hn1 : (0 : Int) < (n : Int) := by omega
    have hn1' : 0 < n := by omega
    have hrn' : (0 : Int) < (rn : Int) := by omega
    have hgne : gb ≠ g := by omega
    have hrne : rb ≠ g := by omega
    have hrng : gb ≠ rb := Ne.symm hrb3
    have HCg : Hid (∀ w', Dr g w2 w' → w'.cell? ⟨gb, 0, none⟩ = some (.slice (some ⟨rb, ro, none⟩) rn rc)) := fun w' hd => hd.cell hc0 hgne
    have HCs : Hid (∀ w' u, Dr g w2 w' → (w'.setCell ⟨rb, ro, none⟩ u).cell? ⟨gb, 0, none⟩ = some (.slice (some ⟨rb, ro, none⟩) rn rc)) := fun w' u hd => by rw [World.cell?_setCell_other _ _ _ _ (by intro h; injection h with h _ _; exact hrb3 h)]; exact hd.cell hc0 hgne
    have HCr : Hid (∀ w', Dr g w2 w' → w'.cell? ⟨rb, ro, none⟩ = some (.int .i64 x0) ∧ w'.frozen? ⟨rb, ro, none⟩ = false) := fun w' hd => ⟨hd.cell hcx hrne, (hd.frozen hrb2 hrne).trans hcf⟩
    have hr2 : Dr g w2 w2 := Dr.refl hd2.src
    have HPick : Hid (∀ w', Drew (w2.alloc (.cells #[.int .i64 (-1), .int .i64 2] 2)) w' → Calls Tryz.prog 92 #[.pointer (some ⟨g, 0, none⟩), .slice (some ⟨w2.heap.size, 0, none⟩) 2 2] w' (DrawR g w' fun r _ => ∃ y, r = .int .i64 y ∧ y ∈ [(-1 : Int), 2])) := fun w' hdq => by
      have hlit : IntsR ⟨w2.heap.size, w2.heap.size + 1, true⟩ (w2.alloc (.cells #[.int .i64 (-1), .int .i64 2] 2)) (.slice (some ⟨w2.heap.size, 0, none⟩) 2 2) [-1, 2] := by
        have := OwnP.ints (OwnP.lit (f := Value.int .i64) (e := 2) (B := w2.heap.size) (w := w2) (Nat.le_refl _) [-1, 2] #[.int .i64 (-1), .int .i64 2] rfl (by simp [maxLen])) (by simp [I64]) (Nat.le_refl _)
        rw [World.size_alloc] at this
        exact this
      have hsr : Src g w' := by obtain ⟨m, rfl⟩ := hdq; exact (hd2.src.alloc _).drewN m
      refine (l01Pick_c w' g hsr _ _ _ (stable_ints.ext hlit (Ext.ofDrew hdq)) (.inl (by show g < w2.heap.size; omega)) (by simp)).mono ?_
      rintro e w'' ⟨v, rfl, ⟨y, hy, rfl⟩, hd⟩
      exact ⟨_, rfl, ⟨y, rfl, hy⟩, hd⟩
    have HFin : Hid (∀ w' y, Dr g w2 w' → I64 y → Tab11D w (.slice (some ⟨gb, 0, none⟩) n c) (w'.setCell ⟨rb, ro, none⟩ (.int .i64 y)) ∧ Dr g w (w'.setCell ⟨rb, ro, none⟩ (.int .i64 y))) := fun w' y hd hy => by
      have hO := HPk.out w' (fun k hk1 hk2 => hd.grown.block k hk2 (by intro q; injection q with q; omega)) hd.size (Nat.le_refl _) y hy
      refine ⟨⟨_, OwnR.reads hO (Nat.le_refl _), by rw [List.length_set, ← Hn.out]; omega, fun x hx => ?_⟩, (HD3.out.trans hd).put (p := ⟨rb, ro, none⟩) hrb1 _⟩
      rcases List.mem_or_eq_of_mem_set hx with hx | hx
      · have := HT3.out x hx; omega
      · rw [hx, List.length_set]; have := HT3.out _ (List.getElem_mem ht0); omega
    have HHt := Lib.hid ht0
    clear hpoke hO2 ht1 hc0 hcx hcf
    go_wp2_with fail
    first | (go_region_held3 (fun w' => w'.cell? ⟨gb, 0, none⟩ = some (.slice (some ⟨rb, ro, none⟩) rn rc)) (first | exact HCs.out _ _ hd77 | exact HCg.out _ (by (repeat (first | assumption | (refine Dr.drew ?_) | (refine Dr.alloc ?_ _) | (refine Dr.trans ?_ (by assumption)))); done) | fail) (first | (go_at_call 92; (with_reducible refine (HPick.out _ ?_).mono ?_); (first | exact ⟨0, rfl⟩ | exact ⟨1, rfl⟩); rintro e w7 ⟨_, rfl, ⟨y7, rfl, hy7⟩, hd7⟩; have hd77 : Dr g w2 w7 := (by (repeat (first | assumption | (refine Dr.drew ?_) | (refine Dr.alloc ?_ _) | (refine Dr.trans ?_ (by assumption)))); done); obtain ⟨z1, z2⟩ := HCr.out w7 hd77) | fail)) | fail
    have hy : I64 y7 := by simp only [List.mem_cons, List.not_mem_nil, or_false] at hy7; unfold I64; omega
    have HF := Lib.hid (HFin.out w7 y7 hd77 hy)
    go_wp2_with fail
    go_ret
    exact ⟨_, rfl, HF.out.1, HF.out.2⟩
  · have b0 : (x == 0) = false := by simpa using e0
    by_cases e1 : x = 1
    · subst e1
      have hO2 := OwnR.dr stable_ints HR.out hd2 hlt hlt
      have HV : Hid (∀ k, (Value.slice a n c).ownBlock = some k → k < w2.heap.size) := fun k hk => (OwnA.block hO2 k hk).2
      have HOc : Hid (OwnA true (fun k => w.heap.size ≤ k ∧ k < w2.heap.size) IntsR 29 w.heap.size (w2.alloc (.cells #[.int .i64 1] 2)) (.slice a n c) t) := OwnA.below stable_ints hO2.cap ((Below.refl _ _).alloc (Nat.le_refl _) _)
      have hu := ints_one w2 1 2 (by unfold I64; omega)
      have hd6 := hd3.alloc (.cells #[.int .i64 1] 2)
      have hl : t.length ≤ 1000000 := by rw [← Hn.out]; omega
      clear hO2
      go_wp2_with (at_builtin; (refine wpList_drawRowT (v := .slice a n c) (g := g) (w0 := w) (B := w.heap.size) (L := w.heap.size) stable_ints slRepr_slice rfl _ _ 26 rfl Tryz.underlying26 Tryz.infoInts rfl HOc.out (some ⟨w2.heap.size, 0, none⟩, 1, 1) [1] hu (by simp) rfl hl hs2 (by simp) HV.out hd6 (Nat.le_refl _) (by simp; omega) ?_); intro v8 w8 hown8 hd8 hs8; have HX : Hid (Tab11D w v8 w8) := ⟨_, stable_rows.sub (OwnR.rows hown8) ⟨fun k hk => hk, fun h => by cases h⟩, by simp; rw [← Hn.out]; omega, fun x hx => by (rcases List.mem_append.1 hx with hx | hx; (have := HT3.out x hx; omega); (rw [List.mem_singleton.1 hx]; simp))⟩; have HD8 := Lib.hid hd8; obtain ⟨a8, n8, c8, rfl, -⟩ := OwnA.shape hown8; clear hown8 hd8)
      go_ret
      exact ⟨_, rfl, HX.out, HD8.out⟩
    · have b1 : (x == 1) = false := by simpa using e1
      by_cases e2 : x = 2
      · subst e2
        have hO2 : OwnR false w.heap.size IntsR 29 w.heap.size w2 (.slice a n c) t := OwnA.unown (OwnR.dr stable_ints HR.out hd2 hlt hlt)
        have HT3' : Hid (∀ x ∈ t, x.length ≤ 14) := fun x hx => by have := HT3.out x hx; omega
        go_wp2_with fail
        go_loopw [3] (fun s3 wr => ∃ t' : List (List Int), OwnR false w.heap.size IntsR 29 w.heap.size wr s3 t' ∧ 1 ≤ t'.length ∧ t'.length ≤ 11 ∧ (∀ x ∈ t', x.length ≤ 14) ∧ Dr g w wr) (fun s3 _ => 12 - drawLen s3)
        case atStart => exact ⟨t, hO2, by rw [← Hn.out]; omega, by rw [← Hn.out]; omega, HT3'.out, HD3.out⟩
        case round =>
          obtain ⟨t', ho, h1, h11, hx14, hd⟩ := hrel
          clear hO2
          obtain ⟨a5, n5, c5, rfl, hn5, -⟩ := OwnA.shape ho
          have HN5 := Lib.hid hn5
          rw [← hn5] at h1 h11
          clear hn5
          have hcall := l01Next_c _ g hd.src 2 (by unfold I64; omega)
          go_wp2_with fail
          refine Calls.mono hcall ?_
          rintro e w5 ⟨_, rfl, ⟨y, rfl, hy0, hy1⟩, hd7⟩
          clear hcall
          have ho7 := OwnR.dr stable_ints ho hd7 hlt hlt
          have hd8 := hd.trans hd7
          have hs5 : w.heap.size ≤ w5.heap.size := hd8.size
          have HX := Lib.hid hx14
          clear ho hd hd7 hx14
          by_cases hlt5 : (n5 : Int) < 10 + y
          · obtain ⟨gb, n', c', u0, Zn, he, hc0, hgb1, hgb2, hE, -, hZ⟩ := OwnA.first ho7 (by rw [← HN5.out]; omega)
            injection he with he1 he2 he3
            subst he1; subst he2; subst he3
            obtain ⟨ua, un, uc⟩ := u0
            rw [slV_mk] at hc0
            have HOw := Lib.hid (OwnR.alloc stable_ints ho7 (.cells #[.slice ua un uc] 29))
            have HO7 := Lib.hid ho7
            have HE := Lib.hid hE
            have HZ := Lib.hid hZ
            have hl : t'.length ≤ 1000000 := by rw [← HN5.out]; omega
            have h05 : 0 < n5 := by omega
            have h05i : (0 : Int) < (n5 : Int) := by omega
            have hn10 : n5 ≤ 10 := by omega
            have HL0 : Hid (∀ h : 0 < t'.length, t'[0].length ≤ 14) := fun h => HX.out _ (List.getElem_mem h)
            have hd8' := Lib.hid hd8
            clear ho7 hE hZ hd8
            go_wp2_with (at_builtin; (refine wpList_drawAlias (v := .slice (some ⟨gb, 0, none⟩) n5 c5) (g := g) (w0 := w) (B := w.heap.size) stable_ints rfl _ _ 26 rfl Tryz.underlying26 Tryz.infoInts rfl HO7.out (ua, un, uc) _ HE.out HZ.out rfl rfl hl hd8'.out (Nat.le_refl _) hs5 ?_); intro v8 w8 hown8 hd9 hs8; obtain ⟨a8, n8, c8, rfl, hn8, -⟩ := OwnA.shape hown8; have HN8 := Lib.hid hn8; clear hn8)
            go_wp2_with fail
            have hl8 := HN5.out
            have hm8 := HN8.out
            rw [List.length_append, List.length_singleton] at hm8
            exact ⟨⟨_, hown8, by simp, by simp; omega, fun x hx => by
              rcases List.mem_append.1 hx with hx | hx
              · exact HX.out x hx
              · rw [List.mem_singleton.1 hx]; exact HL0.out (by omega), hd9⟩, by simp only [drawLen]; omega⟩
          · have HF : Hid (Tab11D w (.slice a5 n5 c5) w5) := ⟨t', OwnR.reads ho7 (Nat.le_refl _), by rw [← HN5.out]; omega, HX.out⟩
            clear ho7
            go_wp2_with fail
            go_ret
            exact ⟨_, rfl, HF.out, hd8⟩
      · have b2 : (x == 2) = false := by simpa using e2
        by_cases e3 : x = 3
        · subst e3
          have hcall := l01Next_c _ g hd2.src 2 (by unfold I64; omega)
          go_wp2_with fail
          refine Calls.mono hcall ?_
          rintro e w5 ⟨_, rfl, ⟨y, rfl, hy0, hy1⟩, hd7⟩
          clear hcall
          have hd8 := hd3.trans hd7
          have hs5 : w.heap.size ≤ w5.heap.size := hd8.size
          obtain rfl | rfl : y = 0 ∨ y = 1 := by omega
          · have hmk : ∀ w', (Instr.makeSlice 29 (.int .i64 12) (.int .i64 12)).run Tryz.prog w' = .ok (.slice (some ⟨w'.heap.size, 0, none⟩) 12 12) (w'.alloc (.cells (madeCells #[.int .i64 0] 12) 2)) := make_small 12 (by decide)
            have HF := Lib.hid (made_one 12 (by decide) hd8)
            have HD := Lib.hid ((hd8.alloc (.cells (madeCells #[.int .i64 0] 12) 2)).alloc (.cells #[.slice (some ⟨w5.heap.size, 0, none⟩) 12 12] 29))
            generalize Obj.cells (madeCells #[.int .i64 0] 12) 2 = Z at *
            go_wp2_with fail
            go_ret
            exact ⟨_, rfl, HF.out, HD.out⟩
          · have hmk : ∀ w', (Instr.makeSlice 29 (.int .i64 13) (.int .i64 13)).run Tryz.prog w' = .ok (.slice (some ⟨w'.heap.size, 0, none⟩) 13 13) (w'.alloc (.cells (madeCells #[.int .i64 0] 13) 2)) := make_small 13 (by decide)
            have HF := Lib.hid (made_one 13 (by decide) hd8)
            have HD := Lib.hid ((hd8.alloc (.cells (madeCells #[.int .i64 0] 13) 2)).alloc (.cells #[.slice (some ⟨w5.heap.size, 0, none⟩) 13 13] 29))
            generalize Obj.cells (madeCells #[.int .i64 0] 13) 2 = Z at *
            go_wp2_with fail
            go_ret
            exact ⟨_, rfl, HF.out, HD.out⟩
        · have b3 : (x == 3) = false := by simpa using e3
          by_cases e4 : x = 4
          · subst e4
            go_wp2_with fail
            go_ret
            exact ⟨_, rfl, ⟨[], SliceR.nil _ _ _, by simp, by simp⟩, HD3.out⟩
          · have b4 : (x == 4) = false := by simpa using e4
            have HF := Lib.hid (HTD.out w2 hd2)
            go_wp2_with fail
            go_ret
            exact ⟨_, rfl, HF.out, HD3.out⟩
end Go.Proofs.YtegmognpofcfiaaGreat
