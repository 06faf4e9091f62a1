/- Proved: the rooms that can be reached, as the program finds them. -/
import Derived.Test.YtbkijealdjghgaaChecked
import Derived.Test.YtbkijealdjghgaaUReachLaw
import Derived.Test.YtbkijealdjghgaaUPkA
import Derived.Test.YtbkijealdjghgaaURisingFacts
namespace Go.Proofs.Ytbkijealdjghgaa
open Go.ChangeShapes Go.WideShapes Go.ChangeAt Go.RowKit
set_option linter.unusedVariables false

theorem Try.infoBool : (Try.prog.info? 4).map (fun i => (i.zero, i.size, i.bytes)) = some (some (.bool false), 1, 1) := by kernel_rfl

theorem OwnP.base {α : Type} {f : α → Value} {e : TypeId} {B B' : Nat} {w : World} {v : Value} {xs : List α} (h : OwnP f e B w v xs) (hB : B' ≤ B) : OwnP f e B' w v xs := by
  obtain ⟨h1, h2⟩ := h
  refine ⟨h1, ?_⟩
  rcases h2 with h2 | ⟨g, cap, cur, hv, hb, r⟩
  · exact .inl h2
  · exact .inr ⟨g, cap, cur, hv, Nat.le_trans hB hb, r⟩
/-- rows of different types lie apart -/
theorem OwnP.apart {α β : Type} {f : α → Value} {f' : β → Value} {e e' : TypeId} {B B' : Nat} {w : World} {v v' : Value} {xs : List α} {ys : List β} (h : OwnP f e B w v xs) (h' : OwnP f' e' B' w v' ys) (he : e ≠ e') : v.ownBlock = Option.none ∨ v.ownBlock ≠ v'.ownBlock := by
  rcases h.2 with ⟨rfl, _⟩ | ⟨g, cap, cur, rfl, hb, hg, _⟩
  · exact .inl rfl
  · right
    rcases h'.2 with ⟨rfl, _⟩ | ⟨g', cap', cur', rfl, hb', hg', _⟩
    · simp [Value.ownBlock]
    · intro e
      simp only [Value.ownBlock, Option.some.injEq] at e
      subst e
      rw [hg] at hg'
      injection hg' with hg'
      injection hg' with _ e1 _
      exact he e1

/-- what a row of bools holds -/
def readB (g n : Nat) (w : World) : List Bool := (List.range n).map fun i => match w.cell? ⟨g, i, none⟩ with | some (.bool b) => b | _ => false
theorem readB_own {e : TypeId} {B : Nat} {w : World} {g n cap : Nat} {xs : List Bool} (h : OwnP Value.bool e B w (.slice (some ⟨g, 0, none⟩) n cap) xs) : readB g n w = xs := by
  have hn := h.len
  refine List.ext_getElem (by simp [readB, hn]) fun i h1 h2 => ?_
  obtain ⟨_, hc, _⟩ := h.at (k := i) (by omega)
  simp [readB, hc]
def boolOf : Value → Nat
  | .bool true => 1
  | _ => 0

/-- a door of a rising list: its number and its sides -/
theorem door_at {c : Int} {ds : List (List Int)} {op : List Int} (hok : roomsOk c ds = true) (hop : rising op ds.length = true) {k : Nat} (hk : k < op.length) :
    ∃ m x y : Nat, op.getD k 0 = (m : Int) ∧ ∃ hm : m < ds.length, ds[m].getD 0 0 = (x : Int) ∧ ds[m].getD 1 0 = (y : Int) ∧ ds[m].length = 2 ∧ x < y ∧ (y : Int) < c ∧ (op.map (sides ds))[k]? = some (x, y) := by
  obtain ⟨h1, h2⟩ := rising_ge hop k hk
  obtain ⟨m, hm⟩ : ∃ m : Nat, op.getD k 0 = (m : Int) := ⟨(op.getD k 0).toNat, by omega⟩
  have hml : m < ds.length := by omega
  obtain ⟨_, _, h3⟩ := roomsOk_sides hok
  obtain ⟨p1, p2, p3, p4⟩ := h3 ds[m] (List.getElem_mem hml)
  refine ⟨m, (ds[m].getD 0 0).toNat, (ds[m].getD 1 0).toNat, hm, hml, by omega, by omega, p1, by omega, by omega, ?_⟩
  have e : op[k] = (m : Int) := by rw [← hm]; simp [hk]
  have e2 : ds.getD m [] = ds[m] := by simp [hml]
  rw [List.getElem?_map, List.getElem?_eq_getElem hk, Option.map_some, e]
  unfold sides
  rw [Int.toNat_natCast, e2]

set_option maxRecDepth 20000 in
set_option maxHeartbeats 1000000 in
theorem reach_c (w : World) (v vo : Value) (z y : Zone) (x : Int × List (List Int)) (op : List Int) (f : Int) (h : RoomsR z w v x) (ho : IntsR y w vo op)
    (hok : roomsOk x.1 x.2 = true) (hop : rising op x.2.length = true) (hf : 0 ≤ f) (hf' : f < x.1) :
    Calls Try.prog 29 #[v, .int .i64 f, vo] w (Ret w fun r w' => OwnP Value.bool 4 w.heap.size w' r (reachL x.1 x.2 f op)) := by
  obtain ⟨c, ds⟩ := x
  obtain ⟨u, rfl, hc, hr⟩ := h
  simp only at hc hr hok hop hf' ⊢
  have HE : Hid (∀ n : Nat, passE (op.map (sides ds)) (roundsE (op.map (sides ds)) (reach0 c f) n) = roundsE (op.map (sides ds)) (reach0 c f) n → roundsE (op.map (sides ds)) (reach0 c f) n = reachL c ds f op) := fun n h => reachL_eq hf hf' h
  have Hdoor : Hid (∀ k, k < op.length → ∃ m x y : Nat, op.getD k 0 = (m : Int) ∧ ∃ hm : m < ds.length, ds[m].getD 0 0 = (x : Int) ∧ ds[m].getD 1 0 = (y : Int) ∧ ds[m].length = 2 ∧ x < y ∧ (y : Int) < c ∧ (op.map (sides ds))[k]? = some (x, y)) := fun k hk => door_at hok hop hk
  obtain ⟨nc, rfl⟩ : ∃ nc : Nat, c = nc := ⟨c.toNat, by omega⟩
  obtain ⟨nf, rfl⟩ : ∃ nf : Nat, f = nf := ⟨f.toNat, by omega⟩
  have hnc : nc ≤ 8 := by have := (roomsOk_sides hok).1; omega
  have hnf : nf < nc := by omega
  have Hstart : Hid (reach0 nc nf = (List.replicate nc false).set nf true) := rfl
  have Hes : Hid ((op.map (sides ds)).length = op.length) := by show _ = _; simp
  generalize op.map (sides ds) = es at *
  generalize reachL nc ds nf op = res at *
  generalize reach0 nc nf = s0 at *
  clear hok hop hf hf' hc
  obtain ⟨a, len, cap, rfl, hlen, hmax, hel⟩ := SliceR.elem stable_ints hr
  obtain ⟨ao, no, co, rfl, hlo, hmo, -, -, -, hoel⟩ := IntsR.shape ho
  have Hlen := Lib.hid hlen; clear hlen hr
  have Hel := Lib.hid hel; clear hel
  have Hlo := Lib.hid hlo; clear hlo ho
  have Hoel := Lib.hid hoel; clear hoel
  go_enter Try.func29, Try.ntmps29
  go_wp2_with (at_make; generalize hw0 : World.alloc w _ = w0; refine wpList_makeP rfl _ _ 50 rfl 4 w0.heap.size Value.bool false 1 Try.underlying50 Try.infoBool rfl nc rfl rfl (by omega) (by omega) (Nat.le_refl _) ?_)
  intro w1 hown hb1 _
  have hb0 : Below w.heap.size w w0 := by rw [← hw0]; exact (Below.refl _ _).alloc (Nat.le_refl _) _
  have q1 : w0.cell? ⟨w.heap.size, 1, none⟩ = some (.slice a len cap) := by rw [← hw0]; simp
  have hsz : w.heap.size < w0.heap.size := by rw [← hw0]; simp
  clear hw0
  have hst : OwnP Value.bool 4 w0.heap.size (w1.setCell ⟨w0.heap.size, nf, none⟩ (.bool true)) (.slice (some ⟨w0.heap.size, 0, none⟩) nc nc) s0 := by
    rw [Hstart.out]; exact OwnP.store hown nf true
  have hb2 : Below w0.heap.size w0 (w1.setCell ⟨w0.heap.size, nf, none⟩ (.bool true)) := hb1.setCell (Nat.le_refl _) _
  obtain ⟨_, hcf, hff⟩ := hown.at hnf
  clear Hstart hown hb1
  go_wp2_with fail
  go_loopw [8] (fun t wr => ∃ (n : Nat) (b : Bool), t = .bool b ∧ (b = false → passE es (roundsE es s0 n) = roundsE es s0 n) ∧ OwnP Value.bool 4 w0.heap.size wr (.slice (some ⟨w0.heap.size, 0, none⟩) nc nc) (roundsE es s0 n) ∧ Below w0.heap.size w0 wr) (fun t wr => 2 * (nc - (readB w0.heap.size nc wr).count true) + boolOf t)
  case atStart => exact ⟨0, true, rfl, by simp, hst, hb2⟩
  case round =>
    obtain ⟨n, b, rfl, hfix, hs, hb⟩ := hrel
    clear hst hb2 hcf hff
    cases b with
    | false =>
      have HG := Lib.hid (HE.out n (hfix rfl))
      clear hfix HE Hdoor
      go_wp2_with fail
      go_ret
      rw [HG.out] at hs
      exact ⟨_, rfl, OwnP.base hs (by omega), hb0.trans (hb.mono (by omega))⟩
    | true =>
      clear hfix
      have hmo' : readB w0.heap.size nc wr = roundsE es s0 n := readB_own hs
      have hsl : (roundsE es s0 n).length = nc := hs.len.symm
      have hcl : (roundsE es s0 n).count true ≤ nc := by have := List.count_le_length (a := true) (l := roundsE es s0 n); omega
      have HN : Hid (roundsE es s0 (n + 1) = passE es (roundsE es s0 n)) := rfl
      rw [hmo']
      clear hmo'
      generalize roundsE es s0 n = s at *
      go_wp2_with fail
      generalize wr = wo at *
      go_loopw [22, 8] (fun i ag wi => ∃ (k : Nat) (b : Bool), k ≤ no ∧ i = .int .i64 k ∧ ag = .bool b ∧ (b = false → passE (es.take k) s = s) ∧ (b = true → s.count true < (passE (es.take k) s).count true) ∧ OwnP Value.bool 4 w0.heap.size wi (.slice (some ⟨w0.heap.size, 0, none⟩) nc nc) (passE (es.take k) s) ∧ Below w0.heap.size w0 wi) (fun i _ _ => no - (intOf i).toNat)
      case atStart => exact ⟨0, false, Nat.zero_le _, rfl, rfl, by simp [passE], by simp, by simpa [passE] using hs, hb⟩
      case round =>
        generalize wr = wi at *
        obtain ⟨k, b1, hk, rfl, rfl, hno, hyes, hsi, hbi⟩ := hrel
        have Hno := Lib.hid hno; clear hno
        have Hyes := Lib.hid hyes; clear hyes
        by_cases hlt : k < no
        · have hlo : no = op.length := Hlo.out
          obtain ⟨m, x, y, hm, hml, hx, hy, hl2, hxy, hyc, hes⟩ := Hdoor.out k (by omega)
          obtain ⟨bo, oo, rfl, hco, -, -⟩ := Hoel.out k hlt
          obtain ⟨b, off, rfl, hblt, u, hcu, hu⟩ := Hel.out m hml
          rw [hm] at hco
          obtain ⟨ad, l2, c2, rfl, hl, -, -, -, -, hrow⟩ := IntsR.shape hu
          obtain ⟨br, orr, rfl, hc0, -, -⟩ := hrow 0 (by omega)
          obtain ⟨_, _, he, hc1, -, -⟩ := hrow 1 (by omega)
          injection he with he; injection he with he1 he2 _
          subst he1; subst he2
          rw [hx, Nat.add_zero] at hc0
          rw [hy] at hc1
          obtain rfl : l2 = 2 := by omega
          have hml' : m < len := by rw [Hlen.out]; exact hml
          have hbw : Below w.heap.size w wi := hb0.trans (hbi.mono (by omega))
          replace hco := (hbw.cell (World.block_lt_of_cell? _ _ hco)).trans hco
          replace hcu := (hbw.cell (World.block_lt_of_cell? _ _ hcu)).trans hcu
          replace hc0 := (hbw.cell (World.block_lt_of_cell? _ _ hc0)).trans hc0
          replace hc1 := (hbw.cell (World.block_lt_of_cell? _ _ hc1)).trans hc1
          have q1' := (hbi.cell hsz).trans q1
          clear hu hrow hx hy hl2 hl hm hlo
          have hek : k < es.length := (List.getElem?_eq_some_iff.1 hes).1
          have HP : Hid (passE (es.take (k+1)) s = stepE (passE (es.take k) s) (x, y)) := by
            show _ = _
            rw [passE_take hek, (List.getElem?_eq_some_iff.1 hes).2]
          clear hes hek
          have Hle : Hid (s.count true ≤ (passE (es.take k) s).count true) := (leB_count (leB_pass _ s)).1
          generalize passE (es.take k) s = s1 at *
          obtain ⟨hx1, hsx, hfx⟩ := hsi.at (k := x) (by omega)
          obtain ⟨hy1, hsy, hfy⟩ := hsi.at (k := y) (by omega)
          have hyn : y < nc := by omega
          have hxn : x < nc := by omega
          have ex : s1.getD x false = s1[x] := by simp [hx1]
          have ey : s1.getD y false = s1[y] := by simp [hy1]
          have HS : Hid (s1[x] = s1[y] → passE (es.take (k+1)) s = s1) := fun h => by rw [HP.out]; exact step_no (by rw [ex, ey]; exact h)
          have HT : Hid (s1[x] ≠ s1[y] → passE (es.take (k+1)) s = (s1.set x true).set y true ∧ s.count true < (passE (es.take (k+1)) s).count true) := fun h => by
            have h' : s1.getD (x, y).1 false ≠ s1.getD (x, y).2 false := by rw [ex, ey]; exact h
            refine ⟨by rw [HP.out]; exact step_yes h', ?_⟩
            rw [HP.out]
            exact Nat.lt_of_le_of_lt Hle.out (step_ne h' hx1 hy1)
          have hs2 := OwnP.store (OwnP.store hsi x true) y true
          have hb2 := (hbi.setCell (p := ⟨w0.heap.size, x, none⟩) (Nat.le_refl _) (.bool true)).setCell (p := ⟨w0.heap.size, y, none⟩) (Nat.le_refl _) (.bool true)
          have HS2 := Lib.hid hs2; clear hs2
          have HB2 := Lib.hid hb2; clear hb2
          have HSI := Lib.hid hsi; clear hsi
          clear ex ey HP Hle hsl hcl hs hb HE HN
          generalize s1[x] = p at *
          generalize s1[y] = q at *
          cases p <;> cases q
          case false.false =>
            have HH := Lib.hid (HS.out rfl)
            clear HS HT
            go_wp2_with fail
            go_quiet (fail)
            go_wp2_with fail
            go_quiet (fail)
            go_wp2_with fail
            go_roundw
            case rel => exact ⟨k + 1, b1, by omega, by go_num, rfl, by rw [HH.out]; exact Hno.out, by rw [HH.out]; exact Hyes.out, by rw [HH.out]; exact HSI.out.drewN _, hbi.drewN _⟩
            case measure => simp [intOf]; omega
          case true.true =>
            have HH := Lib.hid (HS.out rfl)
            clear HS HT
            go_wp2_with fail
            go_quiet (fail)
            go_wp2_with fail
            go_quiet (fail)
            go_wp2_with fail
            go_roundw
            case rel => exact ⟨k + 1, b1, by omega, by go_num, rfl, by rw [HH.out]; exact Hno.out, by rw [HH.out]; exact Hyes.out, by rw [HH.out]; exact HSI.out.drewN _, hbi.drewN _⟩
            case measure => simp [intOf]; omega
          case false.true =>
            have HH := Lib.hid (HT.out (by simp))
            clear HS HT
            go_wp2_with fail
            go_quiet (fail)
            go_wp2_with fail
            go_quiet (fail)
            go_wp2_with fail
            go_roundw
            case rel => exact ⟨k + 1, true, by omega, by go_num, rfl, by simp, fun _ => HH.out.2, by rw [HH.out.1]; exact OwnP.store (OwnP.store (HSI.out.drewN _) x true) y true, ((hbi.drewN _).setCell (p := ⟨w0.heap.size, x, none⟩) (Nat.le_refl _) (.bool true)).setCell (p := ⟨w0.heap.size, y, none⟩) (Nat.le_refl _) (.bool true)⟩
            case measure => simp [intOf]; omega
          case true.false =>
            have HH := Lib.hid (HT.out (by simp))
            clear HS HT
            go_wp2_with fail
            go_quiet (fail)
            go_wp2_with fail
            go_quiet (fail)
            go_wp2_with fail
            go_roundw
            case rel => exact ⟨k + 1, true, by omega, by go_num, rfl, by simp, fun _ => HH.out.2, by rw [HH.out.1]; exact OwnP.store (OwnP.store (HSI.out.drewN _) x true) y true, ((hbi.drewN _).setCell (p := ⟨w0.heap.size, x, none⟩) (Nat.le_refl _) (.bool true)).setCell (p := ⟨w0.heap.size, y, none⟩) (Nat.le_refl _) (.bool true)⟩
            case measure => simp [intOf]; omega
        · have hall : es.take k = es := List.take_of_length_le (by have := Hes.out; have := Hlo.out; omega)
          rw [hall] at hsi Hno Hyes
          have hrd := readB_own hsi
          have hsl' : (passE es s).length = nc := hsi.len.symm
          have hcl' : (passE es s).count true ≤ nc := by have := List.count_le_length (a := true) (l := passE es s); omega
          have Hmeas : Hid (2 * (nc - (readB w0.heap.size nc wi).count true) + boolOf (.bool b1) < 2 * (nc - s.count true) + boolOf (.bool true)) := by
            show _ < _
            rw [hrd]
            cases b1 with
            | false => rw [Hno.out rfl]; simp [boolOf]
            | true => have := Hyes.out rfl; simp only [boolOf]; omega
          have Hrel : Hid ((b1 = false → passE es (roundsE es s0 (n+1)) = roundsE es s0 (n+1)) ∧ OwnP Value.bool 4 w0.heap.size wi (.slice (some ⟨w0.heap.size, 0, none⟩) nc nc) (roundsE es s0 (n+1))) := by
            refine ⟨fun h => ?_, by rw [HN.out]; exact hsi⟩
            rw [HN.out, Hno.out h]
            exact Hno.out h
          clear hrd hsl' hcl' hsi Hno Hyes hs hb hsl hcl HE HN Hdoor
          go_wp2_with fail
          go_roundw
          case rel => exact ⟨n + 1, b1, rfl, Hrel.out.1, Hrel.out.2, hbi⟩
          case measure => exact Hmeas.out
end Go.Proofs.Ytbkijealdjghgaa
