/- Proved: the text of pins, program and reference. -/
import Derived.Test.YtkeikjedbfomnaaGreatDoorChecked
import Derived.Deep.RegionHeld3
import Derived.Test.YtkeikjedbfomnaaGreatDoorUPkT1
import Derived.Test.YtkeikjedbfomnaaGreatDoorULockOk
import Derived.Test.YtkeikjedbfomnaaGreatDoorUPinsOf
import Derived.Test.YtkeikjedbfomnaaGreatDoorUPkE
namespace Go.Proofs.YtkeikjedbfomnaaGreatDoor
open Go.ChangeShapes Go.WideShapes Go.ChangeAt Go.RowKit
set_option linter.unusedVariables false

/-- pins whose numbers have one digit -/
structure PinsOk (ps : List (List Int)) : Prop where
  len : ps.length ≤ 6
  row : ∀ k, k < ps.length → (ps.getD k []).length ≤ 9
  dig : ∀ k, k < ps.length → ∀ x ∈ ps.getD k [], 0 ≤ x ∧ x < 10
theorem pinsOk {mk : MK} {l : List (List Int)} (ok : LockOk mk l) : PinsOk (pinsL mk.d l) := by
  have hm := isMaker_iff.1 ok.maker
  have hl := ok.len
  have e : ∀ i, i < l.length → (pinsL mk.d l).getD i [] = stackL mk.d (l.getD i []) := fun i hi => by unfold pinsL pinsTo; simp [hi]
  have hn : (pinsL mk.d l).length = l.length := pinsTo_len _ _ _
  refine ⟨by omega, fun k hk => ?_, fun k hk x hx => ?_⟩
  · rw [e k (by omega), stackL_len]
    have := (ok.set (i := k) (by omega)).len
    omega
  · rw [e k (by omega)] at hx
    have := stackL_in (ok.set (i := k) (by omega)) x hx
    omega
def stackD (st : List Int) : List UInt8 := joinI st [43]
theorem numD_one {x : Int} (h : 0 ≤ x ∧ x < 10) : (numD x).length = 1 := by rw [numD_digit h]; rfl
theorem stackD_len {st : List Int} (hl : st.length ≤ 9) (h : ∀ x ∈ st, 0 ≤ x ∧ x < 10) : (stackD st).length ≤ 18 := by
  have h1 := join_len [43] 1 (st.map numD) (fun y hy => by
    obtain ⟨x, hx, rfl⟩ := List.mem_map.1 hy
    rw [numD_one (h x hx)]
    exact Nat.le_refl _)
  rw [List.length_map] at h1
  have e : (stackD st).length = (Lib.join (st.map numD) [43]).length := rfl
  rw [e]
  simp only [List.length_singleton] at h1
  omega
theorem pinsD_len {ps : List (List Int)} (ok : PinsOk ps) : (pinsD ps).length ≤ 114 := by
  have h1 := join_len [32] 18 (ps.map stackD) (fun y hy => by
    obtain ⟨st, hst, rfl⟩ := List.mem_map.1 hy
    obtain ⟨i, hi, rfl⟩ := List.mem_iff_getElem.1 hst
    have e : ps.getD i [] = ps[i] := by rw [List.getD_eq_getElem?_getD, List.getElem?_eq_getElem hi]; rfl
    exact stackD_len (e ▸ ok.row i hi) (e ▸ ok.dig i hi))
  rw [List.length_map] at h1
  have h2 := ok.len
  have e : (pinsD ps).length = (Lib.join (ps.map stackD) [32]).length := rfl
  rw [e]
  simp only [List.length_singleton] at h1
  omega
theorem pinsTo_snocS (ps : List (List Int)) (k : Nat) (h : k < ps.length) : ((ps.take (k + 1)).map fun st => strOf (stackD st)) = ((ps.take k).map fun st => strOf (stackD st)) ++ [strOf (stackD (ps.getD k []))] := by
  have e : ps.take (k + 1) = ps.take k ++ [ps.getD k []] := by
    rw [List.take_add_one, List.getElem?_eq_getElem h]
    simp [h]
  rw [e, List.map_append]
  rfl

def StrE : Repr ByteArray := fun _ _ u x => u = .string x
theorem strs_one (w : World) (y : ByteArray) (e : TypeId) : SliceR StrE ⟨w.heap.size, (w.alloc (.cells #[.string y] e)).heap.size, true⟩ (w.alloc (.cells #[.string y] e)) (.slice (some ⟨w.heap.size, 0, none⟩) 1 1) [y] :=
  OwnP.reads (f := Value.string) (OwnP.one (Nat.le_refl _) y) (fun z x hx => by rw [List.mem_singleton.1 hx]; exact rfl) (Nat.le_refl _) (Nat.le_refl _)
theorem wpList_appendS {e : TypeId} {B : Nat} {w : World} {v : Value} {xs : List ByteArray} {P : Program} {ops : Array Oper} {rest : List Oper} {o : Oper} {a : Act} {Q : Exit → Act → World → Prop} (hgd : o.guard = Option.none) (s x : Operand) (t : TypeId)
    (ho : o.op = .call { callee := .builtin .append, args := #[s, x], argTypes := #[t, t] }) (ht : P.underlying t = some (.slice e)) (hinfo : (P.info? e).map (fun i => (i.zero, i.size, i.bytes)) = some (some (.string ⟨#[]⟩), 1, 16))
    (hs : a.eval s = v) (hown : OwnP Value.string e B w v xs) (y : ByteArray) (hx : a.eval x = .slice (some ⟨w.heap.size, 0, none⟩) 1 1) (hn : xs.length + 1 ≤ 1099511627776) (hB : B ≤ w.heap.size)
    (h : ∀ v' w', OwnP Value.string e B w' v' (xs ++ [y]) → w.grownBy w' v.ownBlock → Below B w w' → (∀ k, v'.ownBlock = some k → v.ownBlock = some k ∨ w.heap.size ≤ k) → wpList P ops Q rest (a.put o.dst v') w') : wpList P ops Q (o :: rest) a (w.alloc (.cells #[.string y] e)) := by
  have hsz : (w.alloc (.cells #[.string y] e)).heap.size = w.heap.size + 1 := by simp
  refine wpList_append_of hgd s x t ho hs hx (fun ty => run_appendR (f := Value.string) (B := B) t ty ⟨#[]⟩ 16 ht hinfo rfl (fun _ => rfl) (hown.alloc _) (E := StrE) (fun h => h) (strs_one w y e) (by rw [List.length_singleton]; exact hn) (by decide) (by omega)) (fun v' w' hr => ?_)
  obtain ⟨o', g', b', hat⟩ := hr
  have hg : w.grownBy w' v.ownBlock := grownBy_trans (World.grownBy_alloc w _ _) g'
  refine h v' w' o' hg ((Below.refl _ _).grown hg hB (fun k hk => (hown.block k hk).1)) (fun k hk => ?_)
  rcases hat k hk with q | q
  · exact .inl q
  · exact .inr (by omega)

set_option maxRecDepth 20000 in
set_option maxHeartbeats 1000000 in
theorem PinsText_c (w : World) (hT : Pow10 w) (mk : MK) (v : Value) (z : Zone) (l : List (List Int)) (h : RowsR z w v l) (hok : LockOk mk l) :
    Calls Tryz.prog 87 #[mk.v, .agg #[v]] w (Ret w fun r _ => r = .tuple #[.string (strOf (pinsD (pinsL mk.d l))), .int .i64 0]) := by
  have HLC := Lib.hid (fun (w' : World) (x : Value) (zx : Zone) (g : LocksR zx w' x [l]) => locksCode_c w' mk hok.maker x zx [l] g (fun i hi => by
    have e : i = 0 := by simpa using hi
    subst e
    exact hok))
  have HPo := Lib.hid (fun (w' : World) (e : Ext w w') => pinsOf_c w' mk v z l (stable_rows.ext h e) hok)
  have ok := pinsOk hok
  have HJ := Lib.hid (fun (k : Nat) (hk : k < (pinsL mk.d l).length) (w' : World) (e : Ext w w') (u : Value) (y : Zone) (g : IntsR y w' u ((pinsL mk.d l).getD k [])) => by
    have := joined_c w' (hT.ext e) u y _ g (fun x q => by have := ok.dig k hk x q; omega) (by have := ok.row k hk; omega) ⟨#[43]⟩ (by decide)
    exact (show Calls Tryz.prog 83 #[u, .string ⟨#[43]⟩] w' (Ret w' fun r _ => r = .string (strOf (stackD ((pinsL mk.d l).getD k [])))) from this))
  have HSn := Lib.hid (fun (k : Nat) (hk : k < (pinsL mk.d l).length) => pinsTo_snocS (pinsL mk.d l) k hk)
  have hp6 := ok.len
  have HLn : Hid (∀ k, (((pinsL mk.d l).take k).map fun st => strOf (stackD st)).length ≤ 6) := fun k => by rw [List.length_map, List.length_take]; omega
  have H0 : Hid ((((pinsL mk.d l).take 0).map fun st => strOf (stackD st)) = []) := rfl
  have HJn := Lib.hid (fun (w' : World) (B : Nat) (u : Value) (o : OwnP Value.string 9 B w' u (((pinsL mk.d l).take (pinsL mk.d l).length).map fun st => strOf (stackD st))) => by
    have hm : (((pinsL mk.d l).take (pinsL mk.d l).length).map fun st => strOf (stackD st)).map (fun s : ByteArray => s.data.toList) = (pinsL mk.d l).map stackD := by
      rw [List.take_length, List.map_map]
      exact List.map_congr_left (fun x _ => data_strOf (stackD x))
    have := join_c w' u B _ o (by rw [List.length_map, List.length_take]; omega) ⟨#[32]⟩ (by
      rw [hm]
      have h1 := pinsD_len ok
      exact Nat.le_trans (show (Lib.join ((pinsL mk.d l).map stackD) [32]).length ≤ 114 from h1) (by decide))
    rw [hm] at this
    exact (show Calls Tryz.prog 57 #[u, .string ⟨#[32]⟩] w' (Ret w' fun r _ => r = .string (strOf (pinsD (pinsL mk.d l)))) from this))
  generalize hjt : (fun k => ((pinsL mk.d l).take k).map fun st => strOf (stackD st)) = jT at *
  have HE : Hid (∀ k, (((pinsL mk.d l).take k).map fun st => strOf (stackD st)) = jT k) := fun k => by rw [← hjt]
  clear hjt
  generalize strOf (pinsD (pinsL mk.d l)) = res at *
  generalize pinsL mk.d l = ps at *
  obtain ⟨a, n, cap, rfl, -⟩ := SliceR.shape h
  have HOne := Lib.hid (fun (w' : World) (e : Ext w w') => (locks_one (e := 88) (stable_rows.ext h e) rfl))
  clear h hok ok hT
  obtain ⟨mc, md, ms, mm, ml⟩ := mk
  unfold MK.v at *
  go_enter Tryz.func87, Tryz.ntmps87
  go_wp2_with fail
  generalize hw0 : World.alloc _ _ = w0
  obtain ⟨e0, S0, d0, HL⟩ : Ext w w0 ∧ MkAt w0 w.heap.size ⟨mc, md, ms, mm, ml⟩ ∧ w0.cell? ⟨w.heap.size + 1, 0, none⟩ = some (.slice a n cap) ∧ LocksR ⟨0, w0.heap.size, false⟩ w0 (.slice (some ⟨w.heap.size + 1 + 1, 0, none⟩) 1 1) [l] := by
    subst hw0
    refine ⟨((Ext.alloc _ _).trans (Ext.alloc _ _)).trans (Ext.alloc _ _), ⟨?_, ?_, ?_, ?_, ?_⟩, ?_, ?_⟩
    rotate_right
    · have hrow := (HOne.out _ ((Ext.alloc w (.cells #[.int .i64 mc, .int .i64 md, .int .i64 ms, .int .i64 mm, .int .i64 ml] 23)).trans (Ext.alloc _ (.cells #[.slice a n cap] 88)))).2
      simp only [World.size_alloc] at hrow ⊢
      exact hrow
    all_goals (clear HLC HPo HJ HSn HLn H0 HJn HE HOne; go_simp; done)
  clear hw0 HOne
  have HS := Lib.hid S0
  refine Calls.mono (HLC.out w0 _ _ HL) ?_
  clear HL HLC S0
  rintro e w1 hr
  obtain ⟨r, rfl, rfl, e1⟩ := ret_ext hr
  clear hr
  have et := e0.trans e1
  obtain ⟨c0, c1, c2, c3, c4⟩ := HS.out.ext e1
  have d1 := e1.cell d0
  clear d0
  have f0 := fun o => (Ext.alloc w1 o).cell c0
  have f1 := fun o => (Ext.alloc w1 o).cell c1
  have f2 := fun o => (Ext.alloc w1 o).cell c2
  have f3 := fun o => (Ext.alloc w1 o).cell c3
  have f4 := fun o => (Ext.alloc w1 o).cell c4
  have f5 := fun o => (Ext.alloc w1 o).cell d1
  go_wp2_with fail
  have ow1 : OwnP Value.string 9 w1.heap.size (w1.alloc (.cells #[] 9)) (.slice (some ⟨w1.heap.size, 0, none⟩) 0 0) [] := OwnP.empty (Nat.le_refl _)
  have e2 : Ext w1 (w1.alloc (.cells #[] 9)) := Ext.alloc _ _
  have hs2 : (w1.alloc (.cells #[] 9)).heap.size = w1.heap.size + 1 := by simp
  generalize w1.alloc (.cells #[] 9) = w2 at *
  clear c0 c1 c2 c3 c4 d1 f0 f1 f2 f3 f4 f5
  refine Calls.mono (HPo.out w2 (et.trans e2)) ?_
  rintro e w3 hr
  obtain ⟨r, rfl, hP3, e3⟩ := ret_ext hr
  clear hr HPo
  have hs3 := e3.size
  obtain ⟨a3, n3, k3, rfl, hn3, -⟩ := SliceR.shape hP3
  rw [← hn3] at HJ HSn HJn hp6
  have HRP : Hid (RowsR ⟨w1.heap.size + 1, w3.heap.size, true⟩ w3 (.slice a3 n3 k3) ps) := by
    have := hP3
    unfold Zone.new at this
    rw [hs2] at this
    exact this
  have HO3 := Lib.hid (ow1.ext e3)
  have HE3 : Hid (Below w1.heap.size w1 w3) := e2.trans e3
  clear hP3 ow1 hn3 e2 e3
  have HB1 : Hid (w1.heap.size + 1 ≤ w3.heap.size) := by show _ ≤ _; omega
  go_wp2_with fail
  go_loopw [7, 9, 22] (fun s7 _ s22 wr => ∃ k : Nat, k ≤ n3 ∧ s22 = .int .i64 (k : Int) ∧ OwnP Value.string 9 w1.heap.size wr s7 (jT k) ∧ (∀ j, s7.ownBlock = some j → j < w1.heap.size + 1 ∨ w3.heap.size ≤ j) ∧ w3.heap.size ≤ wr.heap.size ∧ Below w1.heap.size w1 wr ∧ RowsR ⟨w1.heap.size + 1, w3.heap.size, true⟩ wr (.slice a3 n3 k3) ps) (fun _ _ s22 _ => n3 - (intOf s22).toNat)
  case atStart => exact ⟨0, Nat.zero_le _, rfl, by rw [← HE.out, H0.out]; exact HO3.out, fun j hj => .inl (by injection hj with hj; simp only at hj; omega), Nat.le_refl _, HE3.out, HRP.out⟩
  case round =>
    obtain ⟨k, hk, rfl, own, hob, hsz, hbl, hrp⟩ := hrel
    have ew : Ext w wr := Ext.to' (a := w) et (hbl.mono et.size)
    have Hob := Lib.hid hob
    have Hbl := Lib.hid hbl
    have HOw := Lib.hid own
    have HRp := Lib.hid hrp
    clear hob hbl
    by_cases hlt : k < n3
    · obtain ⟨b, off, rfl, a4, n4, k4, -, -, -, hc4, ⟨y4, -, hy4⟩, -⟩ := rows_at hrp hlt
      have hcx := hc4 wr (Ext.refl _)
      have HT2 := Lib.hid (HJ.out k hlt wr ew _ y4 (hy4 wr (Ext.refl _)))
      have hsn := HSn.out k hlt
      rw [HE.out, HE.out] at hsn
      have HS2 := Lib.hid hsn
      have hln := HLn.out k
      rw [HE.out] at hln
      generalize strOf (stackD (ps.getD k [])) = sk at *
      clear hsn hrp hc4 hy4
      obtain ⟨a5, n5, k5, rfl, -⟩ := OwnP.shape own
      clear own
      go_wp2_with fail
      refine Calls.mono HT2.out ?_
      rintro e w4 hr
      obtain ⟨r, rfl, rfl, e4⟩ := ret_ext hr
      clear hr
      have own4 := HOw.out.ext e4
      have hs4 := e4.size
      have hsw : w1.heap.size ≤ w4.heap.size := by have := HB1.out; omega
      go_wp2_with (at_builtin; (refine wpList_appendS (e := 9) (B := w1.heap.size) (xs := jT k) rfl _ _ 42 rfl Tryz.underlying42 Tryz.infoStr rfl own4 sk rfl (by omega) hsw ?_); intro v6 w6 hown6 hg6 hb6 hat6)
      have HRel : Hid ((∀ j, v6.ownBlock = some j → j < w1.heap.size + 1 ∨ w3.heap.size ≤ j) ∧ w3.heap.size ≤ w6.heap.size ∧ Below w1.heap.size w1 w6 ∧ RowsR ⟨w1.heap.size + 1, w3.heap.size, true⟩ w6 (.slice (some ⟨b, off, none⟩) n3 k3) ps) := by
        refine ⟨fun j hj => ?_, by have := hg6.size; omega, Below.trans (Below.trans Hbl.out (Below.mono e4 (by have := HB1.out; omega))) hb6, stable_rows.keep (stable_rows.ext HRp.out e4) (fun j hj hl => hg6.block j hl (fun e => ?_))⟩
        · rcases hat6 j hj with q | q
          · exact Hob.out j q
          · exact .inr (by omega)
        · have h1 := hj.1
          have h2 := hj.2
          rcases Hob.out j e.symm with q | q <;> (simp only at h1 h2; omega)
      clear hg6 hb6 hat6
      go_roundw
      case rel => exact ⟨k + 1, by omega, by go_num, by rw [HS2.out]; exact hown6, HRel.out⟩
      case measure => simp [intOf]; omega
    · have hkn : k = n3 := by omega
      subst hkn
      have HJ2 := Lib.hid (HJn.out wr _ _ (by rw [HE.out]; exact own))
      obtain ⟨a5, n5, k5, rfl, -⟩ := OwnP.shape own
      clear own HJ HJn hrp
      go_wp2_with fail
      refine Calls.mono HJ2.out ?_
      rintro e w4 hr
      obtain ⟨r, rfl, rfl, e4⟩ := ret_ext hr
      clear hr
      go_wp2_with fail
      go_ret2
      exact ⟨_, rfl, rfl, ew.trans e4⟩
end Go.Proofs.YtkeikjedbfomnaaGreatDoor
