/- Proved: the routes between two rooms, as the reference finds them. -/
import Derived.Test.YtaogpbhgoeepbaaChecked
import Derived.Deep.RegionHeld3
import Derived.Deep.RegionHeldLaw
import Derived.Test.YtaogpbhgoeepbaaURoutesLaw
import Derived.Test.YtaogpbhgoeepbaaUOwnRows
import Derived.Test.YtaogpbhgoeepbaaUHas
import Derived.Test.YtaogpbhgoeepbaaUClone
import Derived.Test.YtaogpbhgoeepbaaURoutesCode
import Derived.Test.YtaogpbhgoeepbaaUExt
namespace Go.Proofs.Ytaogpbhgoeepbaa
open Go.ChangeShapes Go.WideShapes Go.ChangeAt Go.RowKit
set_option linter.unusedVariables false

set_option maxRecDepth 20000 in
set_option maxHeartbeats 1000000 in
theorem l25Other_c (w : World) (v : Value) (z : Zone) (x : Int × List (List Int)) (d p : Int) (h : RoomsR z w v x) (hok : roomsOk x.1 x.2 = true) (h0 : 0 ≤ d) (h1 : d < x.2.length) :
    Calls Try.prog 105 #[v, .int .i64 d, .int .i64 p] w (Ret w fun r _ => r = .int .i64 (other x.2 d p)) := by
  obtain ⟨c, ds⟩ := x
  obtain ⟨u, rfl, hc, hr⟩ := h
  simp only at hr hok h1 ⊢
  obtain ⟨m, rfl⟩ : ∃ m : Nat, d = m := ⟨d.toNat, by omega⟩
  have hml : m < ds.length := by omega
  obtain ⟨a, len, cap, rfl, hlen, hmax, hel⟩ := SliceR.elem stable_ints hr
  obtain ⟨b, off, rfl, hblt, u, hcu, hu⟩ := hel m hml
  have p1 := ((roomsOk_sides hok).2.2 ds[m] (List.getElem_mem hml)).1
  obtain ⟨ad, l2, c2, rfl, hl, -, -, -, -, hrow⟩ := IntsR.shape hu
  obtain ⟨br, orr, rfl, hc0, -, -⟩ := hrow 0 (by omega)
  obtain ⟨_, _, he, hc1, -, -⟩ := hrow 1 (by omega)
  injection he with he; injection he with he1 he2 _
  subst he1; subst he2
  obtain rfl : l2 = 2 := by omega
  have hml' : m < len := by omega
  have HO : Hid (other ds m p = if p = ds[m].getD 0 0 then ds[m].getD 1 0 else if p = ds[m].getD 1 0 then ds[m].getD 0 0 else -1) := by
    show _ = _
    unfold other
    rw [Int.toNat_natCast]
    have e : ds.getD m [] = ds[m] := by simp [hml]
    rw [e]
  rw [Nat.add_zero] at hc0
  have hbr : br < w.heap.size := World.block_lt_of_cell? _ _ hc0
  clear hrow hu hel hok p1 hl hlen hr
  generalize other ds m p = res at *
  generalize ds[m].getD 0 0 = x0 at *
  generalize ds[m].getD 1 0 = x1 at *
  by_cases e0 : p = x0
  · have HH : Hid (res = x1) := by show _ = _; rw [HO.out, if_pos e0]
    have hb : (p == x0) = true := by simp [e0]
    clear HO e0
    go_enter Try.func105, Try.ntmps105
    go_wp2_with fail
    go_ret
    exact ⟨_, rfl, congrArg (Value.int .i64) HH.out.symm, Ext.alloc _ _⟩
  · have hb : (p == x0) = false := by simp [e0]
    by_cases e1 : p = x1
    · have HH : Hid (res = x0) := by show _ = _; rw [HO.out, if_neg e0, if_pos e1]
      have hb1 : (p == x1) = true := by simp [e1]
      clear HO e0 e1
      go_enter Try.func105, Try.ntmps105
      go_wp2_with fail
      go_ret
      exact ⟨_, rfl, congrArg (Value.int .i64) HH.out.symm, Ext.alloc _ _⟩
    · have HH : Hid (res = -1) := by show _ = _; rw [HO.out, if_neg e0, if_neg e1]
      have hb1 : (p == x1) = false := by simp [e1]
      clear HO e0 e1
      go_enter Try.func105, Try.ntmps105
      go_wp2_with fail
      go_ret
      exact ⟨_, rfl, congrArg (Value.int .i64) HH.out.symm, Ext.alloc _ _⟩

theorem IntsR.last {z w v rs} {p : Int} (h : IntsR z w v rs) (hp : rs.getLast? = some p) : ∃ b off n cap, v = .slice (some ⟨b, off, none⟩) (n + 1) cap ∧ n + 1 = rs.length ∧ n + 1 ≤ 9223372036854775807 ∧ w.cell? ⟨b, off + n, none⟩ = some (.int .i64 p) ∧ I64 p := by
  obtain ⟨a, n, cap, rfl, hn, hm, -, -, -, hel⟩ := IntsR.shape h
  obtain ⟨y, rfl⟩ := List.getLast?_eq_some_iff.1 hp
  have hl : n = y.length + 1 := by simpa using hn
  subst hl
  obtain ⟨b, off, rfl, hc, hi, -⟩ := hel y.length (by omega)
  have e : (y ++ [p]).getD y.length 0 = p := by simp
  rw [e] at hc hi
  exact ⟨b, off, _, cap, rfl, hn, hm, hc, hi⟩

theorem map_take_succ' {α β : Type} (g : α → β) {l : List α} {i : Nat} (h : i < l.length) : (l.take (i+1)).map g = (l.take i).map g ++ [g l[i]] := by
  rw [List.take_succ_eq_append_getElem h, List.map_append]; rfl

set_option maxRecDepth 100000 in
set_option maxHeartbeats 8000000 in
theorem l25Routes_c : ∀ (m : Nat) (w : World) (v vr vo : Value) (z y q : Zone) (x : Int × List (List Int)) (rs op : List Int) (t p : Int) (s : List Bool) (most : Nat), RoomsR z w v x → IntsR y w vr rs → IntsR q w vo op →
    roomsOk x.1 x.2 = true → rising op x.2.length = true → rs.getLast? = some p → rs.length ≤ 100 - m → Marked x.1.toNat rs s → s.count false ≤ m → m ≤ 50 → (p = t → 1 ≤ most) → most ≤ 1000000 →
    Calls Try.prog 54 #[v, vr, .int .i64 t, vo, .int .i64 most] w (Ret w fun r w' => RowsR (.new w w') w' r ((routesN x.2 op t m s p).take most)) := by
  intro m
  induction m using Nat.strongRecOn with
  | ind m ih =>
  intro w v vr vo z y q x rs op t p s most h hr ho hok hop hlast hrl hmk hcnt hm50 hpt hmost
  have hO := fun (d : Int) (h0 : 0 ≤ d) (h1 : d < x.2.length) (wq : World) (hb : Ext w wq) => l25Other_c wq v z x d p (stable_Rooms.ext h hb) hok h0 h1
  have hR := fun (wq : World) (hb : Ext w wq) => stable_Rooms.ext h hb
  obtain ⟨c, ds⟩ := x
  obtain ⟨u, rfl, hc, hrr⟩ := h
  obtain ⟨ad, nd, cd, rfl, -⟩ := SliceR.shape hrr
  simp only at hok hop hmk hO hR ⊢
  obtain ⟨br, off, n0, cr, rfl, hn0, hm0, hcl, hp64⟩ := hr.last hlast
  have Hn0 := Lib.hid hn0; clear hn0
  have hbr : br < w.heap.size := World.block_lt_of_cell? _ _ hcl
  by_cases hpe : p = t
  · subst hpe
    have HT : Hid ((routesN ds op p m s p).take most = [[]]) := by show _ = _; rw [routesN_end]; have := hpt rfl; cases most with | zero => omega | succ k => simp
    generalize (routesN ds op p m s p).take most = res at *
    clear ih hO hR hrr ho hr hok hop hlast hrl hmk hcnt
    go_enter Try.func54, Try.ntmps54
    go_wp2_with fail
    go_ret
    refine ⟨_, rfl, ?_, (Ext.alloc _ _).trans ((Ext.alloc _ _).trans (Ext.alloc _ _))⟩
    rw [HT.out]
    generalize hwa : w.alloc (.cells #[.int .i64 c, .slice ad nd cd] 29) = wa
    have hws : wa.heap.size = w.heap.size + 1 := by rw [← hwa]; simp
    have h1 : IntsR (.new wa (wa.alloc (.cells #[] 2))) (wa.alloc (.cells #[] 2)) (slV (some ⟨wa.heap.size, 0, none⟩, 0, 0)) [] := OwnP.ints (OwnP.empty (Nat.le_refl _)) (by simp) (Nat.le_refl _)
    have h2 := SliceR.one (e := 25) stable_ints h1 (Nat.le_refl _) (lo := w.heap.size) (by simp [Zone.new]; omega) (by simp; omega)
    simpa [slV, Zone.new, hws] using h2
  · have hpb : (p == t) = false := by rw [beq_eq_false_iff_ne]; exact hpe
    obtain ⟨ao, no, co, rfl, hno, hmo, -, -, -, hoel⟩ := IntsR.shape ho
    have Hno := Lib.hid hno; clear hno
    have Hoel := Lib.hid hoel; clear hoel
    have HO := Lib.hid hO; clear hO
    have Hdoor : Hid (∀ k, k < op.length → 0 ≤ op.getD k 0 ∧ op.getD k 0 < (ds.length : Int)) := fun k hk => by have := rising_ge hop k hk; omega
    have HAll : Hid ((partR ds op t m s p op.length).take most = (routesN ds op t m s p).take most) := by show _ = _; rw [partR_all hpe]
    have HStop : Hid (∀ k, k ≤ op.length → ¬ ((partR ds op t m s p k).take most).length < most → (partR ds op t m s p k).take most = (routesN ds op t m s p).take most) := fun k hk h => partR_stop hpe hk h
    have HSucc : Hid (∀ k (hk : k < op.length), partR ds op t m s p (k+1) = partR ds op t m s p k ++ stepR ds op t m s p op[k]) := fun k hk => partR_succ hk
    have HNo : Hid (∀ d : Int, canGo s (other ds d p) = false → stepR ds op t m s p d = []) := fun d h => stepR_no h
    have HGo : Hid (∀ d : Int, 0 ≤ d → d < (ds.length : Int) → canGo s (other ds d p) = true → ∃ n, m = n + 1 ∧ other ds d p < c ∧ Marked c.toNat (rs ++ [other ds d p]) (s.set (other ds d p).toNat true) ∧ (s.set (other ds d p).toNat true).count false ≤ n ∧ stepR ds op t m s p d = (routesN ds op t n (s.set (other ds d p).toNat true) (other ds d p)).map (d :: ·)) := fun d h0 h1 hg => by
      obtain ⟨g1, g2⟩ := canGo_iff.1 hg
      have hlt : other ds d p < c := by rcases other_range hok (p := p) h0 h1 with e | e <;> omega
      have hlen : (other ds d p).toNat < s.length := by rw [hmk.1]; omega
      have hpos := count_pos_of hlen g2
      have hset := set_count hlen g2
      obtain ⟨n, rfl⟩ : ∃ n, m = n + 1 := ⟨m - 1, by omega⟩
      exact ⟨n, rfl, hlt, hmk.next g1 (by omega), by omega, stepR_yes hg⟩
    have HHas : Hid (∀ q : Int, 0 ≤ q → q < c → has rs q = s.getD q.toNat false) := fun q h0 h1 => hmk.2 q h0 (by omega)
    have HRange : Hid (∀ d : Int, 0 ≤ d → d < (ds.length : Int) → other ds d p = -1 ∨ (0 ≤ other ds d p ∧ other ds d p < c)) := fun d h0 h1 => other_range hok h0 h1
    have HOwn := Lib.hid (fun (wq : World) (hb : Ext w wq) => l01Own_c wq _ y rs (stable_ints.ext hr hb) (by omega))
    have HHasC := Lib.hid (fun (qq : Int) (hq : I64 qq) (wq : World) (hb : Ext w wq) => Has_c wq _ y rs qq (stable_ints.ext hr hb) hq)
    have HIH := Lib.hid (fun (n : Nat) (hn : n < m) (nx : Int) (s' : List Bool) (mo : Nat) (wq : World) (hb : Ext w wq) (vr' : Value) (y' : Zone) (hr' : IntsR y' wq vr' (rs ++ [nx])) (h1 : Marked c.toNat (rs ++ [nx]) s') (h2 : s'.count false ≤ n) (h3 : 1 ≤ mo) (h4 : mo ≤ 1000000) => ih n hn wq _ vr' _ z y' q (c, ds) (rs ++ [nx]) op t nx s' mo (hR wq hb) hr' (stable_ints.ext ho hb) hok hop (by simp) (by simp; omega) h1 h2 (by omega) (fun _ => h3) h4)
    have HRs : Hid (rs.length ≤ 100) := Lib.hid (by omega)
    have HRm := Lib.hid (IntsR.mem hr)
    clear ih hR hmk hcnt hrl hlast hpt hrr hr hok hop
    go_enter Try.func54, Try.ntmps54
    go_wp2_with fail
    have hbx := box2 w (.int .i64 c) (.slice ad nd cd) 29
    generalize hwa : World.alloc w (.cells #[.int .i64 c, .slice ad nd cd] 29) = wa at *
    obtain ⟨e0, q0, q1, hsz⟩ := hbx
    have HZ := Lib.hid hsz; clear hsz hwa
    generalize hw0 : World.alloc wa _ = w0
    have b0 : Ext wa w0 := by rw [← hw0]; exact Ext.alloc _ _
    have o0 : OwnR true wa.heap.size IntsR 25 wa.heap.size w0 (.slice (some ⟨w.heap.size + 1, 0, none⟩) 0 0) [] := by rw [← hw0, ← HZ.out]; exact OwnR.empty (Nat.le_refl _)
    clear hw0
    go_wp2_with fail
    go_loopw [12, 13] (fun o i wr => ∃ k : Nat, k ≤ no ∧ i = .int .i64 k ∧ OwnR true wa.heap.size IntsR 25 wa.heap.size wr o ((partR ds op t m s p k).take most) ∧ Ext wa wr) (fun _ i _ => no - (intOf i).toNat)
    case atStart => exact ⟨0, Nat.zero_le _, rfl, by rw [partR_zero, List.take_nil]; exact o0, b0⟩
    case round =>
      clear o0 b0
      obtain ⟨k, hk, rfl, hown, hb⟩ := hrel
      have hbw := e0.trans hb
      obtain ⟨aa, na, ca, rfl, hna, hma⟩ := hown.shape
      have hlen : ((partR ds op t m s p k).take most).length ≤ most := List.length_take_le _ _
      by_cases hlt : k < no
      · by_cases hmo2 : na < most
        · have l1 : k < op.length := by rw [← Hno.out]; exact hlt
          have HS := Lib.hid (HSucc.out k l1)
          have HT := Lib.hid (take_more (l := partR ds op t m s p k) (k := stepR ds op t m s p op[k]) (n := most) (by omega))
          obtain ⟨d0, d1⟩ := Hdoor.out k l1
          obtain ⟨bo, oo, rfl, hco, hdi, -⟩ := Hoel.out k hlt
          have ed : op.getD k 0 = op[k] := by simp [l1]
          rw [ed] at d0 d1 hco hdi
          have HOd := Lib.hid (HO.out _ d0 d1)
          have HNod := Lib.hid (HNo.out op[k])
          have HGod := Lib.hid (HGo.out op[k] d0 d1)
          have HRd := HRange.out op[k] d0 d1
          rw [← hna] at HT
          have Hna := Lib.hid hna
          clear hna hlen ed HO HNo HGo HRange Hdoor HAll HStop HSucc d0 d1
          generalize op[k] = d at *
          have hnx64 : I64 (other ds d p) := by have hc' : I64 c := hc; unfold I64 at hc' ⊢; omega
          generalize other ds d p = nx at *
          have HCO := Lib.hid hco
          replace hco := hbw.cell hco
          have HK : Hid (∀ w', Ext wr w' → w'.cell? ⟨w.heap.size, 0, none⟩ = some (.int .i64 c) ∧ w'.cell? ⟨w.heap.size, 1, none⟩ = some (.slice ad nd cd) ∧ w'.cell? ⟨bo, oo + k, none⟩ = some (.int .i64 d)) := fun w' he => ⟨(hb.trans he).cell q0, (hb.trans he).cell q1, he.cell hco⟩
          by_cases hneg : nx < 0
          · have HE := Lib.hid (HNod.out (by unfold canGo; rw [decide_eq_false (by omega)]; rfl))
            clear HNod HGod HRd
            go_wp2_with fail
            go_region_held3 (fun w' => w'.cell? ⟨w.heap.size, 0, none⟩ = some (.int .i64 c) ∧ w'.cell? ⟨w.heap.size, 1, none⟩ = some (.slice ad nd cd) ∧ w'.cell? ⟨bo, oo + k, none⟩ = some (.int .i64 d)) (exact HK.out _ (by repeat (first | exact Ext.refl _ | assumption | (refine Ext.trans ?_ (Ext.alloc _ _)) | (refine Ext.trans ?_ (Ext.drew _)) | (refine Ext.trans ?_ (by assumption))))) (first | (go_at_call 105; (with_reducible refine (HOd.out _ (by repeat (first | exact Ext.refl _ | assumption | (refine Ext.trans ?_ (Ext.alloc _ _)) | (refine Ext.trans ?_ (Ext.drew _)) | (refine Ext.trans ?_ (by assumption))))).mono ?_); rintro e w7 hr7; obtain ⟨u7, rfl, rfl, b7⟩ := ret_ext hr7; clear hr7))
            go_wp2_with fail
            go_roundw
            case rel => exact ⟨k + 1, by omega, by go_num, by rw [HS.out, HT.out, HE.out, List.take_nil, List.append_nil]; exact OwnR.below stable_ints hown (by repeat (first | exact Ext.refl _ | assumption | (refine Ext.trans ?_ (Ext.alloc _ _)) | (refine Ext.trans ?_ (Ext.drew _)) | (refine Ext.trans ?_ (by assumption)))), (by repeat (first | exact Ext.refl _ | assumption | (refine Ext.trans ?_ (Ext.alloc _ _)) | (refine Ext.trans ?_ (Ext.drew _)) | (refine Ext.trans ?_ (by assumption))))⟩
            case measure => simp [intOf]; omega
          · have hnx0 : 0 ≤ nx := by omega
            have hnxc : nx < c := by omega
            have hhas := HHas.out nx hnx0 hnxc
            have hcall := HHasC.out nx hnx64
            have HC := Lib.hid hcall; clear hcall
            cases hq : has rs nx with
            | true =>
              have HE := Lib.hid (HNod.out (by unfold canGo; rw [decide_eq_true hnx0, ← hhas, hq]; rfl))
              rw [hq] at HC
              clear HNod HGod HRd hhas hq
              go_wp2_with fail
              go_region_held3 (fun w' => w'.cell? ⟨w.heap.size, 0, none⟩ = some (.int .i64 c) ∧ w'.cell? ⟨w.heap.size, 1, none⟩ = some (.slice ad nd cd) ∧ w'.cell? ⟨bo, oo + k, none⟩ = some (.int .i64 d)) (exact HK.out _ (by repeat (first | exact Ext.refl _ | assumption | (refine Ext.trans ?_ (Ext.alloc _ _)) | (refine Ext.trans ?_ (Ext.drew _)) | (refine Ext.trans ?_ (by assumption))))) (first | (go_at_call 105; (with_reducible refine (HOd.out _ (by repeat (first | exact Ext.refl _ | assumption | (refine Ext.trans ?_ (Ext.alloc _ _)) | (refine Ext.trans ?_ (Ext.drew _)) | (refine Ext.trans ?_ (by assumption))))).mono ?_); rintro e w7 hr7; obtain ⟨u7, rfl, rfl, b7⟩ := ret_ext hr7; clear hr7))
              go_wp2_with fail
              refine Calls.mono (HC.out _ (by repeat (first | exact Ext.refl _ | assumption | (refine Ext.trans ?_ (Ext.alloc _ _)) | (refine Ext.trans ?_ (Ext.drew _)) | (refine Ext.trans ?_ (by assumption))))) ?_
              rintro e w8 ⟨rfl, d8⟩
              have b8 := Ext.ofDrew d8
              go_wp2_with fail
              go_roundw
              case rel => exact ⟨k + 1, by omega, by go_num, by rw [HS.out, HT.out, HE.out, List.take_nil, List.append_nil]; exact OwnR.below stable_ints hown (by repeat (first | exact Ext.refl _ | assumption | (refine Ext.trans ?_ (Ext.alloc _ _)) | (refine Ext.trans ?_ (Ext.drew _)) | (refine Ext.trans ?_ (by assumption)))), (by repeat (first | exact Ext.refl _ | assumption | (refine Ext.trans ?_ (Ext.alloc _ _)) | (refine Ext.trans ?_ (Ext.drew _)) | (refine Ext.trans ?_ (by assumption))))⟩
              case measure => simp [intOf]; omega
            | false =>
              obtain ⟨n, hmn, g1, g2, g3, g4⟩ := HGod.out (by unfold canGo; rw [decide_eq_true hnx0, ← hhas, hq]; rfl)
              have HE := Lib.hid g4; clear g4
              rw [hq] at HC
              have hmo3 : ((most - na : Nat) : Int) = (most : Int) - na := by omega
              have HI := fun (wq : World) (hb : Ext w wq) (vr' : Value) (y' : Zone) (hr' : IntsR y' wq vr' (rs ++ [nx])) => HIH.out n (by omega) nx (s.set nx.toNat true) (most - na) wq hb vr' y' hr' g2 g3 (by omega) (by omega)
              rw [hmo3] at HI
              have HI2 := Lib.hid HI
              have hwm : IntKind.i64.wrap ((most : Int) - na) = (most : Int) - na := IntWalk.i64_in _ (by omega)
              have HRr : Hid (∀ r ∈ (routesN ds op t n (s.set nx.toNat true) nx).take (most - na), r.length ≤ 50) := fun r hr => by have := routesN_rlen _ _ _ r (List.mem_of_mem_take hr); omega
              have HRL : Hid (((routesN ds op t n (s.set nx.toNat true) nx).take (most - na)).length ≤ most - na) := List.length_take_le _ _
              have HEt : Hid ((partR ds op t m s p (k+1)).take most = (partR ds op t m s p k).take most ++ ((routesN ds op t n (s.set nx.toNat true) nx).take (most - na)).map (d :: ·)) := by
                show _ = _; rw [HS.out, HT.out, HE.out, List.map_take]
              clear HNod HGod HRd hhas hq HI hmn g1 g2 g3 HIH HE HS HT hmo3
              generalize (routesN ds op t n (s.set nx.toNat true) nx).take (most - na) = rest at *
              generalize (partR ds op t m s p k).take most = up at *
              go_wp2_with fail
              go_region_held3 (fun w' => w'.cell? ⟨w.heap.size, 0, none⟩ = some (.int .i64 c) ∧ w'.cell? ⟨w.heap.size, 1, none⟩ = some (.slice ad nd cd) ∧ w'.cell? ⟨bo, oo + k, none⟩ = some (.int .i64 d)) (exact HK.out _ (by repeat (first | exact Ext.refl _ | assumption | (refine Ext.trans ?_ (Ext.alloc _ _)) | (refine Ext.trans ?_ (Ext.drew _)) | (refine Ext.trans ?_ (by assumption))))) (first | (go_at_call 105; (with_reducible refine (HOd.out _ (by repeat (first | exact Ext.refl _ | assumption | (refine Ext.trans ?_ (Ext.alloc _ _)) | (refine Ext.trans ?_ (Ext.drew _)) | (refine Ext.trans ?_ (by assumption))))).mono ?_); rintro e w7 hr7; obtain ⟨u7, rfl, rfl, b7⟩ := ret_ext hr7; clear hr7))
              go_wp2_with fail
              refine Calls.mono (HC.out _ (by repeat (first | exact Ext.refl _ | assumption | (refine Ext.trans ?_ (Ext.alloc _ _)) | (refine Ext.trans ?_ (Ext.drew _)) | (refine Ext.trans ?_ (by assumption))))) ?_
              rintro e w8 ⟨rfl, d8⟩
              have b8 := Ext.ofDrew d8
              have bw8 : Ext wr w8 := (by repeat (first | exact Ext.refl _ | assumption | (refine Ext.trans ?_ (Ext.alloc _ _)) | (refine Ext.trans ?_ (Ext.drew _)) | (refine Ext.trans ?_ (by assumption))))
              clear b7 d8 b8
              go_wp2_with fail
              go_region_held_law (fun w' => w'.cell? ⟨w.heap.size, 0, none⟩ = some (.int .i64 c) ∧ w'.cell? ⟨w.heap.size, 1, none⟩ = some (.slice ad nd cd)) (first | exact ⟨(HK.out _ (by repeat (first | exact Ext.refl _ | assumption | (refine Ext.trans ?_ (Ext.alloc _ _)) | (refine Ext.trans ?_ (Ext.drew _)) | (refine Ext.trans ?_ (by assumption))))).1, (HK.out _ (by repeat (first | exact Ext.refl _ | assumption | (refine Ext.trans ?_ (Ext.alloc _ _)) | (refine Ext.trans ?_ (Ext.drew _)) | (refine Ext.trans ?_ (by assumption))))).2.1⟩) (first | (go_at_call 106; (with_reducible refine (HOwn.out _ (by repeat (first | exact Ext.refl _ | assumption | (refine Ext.trans ?_ (Ext.alloc _ _)) | (refine Ext.trans ?_ (Ext.drew _)) | (refine Ext.trans ?_ (by assumption))))).mono ?_); rintro e w9 hr9; obtain ⟨u9, rfl, o9', b9⟩ := ret_ext hr9; clear hr9; have o9 := OwnP.lower (B' := w8.heap.size) o9' (Ext.size (w := w8) (by repeat (first | exact Ext.refl _ | assumption | (refine Ext.trans ?_ (Ext.alloc _ _)) | (refine Ext.trans ?_ (Ext.drew _)) | (refine Ext.trans ?_ (by assumption))))); clear o9') | (refine step_append_of (by rfl) _ _ 25 (by rfl) (by rfl) (by rfl) (fun ty => run_appendP (f := Value.int .i64) (B := w8.heap.size) (xs := rs) (ys := [nx]) (E := IntR) 25 ty 0 8 Try.underlying25 Try.infoI64 rfl (fun _ => rfl) (o9.ext (by repeat (first | exact Ext.refl _ | assumption | (refine Ext.trans ?_ (Ext.alloc _ _)) | (refine Ext.trans ?_ (Ext.drew _)) | (refine Ext.trans ?_ (by assumption))))) (fun h => h.1) (stable_ints.ext (ints_one _ nx 2 hnx64) (by repeat (first | exact Ext.refl _ | assumption | (refine Ext.trans ?_ (Ext.alloc _ _)) | (refine Ext.trans ?_ (Ext.drew _)) | (refine Ext.trans ?_ (by assumption))))) (by have := HRs.out; simp; omega) (by omega) (Ext.size (w := w8) (by repeat (first | exact Ext.refl _ | assumption | (refine Ext.trans ?_ (Ext.alloc _ _)) | (refine Ext.trans ?_ (Ext.drew _)) | (refine Ext.trans ?_ (by assumption)))))) ?_; intro v10 w10 h10; obtain ⟨o10, g10, b10'⟩ := h10; have b10 : Ext w8 w10 := Ext.to' (by repeat (first | exact Ext.refl _ | assumption | (refine Ext.trans ?_ (Ext.alloc _ _)) | (refine Ext.trans ?_ (Ext.drew _)) | (refine Ext.trans ?_ (by assumption)))) b10'; clear b10' g10) | (go_at_call 54; (with_reducible refine (HI2.out _ (by repeat (first | exact Ext.refl _ | assumption | (refine Ext.trans ?_ (Ext.alloc _ _)) | (refine Ext.trans ?_ (Ext.drew _)) | (refine Ext.trans ?_ (by assumption)))) _ _ (OwnP.ints o10 (by intro y hy; rcases List.mem_append.1 hy with hy | hy; exact HRm.out y hy; rw [List.mem_singleton.1 hy]; exact hnx64) (Nat.le_refl _))).mono ?_); rintro e w11 hr11; obtain ⟨u11, rfl, r11, b11⟩ := ret_ext hr11; clear hr11))
              all_goals
                obtain ⟨a11, n11, c11, rfl, hn11, hm11, -⟩ := SliceR.shape r11
                have Hn11 := Lib.hid hn11; clear hn11
                have hown11 : OwnR true wa.heap.size IntsR 25 wa.heap.size w11 (.slice aa na ca) up := OwnR.below stable_ints hown (by repeat (first | exact Ext.refl _ | assumption | (refine Ext.trans ?_ (Ext.alloc _ _)) | (refine Ext.trans ?_ (Ext.drew _)) | (refine Ext.trans ?_ (by assumption))))
                have hw10 : Ext wr w10 := (by repeat (first | exact Ext.refl _ | assumption | (refine Ext.trans ?_ (Ext.alloc _ _)) | (refine Ext.trans ?_ (Ext.drew _)) | (refine Ext.trans ?_ (by assumption))))
                have hoff : Off (.slice aa na ca) w10.heap.size w11.heap.size := Off.of (fun k hk => Nat.lt_of_lt_of_le (hown.block k hk).2 hw10.size)
                have hb11 : Ext wa w11 := (by repeat (first | exact Ext.refl _ | assumption | (refine Ext.trans ?_ (Ext.alloc _ _)) | (refine Ext.trans ?_ (Ext.drew _)) | (refine Ext.trans ?_ (by assumption))))
                have hlup : na = up.length := Hna.out
                have Hlup := Lib.hid hlup; clear hlup
                clear hown hb hbw hco HK HC HOd HI2 HOwn HHasC HHas HRm bw8 hw10 b9 b10 o9 o10
                generalize wr = wo at *
                go_wp2_with fail
                go_loopw [12, 16] (fun o i wi => ∃ j : Nat, j ≤ n11 ∧ i = .int .i64 j ∧ OwnR true wa.heap.size IntsR 25 wa.heap.size wi o (up ++ (rest.take j).map (d :: ·)) ∧ Ext wa wi ∧ Same (.new w10 w11) w11 wi ∧ w11.heap.size ≤ wi.heap.size ∧ Off o w10.heap.size w11.heap.size) (fun _ i _ => n11 - (intOf i).toNat)
                case atStart => exact ⟨0, Nat.zero_le _, rfl, by simpa using hown11, hb11, Same.refl _ _, Nat.le_refl _, hoff⟩
                case round =>
                  obtain ⟨j, hj, rfl, howni, hbi, hsame, hszi, hoffi⟩ := hrel
                  have hbwi := e0.trans hbi
                  have hwas := hbi.size
                  by_cases hltj : j < n11
                  · have l2 : j < rest.length := by rw [← Hn11.out]; exact hltj
                    have hcoi := hbwi.cell HCO.out
                    obtain ⟨_, _, _, he, -, -, -, -, -, hel1⟩ := SliceR.shape (stable_rows.keep r11 hsame)
                    injection he with he1 he2 he3
                    subst he1; subst he2; subst he3
                    obtain ⟨b, off2, rfl, hzb, hblt, -, u, yz, hcu, -, -, hu⟩ := hel1 j l2
                    have hbne : ∀ g, u12.ownBlock = some g → g ≠ b := fun g hg e => hoffi.not g hg (e ▸ hzb)
                    have hbow : bo < wa.heap.size := Nat.lt_of_lt_of_le (World.block_lt_of_cell? _ _ HCO.out) e0.size
                    have HX : Hid (up ++ (rest.take (j+1)).map (d :: ·) = (up ++ (rest.take j).map (d :: ·)) ++ [d :: rest[j]]) := by show _ = _; rw [map_take_succ' _ l2, List.append_assoc]
                    have HXL : Hid ((up ++ (rest.take j).map (d :: ·)).length + 1 ≤ 2000000) := by
                      have h1 := HRL.out; have h2 := Hlup.out
                      show _ ≤ _
                      simp only [List.length_append, List.length_map, List.length_take]
                      omega
                    have hlr : rest[j].length ≤ 50 := HRr.out _ (List.getElem_mem l2)
                    clear hel1
                    generalize up ++ (rest.take j).map (d :: ·) = acc at *
                    generalize rest[j] = r at *
                    have hmr := IntsR.mem hu
                    have Hmr := Lib.hid hmr; clear hmr
                    have HLr := Lib.hid hlr; clear hlr
                    obtain ⟨ar, nr, cr', rfl, -⟩ := SliceR.shape hu
                    generalize wr = wi at *
                    have HK2 : Hid (∀ w', Ext wi w' → w'.cell? ⟨bo, oo + k, none⟩ = some (.int .i64 d) ∧ w'.cell? ⟨b, off2 + j, none⟩ = some (.slice ar nr cr')) := fun w' he => ⟨he.cell hcoi, he.cell hcu⟩
                    have HK3 : Hid (∀ w12 v' w' zs, Ext wi w12 → App1 true wa.heap.size IntsR 25 wa.heap.size wi w12 u12 zs v' w' → w'.cell? ⟨bo, oo + k, none⟩ = some (.int .i64 d) ∧ w'.cell? ⟨b, off2 + j, none⟩ = some (.slice ar nr cr')) := fun w12 v' w' zs he ha => ⟨(Below.cell ha.2.1 (p := ⟨bo, oo + k, none⟩) hbow).trans hcoi, World.grownBy.cell ha.2.2.2.1 (he.cell hcu) (fun e => hbne b e.symm rfl)⟩
                    clear hbne hbow
                    go_wp2_with fail
                    go_region_held_law (fun w' => w'.cell? ⟨bo, oo + k, none⟩ = some (.int .i64 d) ∧ w'.cell? ⟨b, off2 + j, none⟩ = some (.slice ar nr cr')) (first | exact HK3.out _ _ _ _ b12 h13 | exact HK2.out _ (by repeat (first | exact Ext.refl _ | assumption | (refine Ext.trans ?_ (Ext.alloc _ _)) | (refine Ext.trans ?_ (Ext.drew _)) | (refine Ext.trans ?_ (by assumption))))) (first | (refine step_append_of (by rfl) _ _ 25 (by rfl) (by rfl) (by rfl) (fun ty => run_appendP (f := Value.int .i64) (B := wi.heap.size) (xs := [d]) (ys := r) (E := IntR) 25 ty 0 8 Try.underlying25 Try.infoI64 rfl (fun _ => rfl) (OwnP.ext (OwnP.one (B := wi.heap.size) (Ext.size (w := wi) (by repeat (first | exact Ext.refl _ | assumption | (refine Ext.trans ?_ (Ext.alloc _ _)) | (refine Ext.trans ?_ (Ext.drew _)) | (refine Ext.trans ?_ (by assumption))))) d) (by repeat (first | exact Ext.refl _ | assumption | (refine Ext.trans ?_ (Ext.alloc _ _)) | (refine Ext.trans ?_ (Ext.drew _)) | (refine Ext.trans ?_ (by assumption))))) (fun h => h.1) (stable_ints.ext hu (by repeat (first | exact Ext.refl _ | assumption | (refine Ext.trans ?_ (Ext.alloc _ _)) | (refine Ext.trans ?_ (Ext.drew _)) | (refine Ext.trans ?_ (by assumption))))) (by have := HLr.out; simp only [List.length_singleton]; omega) (by omega) (Ext.size (w := wi) (by repeat (first | exact Ext.refl _ | assumption | (refine Ext.trans ?_ (Ext.alloc _ _)) | (refine Ext.trans ?_ (Ext.drew _)) | (refine Ext.trans ?_ (by assumption)))))) ?_; intro v12 w12 h12; obtain ⟨o12, g12, b12'⟩ := h12; have b12 : Ext wi w12 := Ext.to' (by repeat (first | exact Ext.refl _ | assumption | (refine Ext.trans ?_ (Ext.alloc _ _)) | (refine Ext.trans ?_ (Ext.drew _)) | (refine Ext.trans ?_ (by assumption)))) b12'; obtain ⟨a12, n12, c12, rfl, -⟩ := o12.shape; have i12 := OwnP.ints o12 (by intro y hy; rcases List.mem_append.1 hy with hy | hy; (rw [List.mem_singleton.1 hy]; exact hdi); exact Hmr.out y hy) (Nat.le_refl _); clear b12' g12 o12) | (refine step_append_of (by rfl) _ _ 22 (by rfl) (by rfl) (by rfl) (fun ty => run_appendRow (b := true) (L := wa.heap.size) (B := wa.heap.size) (e := 25) stable_ints slRepr_slice 22 ty Try.underlying22 Try.infoInts howni b12 (u := (a12, n12, c12)) (y := d :: r) i12 rfl (by have := HXL.out; omega) hwas hwas) ?_; intro v13 w13 h13))
                    obtain ⟨o13, b13, z13, g13, at13⟩ := h13
                    have z12 := b12.size
                    go_wp2_with fail
                    go_roundw
                    case rel => exact ⟨j + 1, by omega, by go_num, by rw [HX.out]; exact o13, Below.trans hbi b13, Same.grown (Same.below hsame hszi b12) (Nat.le_trans hszi z12) g13 hoffi.not, by omega, hoffi.next (Nat.le_trans hszi z12) at13⟩
                    case measure => simp [intOf]; omega
                  · have hjn : j = n11 := by omega
                    rw [hjn, Hn11.out, List.take_length, ← HEt.out] at howni
                    clear hjn
                    go_wp2_with fail
                    go_roundw
                    case rel => exact ⟨k + 1, by omega, by go_num, howni, hbi⟩
                    case measure => simp [intOf]; omega
        · have HE := Lib.hid (HStop.out k (by rw [← Hno.out]; exact hk) (by rw [← hna]; exact hmo2))
          rw [HE.out] at hown
          have hR := stable_rows.grow (OwnR.reads hown (Nat.le_refl _)) e0 (Ext.refl _)
          clear HE HAll HStop HSucc hown hna hlen
          go_wp2_with fail
          go_ret
          exact ⟨_, rfl, hR, hbw⟩
      · have hkn : k = op.length := by rw [← Hno.out]; omega
        rw [hkn, HAll.out] at hown
        have hR := stable_rows.grow (OwnR.reads hown (Nat.le_refl _)) e0 (Ext.refl _)
        clear HAll HStop HSucc hown hna hlen hkn
        go_wp2_with fail
        go_ret
        exact ⟨_, rfl, hR, hbw⟩
end Go.Proofs.Ytaogpbhgoeepbaa
