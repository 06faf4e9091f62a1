/- Proved: the routes between two rooms, as the program walks them. -/
import Derived.Test.YtaogpbhgoeepbaaChecked
import Derived.Deep.RegionLaw
import Derived.Deep.RegionHeld3
import Derived.Outline
import Derived.Test.YtaogpbhgoeepbaaURoutesState
import Derived.Test.YtaogpbhgoeepbaaUClone
import Derived.Test.YtaogpbhgoeepbaaURoutesCode
namespace Go.Proofs.Ytaogpbhgoeepbaa
open Go.ChangeShapes Go.WideShapes Go.ChangeAt Go.RowKit
set_option linter.unusedVariables false

set_option maxRecDepth 20000 in
set_option maxHeartbeats 1000000 in
theorem behind_c (w : World) (v : Value) (z : Zone) (x : Int × List (List Int)) (d p : Int) (h : RoomsR z w v x) (hok : roomsOk x.1 x.2 = true) (h0 : 0 ≤ d) (h1 : d < x.2.length) :
    Calls Try.prog 110 #[v, .int .i64 d, .int .i64 p] w (Ret w fun r _ => r = .int .i64 (other x.2 d p)) := by
  obtain ⟨c, ds⟩ := x
  obtain ⟨u, rfl, hc, hr⟩ := h
  simp only at hr hok h1 ⊢
  obtain ⟨m, rfl⟩ : ∃ m : Nat, d = m := ⟨d.toNat, by omega⟩
  have hml : m < ds.length := by omega
  obtain ⟨a, len, cap, rfl, hlen, hmax, hel⟩ := SliceR.elem stable_ints hr
  obtain ⟨b, off, rfl, hblt, u, hcu, hu⟩ := hel m hml
  have p1 := ((roomsOk_sides hok).2.2 ds[m] (List.getElem_mem hml)).1
  obtain ⟨ad, l2, c2, rfl, hl, -, -, -, -, hrow⟩ := IntsR.shape hu
  obtain ⟨br, orr, rfl, hc0, -, -⟩ := hrow 0 (by omega)
  obtain ⟨_, _, he, hc1, -, -⟩ := hrow 1 (by omega)
  injection he with he; injection he with he1 he2 _
  subst he1; subst he2
  obtain rfl : l2 = 2 := by omega
  have hml' : m < len := by omega
  have HO : Hid (other ds m p = if p = ds[m].getD 0 0 then ds[m].getD 1 0 else if p = ds[m].getD 1 0 then ds[m].getD 0 0 else -1) := by
    show _ = _
    unfold other
    rw [Int.toNat_natCast]
    have e : ds.getD m [] = ds[m] := by simp [hml]
    rw [e]
  rw [Nat.add_zero] at hc0
  have hbr : br < w.heap.size := World.block_lt_of_cell? _ _ hc0
  clear hrow hu hel hok p1 hl hlen hr
  generalize other ds m p = res at *
  generalize ds[m].getD 0 0 = x0 at *
  generalize ds[m].getD 1 0 = x1 at *
  by_cases e0 : p = x0
  · have HH : Hid (res = x1) := by show _ = _; rw [HO.out, if_pos e0]
    have hb : (p == x0) = true := by simp [e0]
    clear HO e0
    go_enter Try.func110, Try.ntmps110
    go_wp2_with fail
    go_ret
    exact ⟨_, rfl, congrArg (Value.int .i64) HH.out.symm, Ext.alloc _ _⟩
  · have hb : (p == x0) = false := by simp [e0]
    by_cases e1 : p = x1
    · have HH : Hid (res = x0) := by show _ = _; rw [HO.out, if_neg e0, if_pos e1]
      have hb1 : (p == x1) = true := by simp [e1]
      clear HO e0 e1
      go_enter Try.func110, Try.ntmps110
      go_wp2_with fail
      go_ret
      exact ⟨_, rfl, congrArg (Value.int .i64) HH.out.symm, Ext.alloc _ _⟩
    · have HH : Hid (res = -1) := by show _ = _; rw [HO.out, if_neg e0, if_neg e1]
      have hb1 : (p == x1) = false := by simp [e1]
      clear HO e0 e1
      go_enter Try.func110, Try.ntmps110
      go_wp2_with fail
      go_ret
      exact ⟨_, rfl, congrArg (Value.int .i64) HH.out.symm, Ext.alloc _ _⟩

def Walked (f : RF) (x : RC) (w : World) (rss : List (List Int)) (rt : List Int) (s : List Bool) (e : Ending) (w' : World) : Prop :=
  ∃ vs vu, e = .returned (.tuple #[]) ∧ RS f x w' vs vu rss rt s ∧ Below f.B w w' ∧ w.heap.size ≤ w'.heap.size
def more (rss : List (List Int)) (most : Nat) (rt : List Int) (l : List (List Int)) : List (List Int) := rss ++ (l.map (rt ++ ·)).take (most - rss.length)
theorem more_nil (rss : List (List Int)) (most : Nat) (rt : List Int) : more rss most rt [] = rss := by simp [more]
theorem more_full {rss : List (List Int)} {most : Nat} {rt : List Int} {l : List (List Int)} (h : most ≤ rss.length) : more rss most rt l = rss := by
  unfold more; rw [show most - rss.length = 0 by omega, List.take_zero, List.append_nil]
theorem more_one {rss : List (List Int)} {most : Nat} {rt : List Int} (h : rss.length < most) : more rss most rt [[]] = rss ++ [rt] := by
  unfold more
  obtain ⟨k, hk⟩ : ∃ k, most - rss.length = k + 1 := ⟨most - rss.length - 1, by omega⟩
  rw [hk]; simp
theorem more_append (rss : List (List Int)) (most : Nat) (rt : List Int) (l k : List (List Int)) : more rss most rt (l ++ k) = more (more rss most rt l) most rt k := by
  unfold more
  rw [List.map_append, List.take_append, List.append_assoc]
  congr 3
  simp only [List.length_append, List.length_map, List.length_take]
  omega
theorem more_deep (rss : List (List Int)) (most : Nat) (rt : List Int) (d : Int) (l : List (List Int)) : more rss most rt (l.map (d :: ·)) = more rss most (rt ++ [d]) l := by
  unfold more
  rw [List.map_map]
  congr 3
  funext r
  simp
theorem more_length {rss : List (List Int)} {most : Nat} {rt : List Int} {l : List (List Int)} (h : rss.length ≤ most) : (more rss most rt l).length ≤ most := by
  unfold more
  simp only [List.length_append, List.length_map, List.length_take]
  omega

set_option maxRecDepth 100000 in
set_option maxHeartbeats 8000000 in
theorem routesTo1_c (f : RF) (hf : f.Ok) (x : RC) (ds : List (List Int)) (op : List Int) (w0 : World) (z q : Zone) (h0 : w0.heap.size ≤ f.B) (hro : RoomsR z w0 (.agg #[.int .i64 x.c, x.vd]) (x.c, ds)) (hop : IntsR q w0 x.vo op) (hok : roomsOk x.c ds = true) (hris : rising op ds.length = true)
    (hmost : x.most ≤ 1099511627000) (hnc : (x.nc : Int) = x.c) :
    ∀ (n : Nat) (w : World) (vs vu : Value) (rss : List (List Int)) (rt : List Int) (s : List Bool) (p : Int), RS f x w vs vu rss rt s → Below f.B w0 w → canGo s p = true → p < x.c → (s.set p.toNat true).count false ≤ n → rt.length ≤ 100 - n → (∀ y ∈ rt, I64 y) → n ≤ 50 → rss.length ≤ x.most →
    Calls Try.prog 108 #[.int .i64 p, .pointer (some ⟨f.T, 0, none⟩), .pointer (some ⟨f.S, 0, none⟩), .pointer (some ⟨f.M, 0, none⟩), .pointer (some ⟨f.U, 0, none⟩), .pointer (some ⟨f.N, 0, none⟩), .pointer (some ⟨f.O, 0, none⟩), .pointer (some ⟨f.R, 0, none⟩), .pointer (some ⟨f.W, 0, none⟩)] w
      (Walked f x w (more rss x.most rt (routesN ds op x.t n (s.set p.toNat true) p)) rt s) := by
  intro n
  induction n using Nat.strongRecOn with
  | ind n ih =>
  intro w vs vu rss rt s p hst hb0 hgo hpc hcnt hrl hrt hn50 hrs
  have cT := hst.cst.cT
  have cM := hst.cst.cM
  have cN := hst.cst.cN
  have cO := hst.cst.cO
  have cR0 := hst.cst.cR0
  have cR1 := hst.cst.cR1
  have cW := hst.cst.cW
  have cS := cell_of_one hst.hS
  have fS := free_of_one hst.hS
  have cU := cell_of_one hst.hU
  have fU := free_of_one hst.hU
  obtain ⟨aS, ns, cs, rfl, hns, hms⟩ := OwnA.shape hst.oS
  have Hns := Lib.hid hns; clear hns
  obtain ⟨au, nu, cu, rfl, hnu, hmu, -⟩ := hst.oU.shape
  have Hnu := Lib.hid hnu; clear hnu
  have HST := Lib.hid hst
  have HF := Lib.hid hf
  by_cases hpe : p = x.t
  · have hpb : (p == x.t) = true := by simp [hpe]
    by_cases hlt : ns < x.most
    · have HM : Hid (more rss x.most rt (routesN ds op x.t n (s.set p.toNat true) p) = rss ++ [rt]) := by
        show _ = _; rw [hpe, routesN_end, more_one (by rw [← Hns.out]; exact hlt)]
      have HCl := Lib.hid (fun (wq : World) (hb : Ext w wq) => Clone_c wq _ _ rt (stable_ints.ext (OwnP.ints hst.oU hrt (Nat.le_refl _)) hb) (by omega))
      generalize more rss x.most rt (routesN ds op x.t n (s.set p.toNat true) p) = res at *
      have hlU : ∀ k, w.heap.size ≤ k → f.H ≤ k ∧ (Value.slice au nu cu).ownBlock ≠ some k := fun k hk => ⟨Nat.le_trans hst.hH hk, fun e => by have := (hst.oU.block k e).2; omega⟩
      have HlU := Lib.hid hlU; clear hlU
      have hBs : f.B ≤ w.heap.size := Nat.le_trans hf.ge.1 (Nat.le_trans (Nat.le_of_lt (hf.lt _ (.inr (.inl rfl)))) hst.hH)
      have HS3 : Hid (∀ w2 w3 zs v', Ext w w2 → AppA1 true (fun k => f.H ≤ k ∧ (Value.slice au nu cu).ownBlock ≠ some k) IntsR 25 f.B w w2 (.slice aS ns cs) zs v' w3 → w3.heap[f.S]? = some (.cells #[.slice aS ns cs] 22 (0, 0))) := fun w2 w3 zs v' he ha => by
        have hS : f.isF f.S := .inr (.inl rfl)
        have h1 := hf.lt _ hS
        have h2 := HST.out.hH
        have h3 := he.size
        exact (ha.2.2.2.1.block f.S (by omega) (fun e => HST.out.nS _ e.symm hS)).trans ((he.below.block f.S (by omega)).trans HST.out.hS)
      have HOS := Lib.hid hst.oS
      have hns2 : ns + 1 ≤ 1099511627776 := by omega
      have hns3 : rss.length + 1 ≤ 1099511627776 := by rw [← Hns.out]; exact hns2
      have Hns3 := Lib.hid hns3; clear hns3
      have Hrt := Lib.hid hrt; clear hrt
      have hSl : f.S < w.heap.size := lt_of_block hst.hS
      clear ih hst hgo hpe hf hb0 hro hop hok hris cR0 cR1 cW cO cN
      go_enter Try.func108, Try.ntmps108
      go_wp2_with fail
      go_region_law (first | (go_simp; go_at_call 109; refine (HCl.out _ (by repeat (first | exact Ext.refl _ | assumption | (refine Ext.trans ?_ (Ext.alloc _ _)) | (refine Ext.trans ?_ (Ext.drew _)) | (refine Ext.trans ?_ (by assumption))))).mono ?_; rintro e w7 hr7; obtain ⟨u7, rfl, o7', b7⟩ := ret_ext hr7; clear hr7; have c7 := Ext.cell (w := w) (w' := w7) (by repeat (first | exact Ext.refl _ | assumption | (refine Ext.trans ?_ (Ext.alloc _ _)) | (refine Ext.trans ?_ (Ext.drew _)) | (refine Ext.trans ?_ (by assumption)))) cS; have o7 := OwnP.lower (B' := w.heap.size) o7' (Ext.size (w := w) (by repeat (first | exact Ext.refl _ | assumption | (refine Ext.trans ?_ (Ext.alloc _ _)) | (refine Ext.trans ?_ (Ext.drew _)) | (refine Ext.trans ?_ (by assumption))))); obtain ⟨a7, n7, k7, rfl, -⟩ := o7.shape; have i7 := OwnP.ints o7 Hrt.out (Nat.le_refl _); have z7 := (Ext.size (w := w) (w' := w7) (by repeat (first | exact Ext.refl _ | assumption | (refine Ext.trans ?_ (Ext.alloc _ _)) | (refine Ext.trans ?_ (Ext.drew _)) | (refine Ext.trans ?_ (by assumption))))); have e7 : Ext w w7 := (by repeat (first | exact Ext.refl _ | assumption | (refine Ext.trans ?_ (Ext.alloc _ _)) | (refine Ext.trans ?_ (Ext.drew _)) | (refine Ext.trans ?_ (by assumption)))); have l7 : f.S < w7.heap.size := Nat.lt_of_lt_of_le hSl z7; clear o7') | (refine step_append_of (by rfl) _ _ 22 (by rfl) (by rfl) (by rfl) (fun ty => run_appendRowA (b := true) (B := f.B) (e := 25) stable_ints slRepr_slice 22 ty Try.underlying22 Try.infoInts HOS.out (Ext.below e7) (u := (a7, n7, k7)) (y := rt) i7 rfl Hns3.out HlU.out hBs) ?_; intro v8 w8 h8; obtain ⟨a8, n8, k8, rfl, -⟩ := OwnA.shape h8.1; have c8 := cell_of_one (HS3.out _ _ _ _ e7 h8); have f8 := free_of_one (HS3.out _ _ _ _ e7 h8)))
      all_goals
        have hST8 := RS.addRoute HST.out HF.out e7 h8
        have hb8 : Below f.B w (w8.setCell ⟨f.S, 0, none⟩ (.slice a8 n8 k8)) := h8.2.1.setCell HF.out.ge.1 _
        have hz8 : w.heap.size ≤ (w8.setCell ⟨f.S, 0, none⟩ (.slice a8 n8 k8)).heap.size := by rw [size_set]; exact Nat.le_trans z7 h8.2.2.1
        have cT8 := hST8.cst.cT
        rw [← HM.out] at hST8
        clear h8
        go_wp2_with fail
        exact bodyPost_ret (v := .tuple #[]) (by simp [results, Try.results108, go_sem]) rfl ⟨_, _, rfl, hST8, hb8, hz8⟩
    · have hM : more rss x.most rt (routesN ds op x.t n (s.set p.toNat true) p) = rss := more_full (by rw [← Hns.out]; omega)
      have HM := Lib.hid hM
      generalize more rss x.most rt (routesN ds op x.t n (s.set p.toNat true) p) = res at *
      clear hM
      go_enter Try.func108, Try.ntmps108
      go_wp2_with fail
      exact bodyPost_ret (v := .tuple #[]) (by simp [results, Try.results108, go_sem]) rfl ⟨_, _, rfl, by rw [HM.out]; exact HST.out, Below.refl _ _, Nat.le_refl _⟩
  · have hpb : (p == x.t) = false := by rw [beq_eq_false_iff_ne]; exact hpe
    by_cases hlt : ns < x.most
    · obtain ⟨pn, rfl⟩ : ∃ pn : Nat, p = pn := ⟨p.toNat, by have := (canGo_iff.1 hgo).1; omega⟩
      rw [Int.toNat_natCast] at hcnt ⊢
      have hpn : pn < x.nc := by omega
      obtain ⟨_, eg, -, -, hcg, hfg⟩ := hst.oG.elem false pn hpn
      injection eg with eg; injection eg with eg _ _; subst eg
      have hs1 := RS.enter hst hf pn true
      have hslen : (s.set pn true).length = x.nc := hs1.oG.len.symm
      have hsp : (s.set pn true).set pn false = s := by
        have h1 : s.getD pn false = false := by have := (canGo_iff.1 hgo).2; simpa using this
        have hl : pn < s.length := by simpa using (show pn < (s.set pn true).length by omega)
        rw [List.set_set]
        refine List.ext_getElem (by simp) fun j h1' h2' => ?_
        by_cases e : pn = j
        · subst e; rw [List.getElem_set_self]; simpa [hl] using h1.symm
        · rw [List.getElem_set_ne e]
      have HSP := Lib.hid hsp; clear hsp
      have HAll : Hid (partR ds op x.t n (s.set pn true) pn op.length = routesN ds op x.t n (s.set pn true) pn) := partR_all hpe
      generalize hs1e : s.set pn true = s1 at *
      have hwb : Below f.B w (w.setCell ⟨f.g, pn, none⟩ (.bool true)) := (Below.refl _ _).setCell hf.ge.2.2 _
      have hws : (w.setCell ⟨f.g, pn, none⟩ (.bool true)).heap.size = w.heap.size := size_set _ _ _
      obtain ⟨ao, no, co, hvo, hno, hmo, -, -, -, hoel⟩ := IntsR.shape hop
      have Hno := Lib.hid hno; clear hno
      have Hoel := Lib.hid hoel; clear hoel
      have Hvo := Lib.hid hvo
      have cO1 := hs1.cst.cO
      rw [hvo] at cO cO1
      clear hvo
      have Hdoor : Hid (∀ k, k < op.length → 0 ≤ op.getD k 0 ∧ op.getD k 0 < (ds.length : Int)) := fun k hk => by have := rising_ge hris k hk; omega
      have HSucc : Hid (∀ k (hk : k < op.length), partR ds op x.t n s1 pn (k+1) = partR ds op x.t n s1 pn k ++ stepR ds op x.t n s1 pn op[k]) := fun k hk => partR_succ hk
      have HRange : Hid (∀ d : Int, 0 ≤ d → d < (ds.length : Int) → other ds d pn = -1 ∨ (0 ≤ other ds d pn ∧ other ds d pn < x.c)) := fun d h0 h1 => other_range hok h0 h1
      have HBeh := Lib.hid (fun (d : Int) (h0' : 0 ≤ d) (h1' : d < (ds.length : Int)) (wq : World) (hb : Below f.B w0 wq) => behind_c wq _ z (x.c, ds) d pn (stable_Rooms.keep hro (hb.hiZone h0 z)) hok h0' h1')
      have HIH := Lib.hid ih; clear ih
      have hc8 : x.c ≤ 8 := (roomsOk_sides hok).1.2
      have Hrt := Lib.hid hrt; clear hrt
      have HR0 := Lib.hid hs1
      have hb0w := hb0
      clear hst hs1 hs1e hgo hro hop hok hris
      go_enter Try.func108, Try.ntmps108
      go_wp2_with fail
      generalize hwa : World.setCell w _ _ = wa at *
      have HWS := Lib.hid hws; clear hws hwa
      go_loopw [41] (fun t wr => ∃ (k : Nat) (vs vu : Value), k ≤ no ∧ t = .int .i64 k ∧ RS f x wr vs vu (more rss x.most rt (partR ds op x.t n s1 pn k)) rt s1 ∧ Below f.B w wr ∧ w.heap.size ≤ wr.heap.size) (fun t _ => no - (intOf t).toNat)
      case atStart => exact ⟨0, _, _, Nat.zero_le _, rfl, by rw [partR_zero, more_nil]; exact HR0.out, hwb, by rw [HWS.out]; exact Nat.le_refl _⟩
      case round =>
        obtain ⟨k, vs2, vu2, hk, rfl, hr, hbw, hzw⟩ := hrel
        clear cT cM cN cO cR0 cR1 cW cS fS cU fU cO1 hwb hcg hfg
        by_cases hlk : k < no
        · have l1 : k < op.length := by rw [← Hno.out]; exact hlk
          have hb0r : Below f.B w0 wr := hb0.trans hbw
          obtain ⟨d0, d1⟩ := Hdoor.out k l1
          obtain ⟨bo, oo, rfl, hco, hdi, -⟩ := Hoel.out k hlk
          have hbo := World.block_lt_of_cell? _ _ hco
          replace hco := (hb0r.cell (p := ⟨bo, oo + k, none⟩) (Nat.lt_of_lt_of_le hbo h0)).trans hco
          have ed : op.getD k 0 = op[k] := by simp [l1]
          rw [ed] at d0 d1 hco hdi
          have HS := Lib.hid (HSucc.out k l1)
          have hRd := HRange.out op[k] d0 d1
          have hBd := HBeh.out op[k] d0 d1 wr hb0r
          clear ed d0 d1 hbo
          generalize op[k] = d at *
          have hnx : I64 (other ds d pn) := by unfold I64; omega
          have cR0 := hr.cst.cR0
          have cR1 := hr.cst.cR1
          generalize hnxe : other ds d pn = nx at *
          by_cases hneg : nx < 0
          · have HE : Hid (stepR ds op x.t n s1 pn d = []) := stepR_no (by unfold canGo; rw [hnxe, decide_eq_false (by omega)]; rfl)
            clear hnxe
            go_wp2_with fail
            refine Calls.mono hBd ?_
            rintro e w7 hr7
            obtain ⟨u7, rfl, rfl, b7⟩ := ret_ext hr7
            clear hr7 hBd
            have hr7 := hr.ext hf b7
            have hbw7 := hbw.trans (Below.mono b7 (by have := hr.hH; have := hf.ge.1; have := hf.lt f.S (.inr (.inl rfl)); omega))
            have hz7 := b7.size
            go_wp2_with fail
            go_roundw
            case rel => exact ⟨k + 1, _, _, by omega, by go_num, by rw [HS.out, HE.out, List.append_nil]; exact hr7, hbw7, by omega⟩
            case measure => simp [intOf]; omega
          · obtain ⟨qn, rfl⟩ : ∃ qn : Nat, nx = qn := ⟨nx.toNat, by omega⟩
            have hqn : qn < x.nc := by omega
            have hlenB : f.B ≤ wr.heap.size := by have := hr.hH; have := hf.ge.1; have := hf.lt f.S (.inr (.inl rfl)); omega
            cases hsq : s1.getD qn false with
            | true =>
              have HE : Hid (stepR ds op x.t n s1 pn d = []) := stepR_no (by unfold canGo; rw [hnxe, Int.toNat_natCast, hsq]; simp)
              clear hnxe
              go_wp2_with fail
              refine Calls.mono hBd ?_
              rintro e w7 hr7
              obtain ⟨u7, rfl, rfl, b7⟩ := ret_ext hr7
              clear hr7 hBd
              have hr7 := hr.ext hf b7
              have hbw7 := hbw.trans (Below.mono b7 hlenB)
              have hz7 := b7.size
              have cN7 := hr7.cst.cN
              obtain ⟨_, eg, -, -, cg7, -⟩ := hr7.oG.elem false qn hqn
              injection eg with eg; injection eg with eg _ _; subst eg
              rw [hsq] at cg7
              go_wp2_with fail
              go_roundw
              case rel => exact ⟨k + 1, _, _, by omega, by go_num, by rw [HS.out, HE.out, List.append_nil]; exact hr7, hbw7, by omega⟩
              case measure => simp [intOf]; omega
            | false =>
              have hgo : canGo s1 (qn : Int) = true := canGo_iff.2 ⟨by omega, by simpa using hsq⟩
              have hql : qn < s1.length := by rw [hslen]; exact hqn
              have hcp := count_pos_of hql hsq
              have hcs := set_count hql hsq
              obtain ⟨m, rfl⟩ : ∃ m, n = m + 1 := ⟨n - 1, by omega⟩
              have HE : Hid (stepR ds op x.t (m + 1) s1 pn d = (routesN ds op x.t m (s1.set qn true) qn).map (d :: ·)) := by
                have := stepR_yes (ds := ds) (op := op) (t := x.t) (n := m) (s := s1) (p := (pn : Int)) (d := d) (by rw [hnxe]; exact hgo)
                rw [hnxe, Int.toNat_natCast] at this
                exact this
              have hml : (more rss x.most rt (partR ds op x.t (m+1) s1 pn k)).length ≤ x.most := more_length hrs
              have HX : Hid (more rss x.most rt (partR ds op x.t (m+1) s1 pn (k+1)) = more (more rss x.most rt (partR ds op x.t (m+1) s1 pn k)) x.most (rt ++ [d]) (routesN ds op x.t m (s1.set qn true) qn)) := by
                show _ = _; rw [HS.out, HE.out, more_append, more_deep]
              have hIH := fun (w9 : World) (vs9 vu9 : Value) (h9 : RS f x w9 vs9 vu9 (more rss x.most rt (partR ds op x.t (m+1) s1 pn k)) (rt ++ [d]) s1) (hb9 : Below f.B w0 w9) => HIH.out m (by omega) w9 vs9 vu9 _ (rt ++ [d]) s1 qn h9 hb9 hgo (by omega) (by rw [Int.toNat_natCast]; omega) (by simp; omega) (by intro y hy; rcases List.mem_append.1 hy with hy | hy; exact Hrt.out y hy; rw [List.mem_singleton.1 hy]; exact hdi) (by omega) hml
              rw [Int.toNat_natCast] at hIH
              have HIH2 := Lib.hid hIH
              clear hnxe hIH hml HE HS hgo hql hcp hcs HIH HSucc
              generalize more rss x.most rt (partR ds op x.t (m+1) s1 pn k) = rssk at *
              have hrtl : rt.length + 1 ≤ 200 := by omega
              go_wp2_with fail
              refine Calls.mono hBd ?_
              rintro e w7 hr7
              obtain ⟨u7, rfl, rfl, b7⟩ := ret_ext hr7
              clear hr7 hBd
              have hr7 := hr.ext hf b7
              have hbw7 := hbw.trans (Below.mono b7 hlenB)
              have hz7 := b7.size
              have cN7 := hr7.cst.cN
              obtain ⟨_, eg, -, -, cg7, -⟩ := hr7.oG.elem false qn hqn
              injection eg with eg; injection eg with eg _ _; subst eg
              rw [hsq] at cg7
              have cU7 := cell_of_one hr7.hU
              have hlB7 : f.B ≤ w7.heap.size := Nat.le_trans hlenB hz7
              have HU8 : Hid (∀ w8 zs v', AppI f.B w7 vu2 zs v' w8 → w8.heap[f.U]? = some (.cells #[vu2] 25 (0, 0))) := fun w8 zs v' ha => by
                have hU : f.isF f.U := .inr (.inr (.inl rfl))
                have h1 := HF.out.lt _ hU
                have h2 := hr7.hH
                exact (ha.2.1.block f.U (by omega) (fun e => hr7.nU _ e.symm hU)).trans hr7.hU
              have HR7 := Lib.hid hr7; clear hr7 hr
              go_wp2_with (at_builtin; (refine wpList_append_of rfl _ _ 25 rfl rfl rfl (fun ty => run_appendI (B := f.B) 25 ty Try.underlying25 Try.infoI64 HR7.out.oU d (by omega) hlB7 rfl) ?_); intro v8 w8 h8; obtain ⟨a8, n8, k8, rfl, -⟩ := h8.1.1.shape; have c8 := cell_of_one (HU8.out _ _ _ h8.1); have f8 := free_of_one (HU8.out _ _ _ h8.1); have hr9 := RS.push HR7.out HF.out h8.1; have cW9 := hr9.cst.cW; unfold RF.fn at cW9; have HR9 := Lib.hid hr9; clear hr9)
              have hb89 : Below f.B w7 (w8.setCell ⟨f.U, 0, none⟩ (.slice a8 n8 k8)) := h8.2.setCell HF.out.ge.2.1 _
              have hz89 : w7.heap.size ≤ (w8.setCell ⟨f.U, 0, none⟩ (.slice a8 n8 k8)).heap.size := by rw [size_set]; exact h8.1.2.1.size
              generalize World.setCell w8 _ _ = w9 at *
              have hbw9 := hbw7.trans hb89
              refine Calls.mono (HIH2.out w9 _ _ HR9.out (hb0.trans hbw9)) ?_
              rintro e w10 ⟨vs3, vu3, rfl, hr10, hb10, hz10⟩
              clear c8 f8 h8 cW9 HU8 HR7 cU7 cg7 cN7
              have cU10 := cell_of_one hr10.hU
              have fU10 := free_of_one hr10.hU
              obtain ⟨a10, n10, k10, rfl, hn10, hm10, -⟩ := hr10.oU.shape
              have hn10' : n10 = rt.length + 1 := by simpa using hn10
              obtain ⟨hcap, hcapm⟩ := hr10.oU.room
              obtain ⟨ga, rfl, -⟩ := hr10.oU.elem 0 0 (by omega)
              obtain ⟨n11, rfl⟩ : ∃ n11, n10 = n11 + 1 := ⟨rt.length, hn10'⟩
              have hcap1 : n11 ≤ k10 := by omega
              have hcap0 : ¬ k10 = 0 := by omega
              have hr11 := RS.pop hr10 HF.out n11 (by omega)
              have htk : (rt ++ [d]).take n11 = rt := by rw [show n11 = rt.length by omega]; simp
              rw [htk, ← HX.out] at hr11
              have HR11 := Lib.hid hr11
              have hbw10 := (hbw9.trans hb10).setCell (p := ⟨f.U, 0, none⟩) HF.out.ge.2.1 (.slice (some ⟨ga, 0, none⟩) n11 k10)
              have hz11 : w10.heap.size ≤ (w10.setCell ⟨f.U, 0, none⟩ (.slice (some ⟨ga, 0, none⟩) n11 k10)).heap.size := by rw [size_set]; exact Nat.le_refl _
              clear hr11 htk hn10 hn10' hr10 HX HIH2 HR9
              go_wp2_with fail
              go_roundw
              case rel => exact ⟨k + 1, _, _, by omega, by go_num, HR11.out, hbw10, by omega⟩
              case measure => simp [intOf]; omega
        · have hkn : k = op.length := by rw [← Hno.out]; omega
          rw [hkn, HAll.out] at hr
          have cN := hr.cst.cN
          obtain ⟨_, eg, -, -, cg, fg⟩ := hr.oG.elem false pn hpn
          injection eg with eg; injection eg with eg _ _; subst eg
          have hre := RS.enter hr HF.out pn false
          rw [HSP.out] at hre
          have HRE := Lib.hid hre
          have hbe := hbw.setCell (p := ⟨f.g, pn, none⟩) HF.out.ge.2.2 (.bool false)
          have hze : w.heap.size ≤ (wr.setCell ⟨f.g, pn, none⟩ (.bool false)).heap.size := by rw [size_set]; exact hzw
          clear hkn hr hre HAll HSucc HIH
          go_wp2_with fail
          go_end0
          exact ⟨_, _, rfl, HRE.out, hbe, hze⟩
    · have hM : more rss x.most rt (routesN ds op x.t n (s.set p.toNat true) p) = rss := more_full (by rw [← Hns.out]; omega)
      have HM := Lib.hid hM
      generalize more rss x.most rt (routesN ds op x.t n (s.set p.toNat true) p) = res at *
      clear hM
      go_enter Try.func108, Try.ntmps108
      go_wp2_with fail
      exact bodyPost_ret (v := .tuple #[]) (by simp [results, Try.results108, go_sem]) rfl ⟨_, _, rfl, by rw [HM.out]; exact HST.out, Below.refl _ _, Nat.le_refl _⟩
end Go.Proofs.Ytaogpbhgoeepbaa
