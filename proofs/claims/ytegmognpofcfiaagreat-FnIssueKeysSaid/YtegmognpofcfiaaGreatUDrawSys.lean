/- Proved: the draws of systems: l15Valid. -/
import Derived.Test.YtegmognpofcfiaaGreatChecked
import Derived.Deep.RegionLaw
import Derived.Test.YtegmognpofcfiaaGreatUDrawSysP
import Derived.Test.YtegmognpofcfiaaGreatUDrawKeys
namespace Go.Proofs.YtegmognpofcfiaaGreat
open Go.ChangeShapes Go.WideShapes Go.ChangeAt Go.RowKit
set_option linter.unusedVariables false

theorem ResAt.dr {b g : Nat} {w w' : World} (h : ResAt w b) (hd : Dr g w w') (hb : b ≠ g) : ResAt w' b := h.of (hd.grown.block b h.lt (by intro e; injection e with e; omega))
/-- a system that a draw hands back -/
def SysD (w : World) (r : Value) (w' : World) : Prop := ∃ (mk : MK) (v : Value) (t : List (List Int)), r = sysV mk v ∧ isSystem mk t = true ∧ OwnR true w.heap.size IntsR 29 w.heap.size w' v t ∧ t.length ≤ 4 ∧ ∀ x ∈ t, x.length ≤ 4
theorem put6 {g B : Nat} {w w' : World} (hd : Dr g w w') (hB : w.heap.size ≤ B) (u0 u1 u2 u3 u4 u5 : Value) : Dr g w ((((((w'.setCell ⟨B, 0, none⟩ u0).setCell ⟨B, 1, none⟩ u1).setCell ⟨B, 2, none⟩ u2).setCell ⟨B, 3, none⟩ u3).setCell ⟨B, 4, none⟩ u4).setCell ⟨B, 5, none⟩ u5) :=
  Dr.put (Dr.put (Dr.put (Dr.put (Dr.put (Dr.put hd (p := ⟨B, 0, none⟩) hB _) (p := ⟨B, 1, none⟩) hB _) (p := ⟨B, 2, none⟩) hB _) (p := ⟨B, 3, none⟩) hB _) (p := ⟨B, 4, none⟩) hB _) (p := ⟨B, 5, none⟩) hB _
theorem put6_other {w : World} {B k : Nat} (hk : k ≠ B) (u0 u1 u2 u3 u4 u5 : Value) : ((((((w.setCell ⟨B, 0, none⟩ u0).setCell ⟨B, 1, none⟩ u1).setCell ⟨B, 2, none⟩ u2).setCell ⟨B, 3, none⟩ u3).setCell ⟨B, 4, none⟩ u4).setCell ⟨B, 5, none⟩ u5).heap[k]? = w.heap[k]? := by
  rw [Below.heap_setCell _ _ _ _ hk, Below.heap_setCell _ _ _ _ hk, Below.heap_setCell _ _ _ _ hk, Below.heap_setCell _ _ _ _ hk, Below.heap_setCell _ _ _ _ hk, Below.heap_setCell _ _ _ _ hk]
theorem put6_size {w : World} {B : Nat} (u0 u1 u2 u3 u4 u5 : Value) : ((((((w.setCell ⟨B, 0, none⟩ u0).setCell ⟨B, 1, none⟩ u1).setCell ⟨B, 2, none⟩ u2).setCell ⟨B, 3, none⟩ u3).setCell ⟨B, 4, none⟩ u4).setCell ⟨B, 5, none⟩ u5).heap.size = w.heap.size := by
  simp [World.setCell]

set_option maxRecDepth 20000 in
set_option maxHeartbeats 8000000 in
theorem l15Valid_c (w : World) (g : Nat) (h : Src g w) : Calls Tryz.prog 180 #[.pointer (some ⟨g, 0, none⟩)] w (DrawR g w (SysD w)) := by
  have hlt := h.lt
  have hd0 := (Dr.refl h).alloc (.cells #[.int .i64 0, .int .i64 0, .int .i64 0, .int .i64 0, .int .i64 0, .slice none 0 0] 28)
  have R0 := res_new w 28
  have hsz0 : (w.alloc (.cells #[.int .i64 0, .int .i64 0, .int .i64 0, .int .i64 0, .int .i64 0, .slice none 0 0] 28)).heap.size = w.heap.size + 1 := by simp
  have hcall := l02Valid_c _ g hd0.src
  clear h
  go_enter Tryz.func180, Tryz.ntmps180
  go_wp2_with fail
  generalize w.alloc (.cells #[.int .i64 0, .int .i64 0, .int .i64 0, .int .i64 0, .int .i64 0, .slice none 0 0] 28) = w0 at *
  refine Calls.mono hcall ?_
  rintro e w1 ⟨_, rfl, ⟨mk, rfl, hmk, -, -, -⟩, hd1⟩
  clear hcall
  have hsa := hd1.size
  replace R0 := R0.dr hd1 (by omega)
  replace hd1 := hd0.trans hd1
  clear hd0
  have HMk := Lib.hid hmk
  clear hmk
  obtain ⟨c, d, s, m, lm⟩ := mk
  unfold MK.v
  have hby := Box5.new w1 ⟨c, d, s, m, lm⟩ 25
  have hd3 := hd1.alloc (.cells #[.int .i64 c, .int .i64 d, .int .i64 s, .int .i64 m, .int .i64 lm] 25)
  replace R0 := R0.dr ((Dr.refl hd1.src).alloc (.cells #[.int .i64 c, .int .i64 d, .int .i64 s, .int .i64 m, .int .i64 lm] 25)) (by omega)
  obtain ⟨b, hb⟩ : ∃ b, w1.heap.size = b := ⟨_, rfl⟩
  have hgb : b ≠ g := by omega
  have hwb : w.heap.size ≤ b := by omega
  have hbw : b ≠ w.heap.size := by omega
  have hb3 : (w1.alloc (.cells #[.int .i64 c, .int .i64 d, .int .i64 s, .int .i64 m, .int .i64 lm] 25)).heap.size = b + 1 := by simp [hb]
  have hcall := l01Next_c _ g hd3.src 4 (by unfold I64; omega)
  go_wp2_with fail
  simp only [hb] at hby ⊢
  generalize w1.alloc (.cells #[.int .i64 c, .int .i64 d, .int .i64 s, .int .i64 m, .int .i64 lm] 25) = w3 at *
  refine Calls.mono hcall ?_
  rintro e w4 ⟨_, rfl, ⟨x2, rfl, h20, h21⟩, hd4⟩
  clear hcall
  replace R0 := R0.dr hd4 (by omega)
  replace hby := hby.dr hd4 hgb
  have hs34 := hd4.size
  replace hd3 := hd3.trans hd4
  clear hd4
  have hcall := l01Next_c _ g hd3.src 4 (by unfold I64; omega)
  go_wp2_with fail
  refine Calls.mono hcall ?_
  rintro e w4' ⟨_, rfl, ⟨x3, rfl, h30, h31⟩, hd4⟩
  clear hcall
  replace R0 := R0.dr hd4 (by omega)
  replace hby := hby.dr hd4 hgb
  have hs44 := hd4.size
  replace hd3 := hd3.trans hd4
  clear hd4
  obtain ⟨rw', hrw⟩ : ∃ n : Nat, 1 + x2 = n := ⟨(1 + x2).toNat, by omega⟩
  obtain ⟨cl, hcl⟩ : ∃ n : Nat, 1 + x3 = n := ⟨(1 + x3).toNat, by omega⟩
  have hrw4 : 1 ≤ rw' ∧ rw' ≤ 4 := by omega
  have hcl5 : 1 ≤ cl ∧ cl ≤ 4 := by omega
  clear h20 h21 h30 h31 hd1
  go_wp2_with fail
  try rw [hrw]
  try rw [hcl]
  clear hrw hcl
  have HR0 := Lib.hid R0
  have HBy := Lib.hid hby
  have HD3 := Lib.hid hd3
  have hsrc := hd3.src
  have hs3 := hd3.size
  have hg4 : g < w4'.heap.size := by omega
  have hb4 : b < w4'.heap.size := by omega
  clear R0 hby hd3
  have o1 : OwnR true w4'.heap.size IntsR 29 w4'.heap.size (w4'.alloc (.cells #[] 29)) (.slice (some ⟨w4'.heap.size, 0, none⟩) 0 0) [] := OwnR.empty (Nat.le_refl _)
  have d1 := (Dr.refl hsrc).alloc (.cells #[] 29)
  generalize w4'.alloc (.cells #[] 29) = w5 at *
  go_loopw [6, 7, 8, 9] (fun s6 s7 _ _ wr => ∃ (k : Nat) (t : List (List Int)), s7 = .int .i64 k ∧ k ≤ rw' ∧ OwnR true w4'.heap.size IntsR 29 w4'.heap.size wr s6 t ∧ Tab01 k cl t ∧ Dr g w4' wr) (fun _ s7 _ _ _ => rw' - (intOf s7).toNat)
  case atStart => exact ⟨0, [], rfl, Nat.zero_le _, o1, ⟨rfl, by simp, by simp⟩, d1⟩
  case round =>
    obtain ⟨k, t, rfl, hk, hown, htab, hd⟩ := hrel
    obtain ⟨wo, rfl⟩ : ∃ wo, wo = wr := ⟨_, rfl⟩
    clear o1 d1
    have HO := Lib.hid hown
    have HT := Lib.hid htab
    have HD := Lib.hid hd
    have hsz := hd.size
    have hgr : g < wo.heap.size := by omega
    by_cases hlt2 : k < rw'
    · clear hown htab
      go_wp2_with fail
      have oi : OwnP (Value.int .i64) 2 wo.heap.size (wo.alloc (.cells #[] 2)) (.slice (some ⟨wo.heap.size, 0, none⟩) 0 0) [] := OwnP.empty (Nat.le_refl _)
      have di : Dr g wo (wo.alloc (.cells #[] 2)) := (Dr.refl hd.src).alloc _
      generalize wo.alloc (.cells #[] 2) = wi at *
      clear hd
      go_loopw [8, 9] (fun s8 s9 wx => ∃ (i : Nat) (l : List Int), s9 = .int .i64 i ∧ i ≤ cl ∧ l.length = i ∧ (∀ y ∈ l, y = 0 ∨ y = 1) ∧ OwnP (Value.int .i64) 2 wo.heap.size wx s8 l ∧ Dr g wo wx) (fun _ s9 _ => cl - (intOf s9).toNat)
      case atStart => exact ⟨0, [], rfl, Nat.zero_le _, rfl, by simp, oi, di⟩
      case round =>
        obtain ⟨i, l, rfl, hi, hll, hli, ho, hdx⟩ := hrel
        clear oi di
        have hsx := hdx.size
        by_cases hin : i < cl
        · have hcall := pickL_c wr g hdx.src [0, 0, 1] #[.int .i64 0, .int .i64 0, .int .i64 1] rfl (by simp [I64]) (by simp) (by simp) rfl rfl
          have hd5 := hdx.alloc (.cells #[.int .i64 0, .int .i64 0, .int .i64 1] 2)
          have ho5 := ho.alloc (.cells #[.int .i64 0, .int .i64 0, .int .i64 1] 2)
          have HLi := Lib.hid hli
          have Hll := Lib.hid hll
          clear hdx ho hli hll
          go_wp2_with fail
          refine Calls.mono hcall ?_
          rintro e w7 ⟨_, rfl, ⟨y, rfl, hyl⟩, hd6⟩
          have hy : y = 0 ∨ y = 1 := by simp only [List.mem_cons, List.not_mem_nil, or_false] at hyl; omega
          clear hcall hyl
          have hd7 := hd5.trans hd6
          have ho7 := ho5.dr hd6 hgr
          have hs7 := hd7.size
          have hl1 : l.length ≤ 1000000 := by rw [Hll.out]; omega
          clear hd5 hd6 ho5
          go_wp2_with (at_builtin; (refine wpList_drawInt (g := g) (w0 := wo) (B := wo.heap.size) rfl _ _ 29 rfl Tryz.underlying29 Tryz.infoI64 rfl ho7 y rfl hl1 hd7 (Nat.le_refl _) hs7 ?_); intro v8 w8 hown8 hd8 hs8)
          go_wp2_with fail
          exact ⟨⟨i + 1, l ++ [y], by go_num, by omega, by rw [List.length_append, List.length_singleton, Hll.out], fun z hz => by
            rcases List.mem_append.1 hz with hz | hz
            · exact HLi.out z hz
            · rw [List.mem_singleton.1 hz]; exact hy, hown8, hd8⟩, by simp [intOf]; omega⟩
        · have hie : i = cl := by omega
          obtain ⟨a7, n7, c7, rfl, -⟩ := OwnP.shape ho
          have HX : Hid (IntsR ⟨wo.heap.size, wr.heap.size, true⟩ wr (.slice a7 n7 c7) l) := OwnP.ints ho (fun y hy => by have := hli y hy; unfold I64; omega) (Nat.le_refl _)
          have HLn : Hid (l.length = cl) := hll.trans hie
          have HLi := Lib.hid hli
          have HOr : Hid (OwnA true (fun k => w4'.heap.size ≤ k ∧ k < wo.heap.size) IntsR 29 w4'.heap.size wr _ t) := OwnA.drA stable_ints HO.out.cap hdx hg4 (fun q => by omega)
          have HV : Hid (∀ k, u6.ownBlock = some k → k < wo.heap.size) := fun k hk => (OwnA.block HO.out k hk).2
          have HL1 : Hid (t.length ≤ 1000000) := by show _ ≤ _; rw [HT.out.len]; omega
          have HDx := Lib.hid (HD.out.trans hdx)
          clear ho hli hll hie hdx
          go_wp2_with (at_builtin; (refine wpList_drawRowT (v := u6) (g := g) (w0 := w4') (B := w4'.heap.size) (L := w4'.heap.size) stable_ints slRepr_slice rfl _ _ 26 rfl Tryz.underlying26 Tryz.infoInts rfl HOr.out (a7, n7, c7) l HX.out rfl rfl HL1.out hsz hsx HV.out HDx.out (Nat.le_refl _) (by omega) ?_); intro v8 w8 hown8 hd8 hs8)
          go_wp2_with fail
          exact ⟨⟨k + 1, t ++ [l], by go_num, by omega, hown8, ⟨by rw [List.length_append, List.length_singleton, HT.out.len], fun x hx => by
            rcases List.mem_append.1 hx with hx | hx
            · exact HT.out.row x hx
            · rw [List.mem_singleton.1 hx]; exact HLn.out, fun x hx => by
            rcases List.mem_append.1 hx with hx | hx
            · exact HT.out.ent x hx
            · rw [List.mem_singleton.1 hx]; exact HLi.out⟩, hd8⟩, by simp [intOf]; omega⟩
    · have hke : k = rw' := by omega
      subst hke
      clear hlt2 hk
      obtain ⟨a4, n4, c4, rfl, -⟩ := OwnA.shape hown
      have hcall := l01Next_c wo g hd.src k (by unfold I64; omega)
      clear hown htab
      go_wp2_with fail
      refine Calls.mono hcall ?_
      rintro e w6 ⟨_, rfl, ⟨ms, rfl, hm0, hm1⟩, hd6⟩
      clear hcall
      obtain ⟨ms, rfl⟩ : ∃ n : Nat, ms = n := ⟨ms.toNat, by omega⟩
      have hms : ms < k := by omega
      clear hm0 hm1
      have o6 := OwnR.dr stable_ints HO.out hd6 hg4 hg4
      have d6 := hd.trans hd6
      clear hd hd6
      obtain ⟨rw', hrr⟩ : ∃ n, n = k := ⟨_, rfl⟩
      subst hrr
      have hTab := HT.out
      clear HO HT HD hsz hgr
      go_wp2_with fail
      go_loopw [11] (fun s11 wr => ∃ (k : Nat) (t : List (List Int)), s11 = .int .i64 k ∧ k ≤ cl ∧ OwnR true w4'.heap.size IntsR 29 w4'.heap.size wr (.slice a4 n4 c4) t ∧ Tab01 rw' cl t ∧ openTo t k ∧ Dr g w4' wr) (fun s11 _ => cl - (intOf s11).toNat)
      case atStart => exact ⟨0, t, rfl, Nat.zero_le _, o6, hTab, fun j hj => absurd hj (Nat.not_lt_zero _), d6⟩
      case round =>
        clear o6 d6 hTab
        obtain ⟨k, t', rfl, hk, ho, htab, hop, hd⟩ := hrel
        have HT' := Lib.hid htab
        have HOp := Lib.hid hop
        have HO' := Lib.hid ho
        by_cases hlt2 : k < cl
        · have hcall := l01Next_c wr g hd.src 3 (by unfold I64; omega)
          clear ho htab hop
          go_wp2_with fail
          refine Calls.mono hcall ?_
          rintro e w7 ⟨_, rfl, ⟨x, rfl, hx0, hx1⟩, hd7⟩
          clear hcall
          have hO7 := OwnR.dr stable_ints HO'.out hd7 hg4 hg4
          replace hd7 := hd.trans hd7
          clear hd
          by_cases hxp : 0 < x
          · have hl8 := HT'.out.len
            have hj8 : ms < t'.length := by omega
            have hc8 : k < t'[ms].length := by rw [HT'.out.row _ (List.getElem_mem hj8)]; exact hlt2
            obtain ⟨gb, n', c', rb, ro, rn, rc, he, hnl, hc0, hrn, hrb1, hrb2, hrb3, ⟨x0, hcx⟩, hcf, hgb1, hgb2, hpoke⟩ := pokeAt hO7 hj8 hc8 (Nat.le_refl _)
            injection he with he1 he2 he3
            subst he1; subst he2; subst he3
            rw [HT'.out.row _ (List.getElem_mem hj8)] at hrn
            replace hrn := hrn.symm
            subst hrn
            have HO8 := Lib.hid (hpoke 1 (by unfold I64; omega))
            have HT8 := Lib.hid (HT'.out.set hj8 k)
            have HOp8 := Lib.hid (HOp.out.set hj8 k)
            have hd8 := hd7.put (p := ⟨rb, ro + k, none⟩) hrb1 (.int .i64 1)
            have hjn' : (ms : Int) < (n4 : Int) := by omega
            have hc0' : w7.cell? ⟨gb, 0 + ms, none⟩ = some (.slice (some ⟨rb, ro, none⟩) cl rc) := by rw [Nat.zero_add]; exact hc0
            have hki : (k : Int) < (cl : Int) := by omega
            clear hpoke hO7 hnl
            go_wp2_with fail
            clear hc0 hc0' hcx hcf hd7
            generalize w7.setCell ⟨rb, ro + k, none⟩ (.int .i64 1) = w8 at *
            obtain ⟨t8, ht8⟩ : ∃ t8, t'.set ms (t'[ms].set k 1) = t8 := ⟨_, rfl⟩
            rw [ht8] at HO8 HT8 HOp8
            clear ht8 hl8 hj8 hc8 hrb1 hrb2 hrb3 hgb1 hgb2 hjn'
            have hcall := l01Next_c w8 g hd8.src rw' (by unfold I64; omega)
            go_wp2_with fail
            refine Calls.mono hcall ?_
            rintro e w9 ⟨_, rfl, ⟨j, rfl, hj0, hj1⟩, hd9⟩
            clear hcall
            obtain ⟨jn, rfl⟩ : ∃ n : Nat, j = n := ⟨j.toNat, by omega⟩
            have hjn : jn < rw' := by omega
            have hO9 := OwnR.dr stable_ints HO8.out hd9 hg4 hg4
            have hd10 := hd8.trans hd9
            have hl8 := HT8.out.len
            have hj8 : jn < t8.length := by omega
            have hc8 : k < t8[jn].length := by rw [HT8.out.row _ (List.getElem_mem hj8)]; exact hlt2
            obtain ⟨gb, n', c', rb, ro, rn, rc, he, hnl, hc0, hrn, hrb1, hrb2, hrb3, ⟨x0, hcx⟩, hcf, hgb1, hgb2, hpoke⟩ := pokeAt hO9 hj8 hc8 (Nat.le_refl _)
            injection he with he1 he2 he3
            injection he1 with he1; injection he1 with he1 _ _
            subst he1; subst he2; subst he3
            rw [HT8.out.row _ (List.getElem_mem hj8)] at hrn
            replace hrn := hrn.symm
            subst hrn
            have HP := Lib.hid (hpoke 1 (by unfold I64; omega))
            have HTn := Lib.hid (HT8.out.set hj8 k)
            have HOn := Lib.hid (HOp8.out.next hj8 hc8)
            have hd11 := hd10.put (p := ⟨rb, ro + k, none⟩) hrb1 (.int .i64 1)
            have hjn' : (jn : Int) < (n4 : Int) := by omega
            have hc0' : w9.cell? ⟨gb, 0 + jn, none⟩ = some (.slice (some ⟨rb, ro, none⟩) cl rc) := by rw [Nat.zero_add]; exact hc0
            have hki : (k : Int) < (cl : Int) := by omega
            clear hpoke hO9 hnl hl8
            go_wp2_with fail
            exact ⟨⟨k + 1, _, by go_num, by omega, HP.out, HTn.out, HOn.out, hd11⟩, by simp [intOf]; omega⟩
          · obtain ⟨w8, hw8⟩ : ∃ w8, w8 = w7 := ⟨_, rfl⟩
            subst hw8
            obtain ⟨t8, ht8⟩ : ∃ t8, t8 = t' := ⟨_, rfl⟩
            subst ht8
            have HO8 := Lib.hid hO7
            have HT8 := HT'
            have HOp8 := HOp
            have hd8 := hd7
            clear hO7 hd7
            have hcall := l01Next_c w8 g hd8.src rw' (by unfold I64; omega)
            go_wp2_with fail
            refine Calls.mono hcall ?_
            rintro e w9 ⟨_, rfl, ⟨j, rfl, hj0, hj1⟩, hd9⟩
            clear hcall
            obtain ⟨jn, rfl⟩ : ∃ n : Nat, j = n := ⟨j.toNat, by omega⟩
            have hjn : jn < rw' := by omega
            have hO9 := OwnR.dr stable_ints HO8.out hd9 hg4 hg4
            have hd10 := hd8.trans hd9
            have hl8 := HT8.out.len
            have hj8 : jn < t8.length := by omega
            have hc8 : k < t8[jn].length := by rw [HT8.out.row _ (List.getElem_mem hj8)]; exact hlt2
            obtain ⟨gb, n', c', rb, ro, rn, rc, he, hnl, hc0, hrn, hrb1, hrb2, hrb3, ⟨x0, hcx⟩, hcf, hgb1, hgb2, hpoke⟩ := pokeAt hO9 hj8 hc8 (Nat.le_refl _)
            injection he with he1 he2 he3
            subst he1; subst he2; subst he3
            rw [HT8.out.row _ (List.getElem_mem hj8)] at hrn
            replace hrn := hrn.symm
            subst hrn
            have HP := Lib.hid (hpoke 1 (by unfold I64; omega))
            have HTn := Lib.hid (HT8.out.set hj8 k)
            have HOn := Lib.hid (HOp8.out.next hj8 hc8)
            have hd11 := hd10.put (p := ⟨rb, ro + k, none⟩) hrb1 (.int .i64 1)
            have hjn' : (jn : Int) < (n4 : Int) := by omega
            have hc0' : w9.cell? ⟨gb, 0 + jn, none⟩ = some (.slice (some ⟨rb, ro, none⟩) cl rc) := by rw [Nat.zero_add]; exact hc0
            have hki : (k : Int) < (cl : Int) := by omega
            clear hpoke hO9 hnl hl8
            go_wp2_with fail
            exact ⟨⟨k + 1, _, by go_num, by omega, HP.out, HTn.out, HOn.out, hd11⟩, by simp [intOf]; omega⟩
        · have hke : k = cl := by omega
          subst hke
          have HF : Hid (isSystem ⟨c, d, s, m, lm⟩ t' = true) := tab_system HMk.out HT'.out (by omega) (by omega) HOp.out
          obtain ⟨⟨c0, c1, c2, c3, c4'⟩, -⟩ := (HBy.out.dr hd hgb)
          simp only at c0 c1 c2 c3 c4'
          obtain ⟨r0, r1, r2, r3, r4, r5, f0, f1, f2, f3, f4, f5⟩ := HR0.out.dr hd (by omega)
          have HDF := Lib.hid (HD3.out.trans hd)
          have hsr := hd.size
          clear ho htab hop hd
          go_wp2_with fail
          refine bodyPost_ret (v := .agg #[.int .i64 c, .int .i64 d, .int .i64 s, .int .i64 m, .int .i64 lm, .slice a4 n4 c4]) (by simp [results, Tryz.results180, go_sem, r0, r1, r2, r3, r4, r5]) rfl ⟨_, rfl, ⟨⟨c, d, s, m, lm⟩, _, t', rfl, HF.out, ?_, by rw [HT'.out.len]; omega, fun x hx => by rw [HT'.out.row x hx]; omega⟩, put6 HDF.out (Nat.le_refl _) _ _ _ _ _ _⟩
          refine OwnR.lower (OwnA.outside stable_ints HO'.out (g := w.heap.size) (fun k _ hk => put6_other hk _ _ _ _ _ _) (by rw [put6_size]; exact Nat.le_refl _) (by omega) (fun e => by have := (OwnA.block HO'.out _ e).1; omega)) (by omega) (by omega)
end Go.Proofs.YtegmognpofcfiaaGreat
