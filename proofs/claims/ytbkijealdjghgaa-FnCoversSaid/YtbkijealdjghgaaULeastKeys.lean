/- Proved: the least keys that open some doors: the law and the reference. -/
import Derived.Test.YtbkijealdjghgaaChecked
import Derived.Test.YtbkijealdjghgaaULeast
import Derived.Test.YtbkijealdjghgaaUOpenFor
namespace Go.Proofs.Ytbkijealdjghgaa
open Go.ChangeShapes Go.WideShapes Go.ChangeAt Go.RowKit
set_option linter.unusedVariables false

/-- the first of all lists of keys, in order, that has something -/
def leastO' (p : List Int → Bool) (n : Nat) : List Int × Int := match bestOf p (allSets n) with | some b => (b, 0) | none => ([], 4)
def leastKeys (t : List (List Int)) (doors : List Int) : List Int × Int :=
  if isTable t = true then (if rising doors (t.getD 0 []).length = true then leastO' (fun ks => openAll t ks doors) t.length else ([], 2)) else ([], 1)
theorem leastKeys_no {t : List (List Int)} {doors : List Int} (h : isTable t = false) : leastKeys t doors = ([], 1) := by unfold leastKeys; rw [if_neg (by simp [h])]
theorem leastKeys_bad {t : List (List Int)} {doors : List Int} (h : isTable t = true) (h' : rising doors (t.getD 0 []).length = false) : leastKeys t doors = ([], 2) := by unfold leastKeys; rw [if_pos h, if_neg (by rw [h']; simp)]
theorem leastKeys_ok {t : List (List Int)} {doors : List Int} (h : isTable t = true) (h' : rising doors (t.getD 0 []).length = true) : leastKeys t doors = leastO' (fun ks => openAll t ks doors) t.length := by unfold leastKeys; rw [if_pos h, if_pos h']
theorem leastO'_none {p : List Int → Bool} {n : Nat} (h : ∀ j, j < n + 1 → (choices j n).find? p = none) : leastO' p n = ([], 4) := by
  unfold leastO'
  rw [← least_eq, List.find?_eq_none.2]
  intro x hx
  unfold allChoices at hx
  obtain ⟨j, hj, hx⟩ := List.mem_flatMap.1 hx
  exact List.find?_eq_none.1 (h j (List.mem_range.1 hj)) x hx
theorem leastO'_at {p : List Int → Bool} {n k : Nat} {x : List Int} (hk : k < n + 1) (h : ∀ j, j < k → (choices j n).find? p = none) (hx : (choices k n).find? p = some x) : leastO' p n = (x, 0) := by
  have e : (allChoices n).find? p = some x := by
    unfold allChoices
    have : List.range (n + 1) = List.range k ++ k :: (List.range (n - k)).map (k + 1 + ·) := by
      have h1 : n + 1 = k + ((n - k) + 1) := by omega
      rw [h1, List.range_add, List.range_succ_eq_map, List.map_cons, List.map_map]
      congr 2
      exact List.map_congr_left (fun i _ => by simp only [Function.comp]; omega)
    rw [this, List.flatMap_append, List.flatMap_cons, List.find?_append, List.find?_append, hx, List.find?_eq_none.2]
    · rfl
    · intro y hy
      obtain ⟨j, hj, hy⟩ := List.mem_flatMap.1 hy
      exact List.find?_eq_none.1 (h j (List.mem_range.1 hj)) y hy
  unfold leastO'
  rw [← least_eq, e]

set_option maxRecDepth 20000 in
set_option maxHeartbeats 4000000 in
theorem LeastKeysForSpec_c (w : World) (u v : Value) (z1 z2 : Zone) (t : List (List Int)) (doors : List Int) (ht : RowsR z1 w u t) (hk : IntsR z2 w v doors) :
    Calls Try.prog 20 #[u, v] w (Ret w (IntsCode w (leastKeys t doors))) := by
  have hc1 := IsTableSpec_c w u z1 t ht
  cases hT : isTable t with
  | false =>
    have HH := Lib.hid (leastKeys_no (doors := doors) hT)
    rw [hT] at hc1
    clear hT
    go_enter Try.func20, Try.ntmps20
    go_wp2_with fail
    refine Calls.mono hc1 ?_
    rintro e w1 ⟨rfl, hd⟩
    go_wp2_with fail
    go_ret2
    exact ⟨_, rfl, IntsCode_nil HH.out, hd.below _⟩
  | true =>
    rw [hT] at hc1
    obtain ⟨m1, m2, m3, m4, m5⟩ := isTable_mem hT
    have HRow := Lib.hid (fun (wq : World) (e : Ext w wq) => stable_rows.ext ht e)
    have HDo := Lib.hid (fun (wq : World) (e : Ext w wq) => stable_ints.ext hk e)
    obtain ⟨a, nt, ct, rfl, hnt, hmt, hel⟩ := SliceR.elem stable_ints ht
    obtain ⟨b, off, rfl, hb0, u0, hcu0, hu0⟩ := hel 0 (by omega)
    have e0 : t[0]'(by omega) = t.getD 0 [] := by simp [show 0 < t.length by omega]
    rw [e0] at hu0
    obtain ⟨a0, n0, c0, rfl, hn0, -⟩ := SliceR.shape hu0
    rw [← hn0] at m3 m4
    have hc2 : ∀ wq, Ext w wq → Calls Try.prog 45 #[v, .int .i64 n0] wq (RetQ wq (.bool (rising doors n0))) := fun wq hq => l01Rises_c wq v z2 doors n0 (HDo.out wq hq) (by unfold I64; omega)
    rw [Nat.add_zero] at hcu0
    cases hR : rising doors n0 with
    | false =>
      have HH := Lib.hid (leastKeys_bad hT (by rw [← hn0]; exact hR))
      rw [hR] at hc2
      have HC := Lib.hid hc2
      have hnt0 : 0 < nt := by omega
      clear hT hR hc2 m5 hnt e0 hel hu0 hn0
      go_enter Try.func20, Try.ntmps20
      go_wp2_with fail
      refine Calls.mono hc1 ?_
      rintro e w1 ⟨rfl, hd⟩
      replace hcu0 := (hd.cell _).trans hcu0
      go_wp2_with fail
      refine Calls.mono (HC.out _ (Ext.ofDrew hd)) ?_
      rintro e w2 ⟨rfl, hd2⟩
      go_wp2_with fail
      go_ret2
      exact ⟨_, rfl, IntsCode_nil HH.out, (hd.trans hd2).below _⟩
    | true =>
      have HH := Lib.hid (leastKeys_ok hT (by rw [← hn0]; exact hR))
      rw [hR] at hc2
      have HC := Lib.hid hc2
      have gd : ∀ d ∈ doors, 0 ≤ d ∧ ∀ r ∈ t, d < r.length := fun d hd => by
        have h1 := rising_mem hR d hd
        exact ⟨h1.1, fun r hr => by rw [(m5 r hr).1, ← hn0]; exact h1.2⟩
      have HHit : Hid (∀ (wq : World) (hb : Ext w wq) (u' : Value) (q : Zone) (l : List Int), IntsR q wq u' l → Rises nt l → Calls Try.prog 46 #[.slice (some ⟨b, off, none⟩) nt ct, u', v] wq (RetQ wq (.bool (openAll t l doors)))) := fun wq hb u' q l hl hr =>
        l11Open_c wq _ u' v z1 q z2 t l doors (HRow.out wq hb) hl (HDo.out wq hb) (fun k hk => by have := hr.2 k hk; omega) gd
      have hnt0 : 0 < nt := by omega
      rw [← hnt] at HH m2
      clear hT hR hc2 m5 hnt e0 hel hu0 hn0 gd HRow HDo ht hk
      generalize hp : (fun ks => openAll t ks doors) = p at *
      have HHit' : Hid (∀ (wq : World) (hb : Ext w wq) (u' : Value) (q : Zone) (l : List Int), IntsR q wq u' l → Rises nt l → Calls Try.prog 46 #[.slice (some ⟨b, off, none⟩) nt ct, u', v] wq (RetQ wq (.bool (p l)))) := by rw [← hp]; exact HHit
      clear HHit hp
      have HAt := Lib.hid (fun (k : Nat) (x : List Int) => leastO'_at (p := p) (n := nt) (k := k) (x := x))
      have HNo := Lib.hid (leastO'_none (p := p) (n := nt))
      generalize leastO' p nt = res at *
      go_enter Try.func20, Try.ntmps20
      go_wp2_with fail
      refine Calls.mono hc1 ?_
      rintro e w1 ⟨rfl, hd⟩
      clear hc1
      replace hcu0 := (hd.cell _).trans hcu0
      go_wp2_with fail
      refine Calls.mono (HC.out _ (Ext.ofDrew hd)) ?_
      rintro e w2 ⟨rfl, hd2⟩
      have hw2 : Ext w w2 := Ext.ofDrew (hd.trans hd2)
      clear hd hd2 HC hcu0
      go_wp2_with fail
      go_loopw [6] (fun s wr => ∃ k : Nat, k ≤ nt + 1 ∧ s = .int .i64 k ∧ (∀ j, j < k → (choices j nt).find? p = none) ∧ Ext w wr) (fun s _ => nt + 1 - (intOf s).toNat)
      case atStart => exact ⟨0, Nat.zero_le _, rfl, by simp, hw2⟩
      case round =>
        obtain ⟨k, hk, rfl, hall, hb⟩ := hrel
        have Hall := Lib.hid hall; clear hall
        by_cases hlt : k < nt + 1
        · have hcall := l11Choices_c k nt wr (by omega) (by omega)
          have HA := Lib.hid (fun x => HAt.out k x hlt Hall.out)
          have HN : Hid ((choices k nt).find? p = none → ∀ j, j < k + 1 → (choices j nt).find? p = none) := fun h j hj => by
            by_cases e : j = k
            · rw [e]; exact h
            · exact Hall.out j (by omega)
          have HRi : Hid (∀ x ∈ choices k nt, Rises nt x) := fun x hx => (mem_choices.1 hx).2
          generalize choices k nt = l at *
          clear Hall HAt HNo
          go_wp2_with fail
          refine Calls.mono hcall ?_
          rintro e w1 hr1
          obtain ⟨u1, rfl, r1, b1⟩ := ret_ext hr1
          clear hr1 hcall
          have hb1 := hb.trans b1
          obtain ⟨a1, n1, c1, rfl, hn1, hm1, -, -, -, hel⟩ := SliceR.shape r1
          have Hn1 := Lib.hid hn1
          have Hel := Lib.hid hel
          clear hn1 hel r1 b1
          generalize wr = wo at *
          go_wp2_with fail
          go_loopw [8] (fun s wi => ∃ i : Nat, i ≤ n1 ∧ s = .int .i64 i ∧ (∀ j (hj : j < l.length), j < i → p l[j] = false) ∧ Drew w1 wi) (fun s _ => n1 - (intOf s).toNat)
          case atStart => exact ⟨0, Nat.zero_le _, rfl, by simp, Drew.refl _⟩
          case round =>
            obtain ⟨i, hi, rfl, hno, hd⟩ := hrel
            have Hno := Lib.hid hno; clear hno
            have hbi := hb1.trans (Ext.ofDrew hd)
            by_cases hlti : i < n1
            · have l1 : i < l.length := by rw [← Hn1.out]; exact hlti
              obtain ⟨b', off', rfl, -, -, -, u, y, hcu, hys, -, hu⟩ := Hel.out i l1
              replace hcu := (hd.cell _).trans hcu
              have hu1 : IntsR (.new wo w1) w1 u l[i] := stable_ints.sub hu hys
              have hu2 := stable_ints.drew hu1 hd
              have hcall := HHit'.out wr hbi u _ l[i] hu2 (HRi.out _ (List.getElem_mem l1))
              have HY : Hid (p l[i] = true → res = (l[i], 0)) := fun hp => HA.out _ (find_at l1 Hno.out hp)
              have HW : Hid (p l[i] = false → ∀ j (hj : j < l.length), j < i + 1 → p l[j] = false) := fun hp j hj hji => by
                by_cases e : j = i
                · subst e; exact hp
                · exact Hno.out j hj (by omega)
              clear hu Hno
              generalize l[i] = x at *
              obtain ⟨au, nu, cu, rfl, -⟩ := SliceR.shape hu2
              cases hq : p x with
              | true =>
                have HF := Lib.hid (HY.out hq)
                rw [hq] at hcall
                clear HY HW hq
                go_wp2_with fail
                refine Calls.mono hcall ?_
                rintro e w5 ⟨rfl, hd5⟩
                have hcu5 := (hd5.cell _).trans hcu
                go_wp2_with fail
                go_ret2
                have hwo : Ext w wo := hb
                exact ⟨_, rfl, IntsCode_mk (HH.out.trans HF.out) (stable_ints.grow hu1 hwo (Ext.ofDrew (hd.trans hd5))), hbi.trans (Ext.ofDrew hd5)⟩
              | false =>
                have HF := Lib.hid (HW.out hq)
                rw [hq] at hcall
                clear HY HW hq
                go_wp2_with fail
                refine Calls.mono hcall ?_
                rintro e w5 ⟨rfl, hd5⟩
                have hcu5 := (hd5.cell _).trans hcu
                go_wp2_with fail
                go_roundw
                case rel => exact ⟨i + 1, by omega, by go_num, HF.out, hd.trans hd5⟩
                case measure => simp [intOf]; omega
            · have hin : i = n1 := by omega
              have HF := Lib.hid (HN.out (find_no (fun j hj => Hno.out j hj (by rw [hin, Hn1.out]; exact hj))))
              obtain rfl := hin
              clear Hno HN HA
              go_wp2_with fail
              go_roundw
              case rel => exact ⟨k + 1, by omega, by go_num, HF.out, hbi⟩
              case measure => simp [intOf]; omega
        · obtain rfl : k = nt + 1 := by omega
          have HF := Lib.hid (HNo.out Hall.out)
          clear HNo HAt Hall
          go_wp2_with fail
          go_ret2
          exact ⟨_, rfl, IntsCode_nil (HH.out.trans HF.out), hb⟩
end Go.Proofs.Ytbkijealdjghgaa
