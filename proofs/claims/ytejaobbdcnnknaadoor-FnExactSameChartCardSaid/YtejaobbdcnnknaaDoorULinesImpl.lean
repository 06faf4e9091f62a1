/- Proved: the lines of a text: linesCode, CountLines of the program; l27Lines, CountLines of the reference. -/
import Derived.Test.YtejaobbdcnnknaaDoorChecked
import Derived.Test.YtejaobbdcnnknaaDoorUSplitS
import Derived.Test.YtejaobbdcnnknaaDoorUStrLay
namespace Go.Proofs.YtejaobbdcnnknaaDoor
open Go.ChangeShapes Go.WideShapes Go.ChangeAt Go.RowKit
set_option linter.unusedVariables false

def codeL (l : List UInt8) : Int := if 240 < l.length then 3 else if (linesTo 10 l).2 = [] then 0 else 6
theorem codeL_big {l : List UInt8} (h : 240 < l.length) : codeL l = 3 := by unfold codeL; rw [if_pos h]
theorem codeL_ok {l : List UInt8} (h : ¬ 240 < l.length) (h2 : (linesTo 10 l).2 = []) : codeL l = 0 := by unfold codeL; rw [if_neg h, if_pos h2]
theorem codeL_bad {l : List UInt8} (h : ¬ 240 < l.length) (h2 : ¬ (linesTo 10 l).2 = []) : codeL l = 6 := by unfold codeL; rw [if_neg h, if_neg h2]
theorem suffix_nl (l : List UInt8) (hl : l ≠ []) : Lib.hasSuffix l [10] = decide ((linesTo 10 l).2 = []) := by
  rw [Bool.eq_iff_iff, decide_eq_true_iff, linesTo_last]
  unfold Lib.hasSuffix
  rw [List.isSuffixOf_iff_suffix]
  constructor
  · rintro ⟨l', h⟩; exact .inr ⟨l', h.symm⟩
  · rintro (h | ⟨l', h⟩)
    · exact absurd h hl
    · exact ⟨l', h.symm⟩

set_option maxRecDepth 20000 in
set_option maxHeartbeats 1000000 in
theorem linesCode_c (w : World) (s : ByteArray) (hs : s.size ≤ maxLen) : Calls Tryd.prog 11 #[.string s] w (fun e w' => e = .returned (.int .i64 (codeL s.data.toList)) ∧ w' = w) := by
  have Hl : Hid (s.data.toList.length = s.size) := len_str s
  have H1 : Hid (240 < s.size → codeL s.data.toList = 3) := fun h => codeL_big (by rw [Hl.out]; exact h)
  have H2 : Hid (¬ 240 < s.size → (linesTo 10 s.data.toList).2 = [] → codeL s.data.toList = 0) := fun h => codeL_ok (by rw [Hl.out]; exact h)
  have H3 : Hid (¬ 240 < s.size → ¬ (linesTo 10 s.data.toList).2 = [] → codeL s.data.toList = 6) := fun h => codeL_bad (by rw [Hl.out]; exact h)
  have HE : Hid (s = ⟨#[]⟩ → (linesTo 10 s.data.toList).2 = []) := fun h => by rw [h]; rfl
  have HS : Hid (s ≠ ⟨#[]⟩ → Lib.hasSuffix s.data.toList [10] = decide ((linesTo 10 s.data.toList).2 = [])) := fun h => suffix_nl _ (fun e => h (by
    apply ByteArray.ext
    apply Array.toList_inj.1
    exact e))
  generalize codeL s.data.toList = res at *
  by_cases hbig : 240 < s.size
  · have HH := Lib.hid (H1.out hbig)
    go_enter Tryd.func11, Tryd.ntmps11
    go_wp2_with fail
    go_ret
    exact ⟨by rw [HH.out]; rfl, rfl⟩
  · have hsz : s.size ≤ 9223372036854775807 := by omega
    by_cases hemp : s.data.toList = []
    · have HH := Lib.hid (H2.out hbig (by rw [hemp]; rfl))
      have ht : s.toList.isEmpty = true := by rw [ByteArray.toList_eq, hemp]; rfl
      clear hemp HS HE H1 H2 H3
      go_enter Tryd.func11, Tryd.ntmps11
      go_wp2_with fail
      go_ret
      exact ⟨by rw [HH.out]; rfl, rfl⟩
    · have ht : s.toList.isEmpty = false := by
        rw [ByteArray.toList_eq]
        cases hl : s.data.toList with
        | nil => exact absurd hl hemp
        | cons a l => rfl
      have hq := HS.out (fun e => hemp (by rw [e]))
      have hcall := suffix_c w s hsz
      rw [hq] at hcall
      have H2' := Lib.hid (H2.out hbig)
      have H3' := Lib.hid (H3.out hbig)
      clear hemp HS HE H1 H2 H3 hq
      by_cases hd : (linesTo 10 s.data.toList).2 = []
      · have HH := Lib.hid (H2'.out hd)
        rw [decide_eq_true hd] at hcall
        clear hd H2' H3'
        go_enter Tryd.func11, Tryd.ntmps11
        go_wp2_with fail
        refine Calls.mono hcall ?_
        rintro e w2 ⟨rfl, rfl⟩
        clear hcall
        go_wp2_with fail
        go_ret
        exact ⟨by rw [HH.out]; rfl, rfl⟩
      · have HH := Lib.hid (H3'.out hd)
        rw [decide_eq_false hd] at hcall
        clear hd H2' H3'
        go_enter Tryd.func11, Tryd.ntmps11
        go_wp2_with fail
        refine Calls.mono hcall ?_
        rintro e w2 ⟨rfl, rfl⟩
        clear hcall
        go_wp2_with fail
        go_ret
        exact ⟨by rw [HH.out]; rfl, rfl⟩

theorem countL_code {l : List UInt8} (h : codeL l ≠ 0) : countL l = (0, codeL l) := by
  unfold codeL countL at *
  split
  · rfl
  · rename_i h1
    rw [if_neg h1] at h
    split
    · rename_i h2; rw [if_pos h2] at h; exact absurd rfl h
    · rfl
theorem countL_zero {l : List UInt8} (h : codeL l = 0) : countL l = (((l.count 10 : Nat) : Int), 0) := by
  unfold codeL at h
  unfold countL
  split
  · rename_i h1; rw [if_pos h1] at h; omega
  · rename_i h1
    rw [if_neg h1] at h
    split
    · rfl
    · rename_i h2; rw [if_neg h2] at h; omega

theorem OwnP.cap_le {α : Type} {f : α → Value} {e : TypeId} {B : Nat} {w : World} {a : Option Addr} {n c : Nat} {xs : List α} (h : OwnP f e B w (.slice a n c) xs) : n ≤ c := by
  obtain ⟨h1, h2⟩ := h
  rcases h2 with ⟨hv, h0⟩ | ⟨g, cap, cur, hv, hb, hg, hnc, hcm, hcs, htake⟩
  · injection hv with q1 q2 q3; omega
  · injection hv with q1 q2 q3; omega
/-- the lines of a text and a code -/
def LinesRes (l : List UInt8) (r : Value) (w' : World) : Prop := ∃ a n c, r = .tuple #[.slice a n c, .int .i64 (codeL l)] ∧ (codeL l = 0 → n = l.count 10 ∧ ∀ i, i < n → ∃ b, a = some ⟨b, 0, none⟩ ∧ w'.cell? ⟨b, i, none⟩ = some (.string (strOf ((linesTo 10 l).1.getD i []))))

set_option maxRecDepth 20000 in
set_option maxHeartbeats 1000000 in
theorem l27Lines_c (w : World) (s : ByteArray) (hs : s.size ≤ maxLen) : Calls Tryd.prog 10 #[.string s] w (Ret w (LinesRes s.data.toList)) := by
  have Hl : Hid (s.data.toList.length = s.size) := len_str s
  have H1 : Hid (240 < s.size → codeL s.data.toList = 3) := fun h => codeL_big (by rw [Hl.out]; exact h)
  have H2 : Hid (¬ 240 < s.size → (linesTo 10 s.data.toList).2 = [] → codeL s.data.toList = 0) := fun h => codeL_ok (by rw [Hl.out]; exact h)
  have H3 : Hid (¬ 240 < s.size → ¬ (linesTo 10 s.data.toList).2 = [] → codeL s.data.toList = 6) := fun h => codeL_bad (by rw [Hl.out]; exact h)
  have HR : Hid (∀ a n c r w', codeL s.data.toList = r → (r = 0 → n = s.data.toList.count 10 ∧ ∀ i, i < n → ∃ b, a = some ⟨b, 0, none⟩ ∧ w'.cell? ⟨b, i, none⟩ = some (.string (strOf ((linesTo 10 s.data.toList).1.getD i [])))) → LinesRes s.data.toList (.tuple #[.slice a n c, .int .i64 r]) w') := fun a n c r w' h1 h2 => ⟨a, n, c, by rw [h1], fun h => h2 (by rw [← h1]; exact h)⟩
  by_cases hbig : 240 < s.size
  · have HH := Lib.hid (H1.out hbig)
    go_enter Tryd.func10, Tryd.ntmps10
    go_wp2_with fail
    go_ret2
    exact ⟨_, rfl, HR.out _ _ _ _ _ HH.out (fun h => by omega), Ext.refl _⟩
  · have hcall := l01Split_c w s (by omega) 10 10 rfl
    have H2' := Lib.hid (H2.out hbig)
    have H3' := Lib.hid (H3.out hbig)
    have hcnt := linesTo_count 10 s.data.toList
    have hle := List.count_le_length (a := (10 : UInt8)) (l := s.data.toList)
    have hln := Hl.out
    clear H1 H2 H3
    go_enter Tryd.func10, Tryd.ntmps10
    go_wp2_with fail
    refine Calls.mono hcall ?_
    rintro e w1 hr
    obtain ⟨r, rfl, o1, e1⟩ := ret_ext hr
    clear hr hcall
    obtain ⟨a, n, c, rfl, hn, hmx, hel⟩ := o1.shape
    have hcap := o1.cap_le
    have hsp : (splitL 10 s.data.toList).length = s.data.toList.count 10 + 1 := by unfold splitL; rw [List.length_append, List.length_singleton, hcnt]
    rw [List.length_map, hsp] at hn
    have hn0 : 0 < n := by omega
    obtain ⟨b, rfl, -, -, hlast, -⟩ := hel (n - 1) (by rw [List.length_map, hsp]; omega)
    have hall : Hid (∀ i, i < n - 1 → ∃ b', (some ⟨b, 0, none⟩ : Option Addr) = some ⟨b', 0, none⟩ ∧ w1.cell? ⟨b', i, none⟩ = some (.string (strOf ((linesTo 10 s.data.toList).1.getD i [])))) := fun i hi => by
      obtain ⟨b', hb', -, -, hc, -⟩ := hel i (by rw [List.length_map, hsp]; omega)
      refine ⟨b', hb', ?_⟩
      rw [hc, List.getElem_map]
      congr 3
      unfold splitL
      have hil : i < (linesTo 10 s.data.toList).1.length := by rw [hcnt]; omega
      rw [List.getElem_append_left hil]
      simp [hil]
    have hl2 : w1.cell? ⟨b, n - 1, none⟩ = some (.string (strOf (linesTo 10 s.data.toList).2)) := by
      rw [hlast, List.getElem_map]
      congr 3
      unfold splitL
      rw [List.getElem_append_right (by rw [hcnt]; omega)]
      simp
    have Hcnt : Hid (n - 1 = s.data.toList.count 10) := by show _ = _; omega
    have hne : (strOf (linesTo 10 s.data.toList).2).toList = (linesTo 10 s.data.toList).2 := by rw [ByteArray.toList_eq]; rfl
    have hcast : (n : Int) - 1 = ((n - 1 : Nat) : Int) := by omega
    have hn240 : n ≤ 241 := by omega
    clear hel hlast hsp hcnt hle hln hn o1
    obtain ⟨m, rfl⟩ : ∃ m, n = m + 1 := ⟨n - 1, by omega⟩
    rw [Nat.add_sub_cancel] at hl2 hall Hcnt
    have hwr : IntKind.i64.wrap (((m + 1 : Nat) : Int) - 1) = (m : Int) := by rw [IntWalk.i64_in _ (by omega)]; omega
    have hsub : (((m + 1 : Nat) : Int) - 1) = (m : Int) := by omega
    have hm240 : m ≤ 240 := by omega
    clear hcast hn240 hn0
    by_cases hd : (linesTo 10 s.data.toList).2 = []
    · have HH := Lib.hid (H2'.out hd)
      have ht : (strOf (linesTo 10 s.data.toList).2).toList.isEmpty = true := by rw [hne, hd]; rfl
      clear hd H2' H3' hne
      generalize strOf (linesTo 10 s.data.toList).2 = sl at *
      have hmc : m ≤ c := by omega
      go_wp2_with fail
      go_ret2
      exact ⟨_, rfl, HR.out _ _ _ _ _ HH.out (fun _ => ⟨Hcnt.out, hall.out⟩), e1⟩
    · have HH := Lib.hid (H3'.out hd)
      have ht : (strOf (linesTo 10 s.data.toList).2).toList.isEmpty = false := by
        rw [hne]
        cases hl : (linesTo 10 s.data.toList).2 with
        | nil => exact absurd hl hd
        | cons a l => rfl
      clear hd H2' H3' hne
      generalize strOf (linesTo 10 s.data.toList).2 = sl at *
      go_wp2_with fail
      go_ret2
      exact ⟨_, rfl, HR.out _ _ _ _ _ HH.out (fun h => by omega), e1⟩
end Go.Proofs.YtejaobbdcnnknaaDoor
