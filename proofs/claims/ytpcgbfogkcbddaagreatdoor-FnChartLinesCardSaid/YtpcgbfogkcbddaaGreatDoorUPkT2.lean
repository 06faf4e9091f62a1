/- Proved: strings.Count and strings.HasSuffix, laid; the lines of a text: linesCode, CountLines of the program; l27Lines, CountLines of the reference; the first line in which two texts differ (plain); strings.genSplit, laid; strings.SplitAfter at a line's end: the lines with their ends; SameChart of the program; SameChart of the reference; laws.big: whether a code is longer than 4096 bytes. -/
import Derived.Test.YtpcgbfogkcbddaaGreatDoorChecked
import Derived.Shelf.Strings.Count
import Derived.Shelf.Strings.Prefix
import Derived.Ground.NamesProg
import Derived.Shelf.Strings.Split
import Derived.Shelf.LaysM
import Derived.Lib.SplitLaws
import Derived.Deep.RegionHeld3
import Derived.Test.YtpcgbfogkcbddaaGreatDoorUPkA
import Derived.Test.YtpcgbfogkcbddaaGreatDoorUPkT1
import Derived.Test.YtpcgbfogkcbddaaGreatDoorUPkDa
namespace Go.Proofs.YtpcgbfogkcbddaaGreatDoor
open Go.ChangeShapes Go.WideShapes Go.ChangeAt Go.RowKit
set_option linter.unusedVariables false
open Go.Shelf

def Tryz.strCount_ren : Go.Shelf.Ren := ⟨fun | 138 => 75 | 195 => 106 | 218 => 107 | 143 => 108 | 219 => 143 | 217 => 174 | 225 => 175 | 224 => 176 | 267 => 177 | 266 => 206 | 314 => 207 | n => n, fun | 9 => 9 | 3 => 3 | 4 => 4 | 5 => 5 | 0 => 0 | 46 => 157 | 146 => 203 | 51 => 191 | n => n, fun | 1 => 0 | n => n⟩
theorem Tryz.strCount : Go.Proofs.Lays.n138 Tryz.prog Tryz.strCount_ren := {
  mixed := by kernel_rfl
  f138 := Tryz.func75.trans (congrArg some (by kernel_rfl))
  f143 := Tryz.func108.trans (congrArg some (by kernel_rfl))
  f195 := Tryz.func106.trans (congrArg some (by kernel_rfl))
  f217 := Tryz.func174.trans (congrArg some (by kernel_rfl))
  f218 := Tryz.func107.trans (congrArg some (by kernel_rfl))
  f219 := Tryz.func143.trans (congrArg some (by kernel_rfl))
  f224 := Tryz.func176.trans (congrArg some (by kernel_rfl))
  f225 := Tryz.func175.trans (congrArg some (by kernel_rfl))
  f266 := Tryz.func206.trans (congrArg some (by kernel_rfl))
  f267 := Tryz.func177.trans (congrArg some (by kernel_rfl))
  f314 := Tryz.func207.trans (congrArg some (by kernel_rfl))
  t0 := Tryz.underlying0
  a0 := Tryz.isAgg0
  z0 := Tryz.sizeOf0
  v0 := Tryz.zeroValue0
  t3 := Tryz.underlying3
  a3 := Tryz.isAgg3
  z3 := Tryz.sizeOf3
  v3 := Tryz.zeroValue3
  t4 := Tryz.underlying4
  a4 := Tryz.isAgg4
  z4 := Tryz.sizeOf4
  v4 := Tryz.zeroValue4
  t5 := Tryz.underlying5
  a5 := Tryz.isAgg5
  z5 := Tryz.sizeOf5
  v5 := Tryz.zeroValue5
  t9 := Tryz.underlying9
  a9 := Tryz.isAgg9
  z9 := Tryz.sizeOf9
  v9 := Tryz.zeroValue9
  t46 := Tryz.underlying157
  a46 := Tryz.isAgg157
  z46 := Tryz.sizeOf157
  v46 := Tryz.zeroValue157
  t51 := Tryz.underlying191
  a51 := Tryz.isAgg191
  z51 := Tryz.sizeOf191
  v51 := Tryz.zeroValue191
  t146 := Tryz.underlying203
  a146 := Tryz.isAgg203
  z146 := Tryz.sizeOf203
  v146 := Tryz.zeroValue203
  g1 := by kernel_rfl }
def Tryz.strSuffix_ren : Go.Shelf.Ren := ⟨fun | 100 => 101 | 207 => 130 | n => n, fun | 9 => 9 | 4 => 4 | 3 => 3 | n => n, fun | n => n⟩
theorem Tryz.strSuffix : Go.Proofs.Lays.n100 Tryz.prog Tryz.strSuffix_ren := {
  mixed := by kernel_rfl
  f100 := Tryz.func101.trans (congrArg some (by kernel_rfl))
  f207 := Tryz.func130.trans (congrArg some (by kernel_rfl))
  t3 := Tryz.underlying3
  a3 := Tryz.isAgg3
  z3 := Tryz.sizeOf3
  v3 := Tryz.zeroValue3
  t4 := Tryz.underlying4
  a4 := Tryz.isAgg4
  z4 := Tryz.sizeOf4
  v4 := Tryz.zeroValue4
  t9 := Tryz.underlying9
  a9 := Tryz.isAgg9
  z9 := Tryz.sizeOf9
  v9 := Tryz.zeroValue9 }
theorem count_c (w : World) (s : ByteArray) : Calls Tryz.prog 75 #[.string s, .string ⟨#[10]⟩] w (fun e w' => e = .returned (.int .i64 (Lib.countByte s.data.toList 10)) ∧ w' = w) := Go.Proofs.Any.strings_Count_one Tryz.strCount s 10 w
theorem suffix_c (w : World) (s : ByteArray) (hs : s.size ≤ 9223372036854775807) : Calls Tryz.prog 101 #[.string s, .string ⟨#[10]⟩] w (fun e w' => e = .returned (.bool (Lib.hasSuffix s.data.toList [10])) ∧ w' = w) := Go.Proofs.Any.strings_HasSuffix Tryz.strSuffix s ⟨#[10]⟩ w hs

open Go.ChangeShapes Go.WideShapes Go.ChangeAt Go.RowKit
set_option linter.unusedVariables false

def codeL (l : List UInt8) : Int := if 240 < l.length then 3 else if (linesTo 10 l).2 = [] then 0 else 6
theorem codeL_big {l : List UInt8} (h : 240 < l.length) : codeL l = 3 := by unfold codeL; rw [if_pos h]
theorem codeL_ok {l : List UInt8} (h : ¬ 240 < l.length) (h2 : (linesTo 10 l).2 = []) : codeL l = 0 := by unfold codeL; rw [if_neg h, if_pos h2]
theorem codeL_bad {l : List UInt8} (h : ¬ 240 < l.length) (h2 : ¬ (linesTo 10 l).2 = []) : codeL l = 6 := by unfold codeL; rw [if_neg h, if_neg h2]
theorem suffix_nl (l : List UInt8) (hl : l ≠ []) : Lib.hasSuffix l [10] = decide ((linesTo 10 l).2 = []) := by
  rw [Bool.eq_iff_iff, decide_eq_true_iff, linesTo_last]
  unfold Lib.hasSuffix
  rw [List.isSuffixOf_iff_suffix]
  constructor
  · rintro ⟨l', h⟩; exact .inr ⟨l', h.symm⟩
  · rintro (h | ⟨l', h⟩)
    · exact absurd h hl
    · exact ⟨l', h.symm⟩

set_option maxRecDepth 20000 in
set_option maxHeartbeats 1000000 in
theorem linesCode_c (w : World) (s : ByteArray) (hs : s.size ≤ maxLen) : Calls Tryz.prog 70 #[.string s] w (fun e w' => e = .returned (.int .i64 (codeL s.data.toList)) ∧ w' = w) := by
  have Hl : Hid (s.data.toList.length = s.size) := len_str s
  have H1 : Hid (240 < s.size → codeL s.data.toList = 3) := fun h => codeL_big (by rw [Hl.out]; exact h)
  have H2 : Hid (¬ 240 < s.size → (linesTo 10 s.data.toList).2 = [] → codeL s.data.toList = 0) := fun h => codeL_ok (by rw [Hl.out]; exact h)
  have H3 : Hid (¬ 240 < s.size → ¬ (linesTo 10 s.data.toList).2 = [] → codeL s.data.toList = 6) := fun h => codeL_bad (by rw [Hl.out]; exact h)
  have HE : Hid (s = ⟨#[]⟩ → (linesTo 10 s.data.toList).2 = []) := fun h => by rw [h]; rfl
  have HS : Hid (s ≠ ⟨#[]⟩ → Lib.hasSuffix s.data.toList [10] = decide ((linesTo 10 s.data.toList).2 = [])) := fun h => suffix_nl _ (fun e => h (by
    apply ByteArray.ext
    apply Array.toList_inj.1
    exact e))
  generalize codeL s.data.toList = res at *
  by_cases hbig : 240 < s.size
  · have HH := Lib.hid (H1.out hbig)
    go_enter Tryz.func70, Tryz.ntmps70
    go_wp2_with fail
    go_ret
    exact ⟨by rw [HH.out]; rfl, rfl⟩
  · have hsz : s.size ≤ 9223372036854775807 := by omega
    by_cases hemp : s.data.toList = []
    · have HH := Lib.hid (H2.out hbig (by rw [hemp]; rfl))
      have ht : s.toList.isEmpty = true := by rw [ByteArray.toList_eq, hemp]; rfl
      clear hemp HS HE H1 H2 H3
      go_enter Tryz.func70, Tryz.ntmps70
      go_wp2_with fail
      go_ret
      exact ⟨by rw [HH.out]; rfl, rfl⟩
    · have ht : s.toList.isEmpty = false := by
        rw [ByteArray.toList_eq]
        cases hl : s.data.toList with
        | nil => exact absurd hl hemp
        | cons a l => rfl
      have hq := HS.out (fun e => hemp (by rw [e]))
      have hcall := suffix_c w s hsz
      rw [hq] at hcall
      have H2' := Lib.hid (H2.out hbig)
      have H3' := Lib.hid (H3.out hbig)
      clear hemp HS HE H1 H2 H3 hq
      by_cases hd : (linesTo 10 s.data.toList).2 = []
      · have HH := Lib.hid (H2'.out hd)
        rw [decide_eq_true hd] at hcall
        clear hd H2' H3'
        go_enter Tryz.func70, Tryz.ntmps70
        go_wp2_with fail
        refine Calls.mono hcall ?_
        rintro e w2 ⟨rfl, rfl⟩
        clear hcall
        go_wp2_with fail
        go_ret
        exact ⟨by rw [HH.out]; rfl, rfl⟩
      · have HH := Lib.hid (H3'.out hd)
        rw [decide_eq_false hd] at hcall
        clear hd H2' H3'
        go_enter Tryz.func70, Tryz.ntmps70
        go_wp2_with fail
        refine Calls.mono hcall ?_
        rintro e w2 ⟨rfl, rfl⟩
        clear hcall
        go_wp2_with fail
        go_ret
        exact ⟨by rw [HH.out]; rfl, rfl⟩

theorem countL_code {l : List UInt8} (h : codeL l ≠ 0) : countL l = (0, codeL l) := by
  unfold codeL countL at *
  split
  · rfl
  · rename_i h1
    rw [if_neg h1] at h
    split
    · rename_i h2; rw [if_pos h2] at h; exact absurd rfl h
    · rfl
theorem countL_zero {l : List UInt8} (h : codeL l = 0) : countL l = (((l.count 10 : Nat) : Int), 0) := by
  unfold codeL at h
  unfold countL
  split
  · rename_i h1; rw [if_pos h1] at h; omega
  · rename_i h1
    rw [if_neg h1] at h
    split
    · rfl
    · rename_i h2; rw [if_neg h2] at h; omega

set_option maxRecDepth 20000 in
set_option maxHeartbeats 1000000 in
theorem CountLines_c (w : World) (s : ByteArray) (hs : s.size ≤ maxLen) : Calls Tryz.prog 34 #[.string s] w (Ret w fun r _ => r = IntCode (countL s.data.toList)) := by
  have H1 : Hid (codeL s.data.toList ≠ 0 → countL s.data.toList = (0, codeL s.data.toList)) := countL_code
  have H2 : Hid (codeL s.data.toList = 0 → countL s.data.toList = (((s.data.toList.count 10 : Nat) : Int), 0)) := countL_zero
  have hcall := linesCode_c w s hs
  have HC : Hid (∀ w', Calls Tryz.prog 75 #[.string s, .string ⟨#[10]⟩] w' (fun e w'' => e = .returned (.int .i64 ((s.data.toList.count 10 : Nat) : Int)) ∧ w'' = w')) := fun w' => count_c w' s
  generalize countL s.data.toList = res at *
  generalize codeL s.data.toList = c at *
  generalize s.data.toList.count 10 = n at *
  clear hs
  go_enter Tryz.func34, Tryz.ntmps34
  go_wp2_with fail
  refine Calls.mono hcall ?_
  rintro e w1 ⟨rfl, rfl⟩
  clear hcall
  by_cases hd : c = 0
  · have HH := Lib.hid (H2.out hd)
    have hb0 : (c != 0) = false := by rw [hd]; rfl
    clear hd H1 H2
    go_wp2_with fail
    refine Calls.mono (HC.out _) ?_
    rintro e w2 ⟨rfl, rfl⟩
    go_wp2_with fail
    go_ret2
    exact ⟨_, rfl, IntCode_mk HH.out, Ext.refl _⟩
  · have HH := Lib.hid (H1.out hd)
    have hb0 : (c != 0) = true := by rw [bne_iff_ne]; exact hd
    clear hd H1 H2
    go_wp2_with fail
    go_ret2
    exact ⟨_, rfl, IntCode_mk HH.out, Ext.refl _⟩

theorem OwnP.cap_le {α : Type} {f : α → Value} {e : TypeId} {B : Nat} {w : World} {a : Option Addr} {n c : Nat} {xs : List α} (h : OwnP f e B w (.slice a n c) xs) : n ≤ c := by
  obtain ⟨h1, h2⟩ := h
  rcases h2 with ⟨hv, h0⟩ | ⟨g, cap, cur, hv, hb, hg, hnc, hcm, hcs, htake⟩
  · injection hv with q1 q2 q3; omega
  · injection hv with q1 q2 q3; omega
/-- the lines of a text and a code -/
def LinesRes (l : List UInt8) (r : Value) (w' : World) : Prop := ∃ a n c, r = .tuple #[.slice a n c, .int .i64 (codeL l)] ∧ (codeL l = 0 → n = l.count 10 ∧ ∀ i, i < n → ∃ b, a = some ⟨b, 0, none⟩ ∧ w'.cell? ⟨b, i, none⟩ = some (.string (strOf ((linesTo 10 l).1.getD i []))))

set_option maxRecDepth 20000 in
set_option maxHeartbeats 1000000 in
theorem l27Lines_c (w : World) (s : ByteArray) (hs : s.size ≤ maxLen) : Calls Tryz.prog 72 #[.string s] w (Ret w (LinesRes s.data.toList)) := by
  have Hl : Hid (s.data.toList.length = s.size) := len_str s
  have H1 : Hid (240 < s.size → codeL s.data.toList = 3) := fun h => codeL_big (by rw [Hl.out]; exact h)
  have H2 : Hid (¬ 240 < s.size → (linesTo 10 s.data.toList).2 = [] → codeL s.data.toList = 0) := fun h => codeL_ok (by rw [Hl.out]; exact h)
  have H3 : Hid (¬ 240 < s.size → ¬ (linesTo 10 s.data.toList).2 = [] → codeL s.data.toList = 6) := fun h => codeL_bad (by rw [Hl.out]; exact h)
  have HR : Hid (∀ a n c r w', codeL s.data.toList = r → (r = 0 → n = s.data.toList.count 10 ∧ ∀ i, i < n → ∃ b, a = some ⟨b, 0, none⟩ ∧ w'.cell? ⟨b, i, none⟩ = some (.string (strOf ((linesTo 10 s.data.toList).1.getD i [])))) → LinesRes s.data.toList (.tuple #[.slice a n c, .int .i64 r]) w') := fun a n c r w' h1 h2 => ⟨a, n, c, by rw [h1], fun h => h2 (by rw [← h1]; exact h)⟩
  by_cases hbig : 240 < s.size
  · have HH := Lib.hid (H1.out hbig)
    go_enter Tryz.func72, Tryz.ntmps72
    go_wp2_with fail
    go_ret2
    exact ⟨_, rfl, HR.out _ _ _ _ _ HH.out (fun h => by omega), Ext.refl _⟩
  · have hcall := l01Split_c w s (by omega) 10 10 rfl
    have H2' := Lib.hid (H2.out hbig)
    have H3' := Lib.hid (H3.out hbig)
    have hcnt := linesTo_count 10 s.data.toList
    have hle := List.count_le_length (a := (10 : UInt8)) (l := s.data.toList)
    have hln := Hl.out
    clear H1 H2 H3
    go_enter Tryz.func72, Tryz.ntmps72
    go_wp2_with fail
    refine Calls.mono hcall ?_
    rintro e w1 hr
    obtain ⟨r, rfl, o1, e1⟩ := ret_ext hr
    clear hr hcall
    obtain ⟨a, n, c, rfl, hn, hmx, hel⟩ := o1.shape
    have hcap := o1.cap_le
    have hsp : (splitL 10 s.data.toList).length = s.data.toList.count 10 + 1 := by unfold splitL; rw [List.length_append, List.length_singleton, hcnt]
    rw [List.length_map, hsp] at hn
    have hn0 : 0 < n := by omega
    obtain ⟨b, rfl, -, -, hlast, -⟩ := hel (n - 1) (by rw [List.length_map, hsp]; omega)
    have hall : Hid (∀ i, i < n - 1 → ∃ b', (some ⟨b, 0, none⟩ : Option Addr) = some ⟨b', 0, none⟩ ∧ w1.cell? ⟨b', i, none⟩ = some (.string (strOf ((linesTo 10 s.data.toList).1.getD i [])))) := fun i hi => by
      obtain ⟨b', hb', -, -, hc, -⟩ := hel i (by rw [List.length_map, hsp]; omega)
      refine ⟨b', hb', ?_⟩
      rw [hc, List.getElem_map]
      congr 3
      unfold splitL
      have hil : i < (linesTo 10 s.data.toList).1.length := by rw [hcnt]; omega
      rw [List.getElem_append_left hil]
      simp [hil]
    have hl2 : w1.cell? ⟨b, n - 1, none⟩ = some (.string (strOf (linesTo 10 s.data.toList).2)) := by
      rw [hlast, List.getElem_map]
      congr 3
      unfold splitL
      rw [List.getElem_append_right (by rw [hcnt]; omega)]
      simp
    have Hcnt : Hid (n - 1 = s.data.toList.count 10) := by show _ = _; omega
    have hne : (strOf (linesTo 10 s.data.toList).2).toList = (linesTo 10 s.data.toList).2 := by rw [ByteArray.toList_eq]; rfl
    have hcast : (n : Int) - 1 = ((n - 1 : Nat) : Int) := by omega
    have hn240 : n ≤ 241 := by omega
    clear hel hlast hsp hcnt hle hln hn o1
    obtain ⟨m, rfl⟩ : ∃ m, n = m + 1 := ⟨n - 1, by omega⟩
    rw [Nat.add_sub_cancel] at hl2 hall Hcnt
    have hwr : IntKind.i64.wrap (((m + 1 : Nat) : Int) - 1) = (m : Int) := by rw [IntWalk.i64_in _ (by omega)]; omega
    have hsub : (((m + 1 : Nat) : Int) - 1) = (m : Int) := by omega
    have hm240 : m ≤ 240 := by omega
    clear hcast hn240 hn0
    by_cases hd : (linesTo 10 s.data.toList).2 = []
    · have HH := Lib.hid (H2'.out hd)
      have ht : (strOf (linesTo 10 s.data.toList).2).toList.isEmpty = true := by rw [hne, hd]; rfl
      clear hd H2' H3' hne
      generalize strOf (linesTo 10 s.data.toList).2 = sl at *
      have hmc : m ≤ c := by omega
      go_wp2_with fail
      go_ret2
      exact ⟨_, rfl, HR.out _ _ _ _ _ HH.out (fun _ => ⟨Hcnt.out, hall.out⟩), e1⟩
    · have HH := Lib.hid (H3'.out hd)
      have ht : (strOf (linesTo 10 s.data.toList).2).toList.isEmpty = false := by
        rw [hne]
        cases hl : (linesTo 10 s.data.toList).2 with
        | nil => exact absurd hl hd
        | cons a l => rfl
      clear hd H2' H3' hne
      generalize strOf (linesTo 10 s.data.toList).2 = sl at *
      go_wp2_with fail
      go_ret2
      exact ⟨_, rfl, HR.out _ _ _ _ _ HH.out (fun h => by omega), e1⟩

set_option maxRecDepth 20000 in
set_option maxHeartbeats 1000000 in
theorem CountLinesSpec_c (w : World) (s : ByteArray) (hs : s.size ≤ maxLen) : Calls Tryz.prog 35 #[.string s] w (Ret w fun r _ => r = IntCode (countL s.data.toList)) := by
  have H1 : Hid (codeL s.data.toList ≠ 0 → countL s.data.toList = (0, codeL s.data.toList)) := countL_code
  have H2 : Hid (codeL s.data.toList = 0 → countL s.data.toList = (((s.data.toList.count 10 : Nat) : Int), 0)) := countL_zero
  have hcall := l27Lines_c w s hs
  unfold LinesRes at hcall
  have hcall2 : Calls Tryz.prog 72 #[.string s] w (Ret w fun r _ => ∃ a n c, r = .tuple #[.slice a n c, .int .i64 (codeL s.data.toList)] ∧ (codeL s.data.toList = 0 → n = s.data.toList.count 10)) := hcall.mono (by
    rintro e w' hr
    obtain ⟨r, rfl, ⟨a, n, c, rfl, h⟩, e1⟩ := ret_ext hr
    exact ⟨_, rfl, ⟨a, n, c, rfl, fun h0 => (h h0).1⟩, e1⟩)
  clear hcall
  generalize countL s.data.toList = res at *
  generalize codeL s.data.toList = cd at *
  generalize s.data.toList.count 10 = m at *
  clear hs
  go_enter Tryz.func35, Tryz.ntmps35
  go_wp2_with fail
  refine Calls.mono hcall2 ?_
  rintro e w1 hr
  obtain ⟨r, rfl, ⟨a, n, c, rfl, hn⟩, e1⟩ := ret_ext hr
  clear hr hcall2
  by_cases hd : cd = 0
  · have HH := Lib.hid (H2.out hd)
    obtain rfl := hn hd
    have hb0 : (cd != 0) = false := by rw [hd]; rfl
    clear hd H1 H2 hn
    go_wp2_with fail
    go_ret2
    exact ⟨_, rfl, IntCode_mk HH.out, e1⟩
  · have HH := Lib.hid (H1.out hd)
    have hb0 : (cd != 0) = true := by rw [bne_iff_ne]; exact hd
    clear hd H1 H2 hn
    go_wp2_with fail
    go_ret2
    exact ⟨_, rfl, IntCode_mk HH.out, e1⟩

open Go.ChangeShapes Go.WideShapes Go.ChangeAt Go.RowKit
set_option linter.unusedVariables false

/-- how many first lines are alike -/
def cp : List (List UInt8) → List (List UInt8) → Nat
  | a :: A, b :: B => if a = b then cp A B + 1 else 0
  | _, _ => 0
theorem cp_cons (a : List UInt8) (A : List (List UInt8)) (b : List UInt8) (B : List (List UInt8)) : cp (a :: A) (b :: B) = if a = b then cp A B + 1 else 0 := rfl
theorem cp_le : ∀ (A B : List (List UInt8)), cp A B ≤ A.length ∧ cp A B ≤ B.length
  | [], B => by simp [cp]
  | a :: A, [] => by simp [cp]
  | a :: A, b :: B => by
    have := cp_le A B
    unfold cp
    split <;> simp only [List.length_cons] <;> omega
theorem cp_same : ∀ (A B : List (List UInt8)) {i : Nat}, i < cp A B → A.getD i [] = B.getD i []
  | [], B, i, h => by simp [cp] at h
  | a :: A, [], i, h => by simp [cp] at h
  | a :: A, b :: B, i, h => by
    unfold cp at h
    split at h
    · rename_i e
      cases i with
      | zero => simpa using e
      | succ i => simpa using cp_same A B (by omega : i < cp A B)
    · omega
theorem cp_diff : ∀ (A B : List (List UInt8)), cp A B < A.length → cp A B < B.length → A.getD (cp A B) [] ≠ B.getD (cp A B) []
  | [], B, h, _ => by simp at h
  | a :: A, [], _, h => by simp at h
  | a :: A, b :: B, h1, h2 => by
    by_cases e : a = b
    · have hc : cp (a :: A) (b :: B) = cp A B + 1 := by rw [cp_cons, if_pos e]
      rw [hc] at h1 h2 ⊢
      simp only [List.length_cons] at h1 h2
      simpa using cp_diff A B (by omega) (by omega)
    · have hc : cp (a :: A) (b :: B) = 0 := by rw [cp_cons, if_neg e]
      rw [hc]; simpa using e
theorem cp_full : ∀ (A B : List (List UInt8)), cp A B = A.length → cp A B = B.length → A = B
  | [], [], _, _ => rfl
  | [], b :: B, _, h => by simp [cp] at h
  | a :: A, [], h, _ => by simp [cp] at h
  | a :: A, b :: B, h1, h2 => by
    by_cases e : a = b
    · have hc : cp (a :: A) (b :: B) = cp A B + 1 := by rw [cp_cons, if_pos e]
      rw [hc] at h1 h2
      simp only [List.length_cons] at h1 h2
      rw [e, cp_full A B (by omega) (by omega)]
    · have hc : cp (a :: A) (b :: B) = 0 := by rw [cp_cons, if_neg e]
      rw [hc] at h1; simp at h1
theorem cp_self (A : List (List UInt8)) : cp A A = A.length := by
  induction A with
  | nil => rfl
  | cons a A ih => rw [cp_cons, if_pos rfl, ih]; rfl
/-- the closed lines of a text -/
def lns (l : List UInt8) : List (List UInt8) := (linesTo 10 l).1
def sameC (la lb : List UInt8) : Int × Int :=
  if codeL la ≠ 0 ∨ codeL lb ≠ 0 then (0, if codeL la = 3 ∨ codeL lb = 3 then 3 else 6) else if lns la = lns lb then (0, 0) else (((cp (lns la) (lns lb) : Nat) : Int) + 1, 0)
theorem sameC_lim {la lb : List UInt8} (h : codeL la = 3 ∨ codeL lb = 3) : sameC la lb = (0, 3) := by
  unfold sameC
  rw [if_pos (by rcases h with h | h <;> omega), if_pos h]
theorem sameC_syn {la lb : List UInt8} (h : codeL la ≠ 0 ∨ codeL lb ≠ 0) (h2 : ¬ (codeL la = 3 ∨ codeL lb = 3)) : sameC la lb = (0, 6) := by
  unfold sameC
  rw [if_pos h, if_neg h2]
theorem sameC_eq {la lb : List UInt8} (h : codeL la = 0) (h2 : codeL lb = 0) (h3 : lns la = lns lb) : sameC la lb = (0, 0) := by
  unfold sameC
  rw [if_neg (by omega), if_pos h3]
theorem sameC_ne {la lb : List UInt8} (h : codeL la = 0) (h2 : codeL lb = 0) (h3 : lns la ≠ lns lb) : sameC la lb = (((cp (lns la) (lns lb) : Nat) : Int) + 1, 0) := by
  unfold sameC
  rw [if_neg (by omega), if_neg h3]
theorem codeL_val (l : List UInt8) : codeL l = 0 ∨ codeL l = 3 ∨ codeL l = 6 := by
  unfold codeL
  split
  · exact .inr (.inl rfl)
  · split
    · exact .inl rfl
    · exact .inr (.inr rfl)
theorem codeL_three {l : List UInt8} : codeL l = 3 ↔ 240 < l.length := by
  unfold codeL
  split
  · simp; assumption
  · split <;> simp <;> omega
theorem codeL_open {l : List UInt8} (h : codeL l = 0) : (linesTo 10 l).2 = [] := by
  unfold codeL at h
  split at h
  · omega
  · split at h
    · assumption
    · omega
theorem lns_inj {la lb : List UInt8} (h : codeL la = 0) (h2 : codeL lb = 0) (h3 : lns la = lns lb) : la = lb := by
  have e1 := linesTo_join 10 la
  have e2 := linesTo_join 10 lb
  rw [codeL_open h, List.append_nil] at e1
  rw [codeL_open h2, List.append_nil] at e2
  unfold lns at h3
  rw [e1, e2, h3]
theorem strOf_inj {a b : List UInt8} (h : strOf a = strOf b) : a = b := by
  have := congrArg (fun s : ByteArray => s.data.toList) h
  simpa [strOf] using this
theorem count_code {l : List UInt8} (h : codeL l = 0) : l.count 10 ≤ 240 := by
  have h1 := List.count_le_length (a := (10 : UInt8)) (l := l)
  have h2 : ¬ 240 < l.length := fun q => by have := codeL_three.2 q; omega
  omega

open Go.ChangeShapes Go.WideShapes Go.ChangeAt Go.RowKit
set_option linter.unusedVariables false
open Go.Shelf

def Tryz.genSplit_ren : Go.Shelf.Ren := ⟨fun | 221 => 96 | 268 => 126 | 138 => 75 | 143 => 108 | 195 => 106 | 197 => 159 | 218 => 107 | 219 => 143 | 260 => 200 | 217 => 174 | 225 => 175 | 224 => 176 | 267 => 177 | 266 => 206 | 314 => 207 | n => n, fun | 9 => 9 | 3 => 3 | 31 => 72 | 4 => 4 | 0 => 0 | 105 => 159 | 21 => 21 | 5 => 5 | 46 => 157 | 119 => 216 | 139 => 219 | 138 => 218 | 146 => 203 | 51 => 191 | n => n, fun | 1 => 0 | 3 => 2 | 4 => 3 | n => n⟩
theorem Tryz.genSplit : Go.Proofs.Lays.n221 Tryz.prog Tryz.genSplit_ren := {
  mixed := by kernel_rfl
  f138 := Tryz.func75.trans (congrArg some (by kernel_rfl))
  f143 := Tryz.func108.trans (congrArg some (by kernel_rfl))
  f195 := Tryz.func106.trans (congrArg some (by kernel_rfl))
  f197 := Tryz.func159.trans (congrArg some (by kernel_rfl))
  f217 := Tryz.func174.trans (congrArg some (by kernel_rfl))
  f218 := Tryz.func107.trans (congrArg some (by kernel_rfl))
  f219 := Tryz.func143.trans (congrArg some (by kernel_rfl))
  f221 := Tryz.func96.trans (congrArg some (by kernel_rfl))
  f224 := Tryz.func176.trans (congrArg some (by kernel_rfl))
  f225 := Tryz.func175.trans (congrArg some (by kernel_rfl))
  f260 := Tryz.func200.trans (congrArg some (by kernel_rfl))
  f266 := Tryz.func206.trans (congrArg some (by kernel_rfl))
  f267 := Tryz.func177.trans (congrArg some (by kernel_rfl))
  f268 := Tryz.func126.trans (congrArg some (by kernel_rfl))
  f314 := Tryz.func207.trans (congrArg some (by kernel_rfl))
  t0 := Tryz.underlying0
  a0 := Tryz.isAgg0
  z0 := Tryz.sizeOf0
  v0 := Tryz.zeroValue0
  t3 := Tryz.underlying3
  a3 := Tryz.isAgg3
  z3 := Tryz.sizeOf3
  v3 := Tryz.zeroValue3
  t4 := Tryz.underlying4
  a4 := Tryz.isAgg4
  z4 := Tryz.sizeOf4
  v4 := Tryz.zeroValue4
  t5 := Tryz.underlying5
  a5 := Tryz.isAgg5
  z5 := Tryz.sizeOf5
  v5 := Tryz.zeroValue5
  t9 := Tryz.underlying9
  a9 := Tryz.isAgg9
  z9 := Tryz.sizeOf9
  v9 := Tryz.zeroValue9
  t21 := Tryz.underlying21
  a21 := Tryz.isAgg21
  z21 := Tryz.sizeOf21
  v21 := Tryz.zeroValue21
  t31 := Tryz.underlying72
  a31 := Tryz.isAgg72
  z31 := Tryz.sizeOf72
  v31 := Tryz.zeroValue72
  t46 := Tryz.underlying157
  a46 := Tryz.isAgg157
  z46 := Tryz.sizeOf157
  v46 := Tryz.zeroValue157
  t51 := Tryz.underlying191
  a51 := Tryz.isAgg191
  z51 := Tryz.sizeOf191
  v51 := Tryz.zeroValue191
  t105 := Tryz.underlying159
  a105 := Tryz.isAgg159
  z105 := Tryz.sizeOf159
  v105 := Tryz.zeroValue159
  t119 := Tryz.underlying216
  a119 := Tryz.isAgg216
  z119 := Tryz.sizeOf216
  t138 := Tryz.underlying218
  a138 := Tryz.isAgg218
  z138 := Tryz.sizeOf218
  v138 := Tryz.zeroValue218
  t139 := Tryz.underlying219
  a139 := Tryz.isAgg219
  z139 := Tryz.sizeOf219
  v139 := Tryz.zeroValue219
  t146 := Tryz.underlying203
  a146 := Tryz.isAgg203
  z146 := Tryz.sizeOf203
  v146 := Tryz.zeroValue203
  g1 := by kernel_rfl
  g3 := by kernel_rfl
  g4 := by kernel_rfl }
theorem maxLen_cell (w : World) (h : w.ShapedOpen Tryz.prog) : ∃ m, w.cell? ⟨Tryz.genSplit_ren.g 1, 0, none⟩ = some (.int .i64 m) :=
  Go.Proofs.cell_of_shapedOpen_int (zero := #[.int .i64 0]) (t := 3) h (of_decide_eq_true (by kernel_rfl)) (by kernel_rfl) rfl (by kernel_rfl) (by kernel_rfl) Tryz.underlying3

open Go.ChangeShapes Go.WideShapes Go.ChangeAt Go.RowKit
set_option linter.unusedVariables false

theorem linesTo_clean (b : UInt8) (l : List UInt8) : (∀ d ∈ (linesTo b l).1, b ∉ d) ∧ b ∉ (linesTo b l).2 := by
  induction l using list_snoc_ind with
  | h0 => simp [linesTo]
  | h1 l c ih =>
    rw [linesTo_snoc]
    unfold lineStep
    by_cases h : c = b
    · rw [if_pos h]
      refine ⟨fun d hd => ?_, by simp⟩
      rcases List.mem_append.1 hd with q | q
      · exact ih.1 d q
      · rw [List.mem_singleton.1 q]; exact ih.2
    · rw [if_neg h]
      refine ⟨ih.1, fun q => ?_⟩
      rcases List.mem_append.1 q with q | q
      · exact ih.2 q
      · exact h (List.mem_singleton.1 q).symm
theorem index_line (b : UInt8) (d r : List UInt8) (h : b ∉ d) : Lib.index (d ++ b :: r) [b] = (d.length : Int) := by
  refine Lib.index_first (by simp) ?_ (fun j hj => ?_)
  · unfold Lib.occAt
    rw [List.drop_left]
    simp [List.isPrefixOf]
  · unfold Lib.occAt
    rw [List.drop_append_of_le_length (by omega)]
    obtain ⟨x, t, e, hx⟩ : ∃ x t, d.drop j = x :: t ∧ x ∈ d := ⟨d[j], d.drop (j + 1), (List.getElem_cons_drop hj).symm, List.getElem_mem hj⟩
    rw [e]
    have hne : b ≠ x := fun q => h (q ▸ hx)
    rw [List.cons_append]
    show ((b == x) && List.isPrefixOf [] _) = false
    rw [beq_eq_false_iff_ne.2 hne]
    rfl
theorem splitK_lines (b : UInt8) : ∀ (D : List (List UInt8)) (r : List UInt8), (∀ d ∈ D, b ∉ d) → Lib.splitK [b] 1 D.length (joinL b D ++ r) = D.map (fun d => d ++ [b]) ++ [r]
  | [], r, _ => rfl
  | d :: D, r, h => by
    have e : joinL b (d :: D) ++ r = d ++ b :: (joinL b D ++ r) := by unfold joinL; simp
    have hi := index_line b d (joinL b D ++ r) (h d (List.mem_cons_self ..))
    rw [e, List.length_cons, Lib.splitK, hi]
    have hm : ((d.length : Int) == -1) = false := by rw [beq_eq_false_iff_ne]; omega
    rw [hm]
    simp only [Bool.false_eq_true, if_false, Int.toNat_natCast, List.length_singleton, List.map_cons, List.cons_append]
    have e2 : d ++ b :: (joinL b D ++ r) = (d ++ [b]) ++ (joinL b D ++ r) := by simp
    congr 1
    · rw [e2, List.take_append_of_le_length (by simp), List.take_of_length_le (by simp)]
    · have e3 : d.length + 1 = (d ++ [b]).length := by simp
      rw [e2, e3, List.drop_left]
      exact splitK_lines b D r (fun x hx => h x (List.mem_cons_of_mem _ hx))
/-- the lines of a text with their ends, and what stands behind them -/
def afterL (l : List UInt8) : List ByteArray := ((lns l).map fun d => strOf (d ++ [10])) ++ [strOf (linesTo 10 l).2]
theorem afterL_len (l : List UInt8) : (afterL l).length = l.count 10 + 1 := by unfold afterL lns; rw [List.length_append, List.length_map, List.length_singleton, linesTo_count]
theorem strOf_dataA (s : ByteArray) : strOf s.data.toList = s := by unfold strOf; rw [Array.toArray_toList]
theorem count_line (s : ByteArray) : Lib.countB s ⟨#[10]⟩ = s.data.toList.count 10 := by
  show Lib.count s.data.toList [10] = _
  exact Lib.count_one 10 _
theorem splitB_lines (s : ByteArray) : Lib.splitB ⟨#[10]⟩ 1 (Lib.countB s ⟨#[10]⟩) s = afterL s.data.toList := by
  have h1 := Lib.splitB_data ⟨#[10]⟩ 1 (Lib.countB s ⟨#[10]⟩) s
  have h2 : Lib.splitK [10] 1 (Lib.countB s ⟨#[10]⟩) s.data.toList = (lns s.data.toList).map (fun d => d ++ [10]) ++ [(linesTo 10 s.data.toList).2] := by
    have h3 := splitK_lines 10 (lns s.data.toList) (linesTo 10 s.data.toList).2 (linesTo_clean 10 _).1
    have h4 : joinL 10 (lns s.data.toList) ++ (linesTo 10 s.data.toList).2 = s.data.toList := (linesTo_join 10 _).symm
    rw [h4] at h3
    rw [count_line, ← linesTo_count]
    exact h3
  have h5 : (Lib.splitB ⟨#[10]⟩ 1 (Lib.countB s ⟨#[10]⟩) s).map (·.data.toList) = (lns s.data.toList).map (fun d => d ++ [10]) ++ [(linesTo 10 s.data.toList).2] := h1.trans h2
  have h6 := congrArg (List.map strOf) h5
  rw [List.map_map] at h6
  have h7 : (strOf ∘ fun x : ByteArray => x.data.toList) = id := funext fun x => strOf_dataA x
  rw [h7, List.map_id] at h6
  rw [h6]
  unfold afterL
  simp

set_option maxRecDepth 20000 in
set_option maxHeartbeats 1000000 in
theorem splitAfter_c (w : World) (s : ByteArray) (hs : s.size ≤ 240) (hm : ∃ m, w.cell? ⟨Tryz.genSplit_ren.g 1, 0, none⟩ = some (.int .i64 m)) :
    Calls Tryz.prog 71 #[.string s, .string ⟨#[10]⟩] w (Ret w fun r w' => r = .slice (some ⟨w.heap.size, 0, none⟩) (s.data.toList.count 10 + 1) (s.data.toList.count 10 + 1) ∧ ∀ i, i < s.data.toList.count 10 + 1 → w'.cell? ⟨w.heap.size, i, none⟩ = some (.string ((afterL s.data.toList).getD i ⟨#[]⟩))) := by
  obtain ⟨m, hm⟩ := hm
  have hcl := Lib.countB_le ⟨#[10]⟩ (Nat.le_refl _) s.size s (Nat.le_refl _)
  have hcall := Go.Proofs.Any.strings_genSplit Tryz.genSplit (by kernel_rfl) s ⟨#[10]⟩ 1 (-1) (Lib.countB s ⟨#[10]⟩ + 1) m w (by omega) hm (Nat.le_refl _) (Nat.le_refl _) (by omega) (by omega) (by rw [if_pos (by omega)]; omega)
  rw [Nat.add_sub_cancel, splitB_lines, afterL_len, count_line] at hcall
  have hf : Lib.cellsOf (afterL s.data.toList) (s.data.toList.count 10 + 1) = ((afterL s.data.toList).map Value.string).toArray := by rw [← afterL_len]; exact Lib.cellsOf_full _
  rw [hf] at hcall
  have HX : Hid (∀ (t : TypeId) i, i < s.data.toList.count 10 + 1 → (w.alloc (.cells ((afterL s.data.toList).map Value.string).toArray t)).cell? ⟨w.heap.size, i, none⟩ = some (.string ((afterL s.data.toList).getD i ⟨#[]⟩))) := fun t i hi => by
    rw [cell_of_row _ _ _ _ t (0, 0) (heap_alloc_new w _)]
    have hi2 : i < (afterL s.data.toList).length := by rw [afterL_len]; exact hi
    simp [hi2]
  have hc : Calls Tryz.prog 96 #[.string s, .string ⟨#[10]⟩, .int .i64 1, .int .i64 (-1)] w (Ret w fun r w' => r = .slice (some ⟨w.heap.size, 0, none⟩) (s.data.toList.count 10 + 1) (s.data.toList.count 10 + 1) ∧ ∀ i, i < s.data.toList.count 10 + 1 → w'.cell? ⟨w.heap.size, i, none⟩ = some (.string ((afterL s.data.toList).getD i ⟨#[]⟩))) :=
    hcall.mono (by
      rintro e w' ⟨rfl, rfl⟩
      exact ⟨_, rfl, ⟨rfl, HX.out _⟩, Ext.alloc _ _⟩)
  generalize s.data.toList.count 10 + 1 = n at *
  generalize afterL s.data.toList = L at *
  clear hcall hf HX hcl hm
  go_enter Tryz.func71, Tryz.ntmps71
  go_wp2_with fail
  refine Calls.mono hc ?_
  rintro e w1 hr
  obtain ⟨r, rfl, ⟨rfl, hx⟩, e1⟩ := ret_ext hr
  have HX := Lib.hid hx
  clear hr hc hx
  go_wp2_with fail
  go_ret
  exact ⟨_, rfl, ⟨rfl, HX.out⟩, e1⟩

open Go.ChangeShapes Go.WideShapes Go.ChangeAt Go.RowKit
set_option linter.unusedVariables false

theorem afterL_line {l : List UInt8} {i : Nat} (h : i < (lns l).length) : (afterL l).getD i ⟨#[]⟩ = strOf ((lns l).getD i [] ++ [10]) := by
  have h2 : i < ((lns l).map fun d => strOf (d ++ [10])).length := by rw [List.length_map]; exact h
  unfold afterL
  rw [List.getD_eq_getElem?_getD, List.getElem?_append_left h2, List.getElem?_map, List.getElem?_eq_getElem h, List.getD_eq_getElem?_getD, List.getElem?_eq_getElem h]
  rfl
theorem afterL_end {l : List UInt8} : (afterL l).getD (lns l).length ⟨#[]⟩ = strOf (linesTo 10 l).2 := by
  unfold afterL
  rw [List.getD_eq_getElem?_getD, List.getElem?_append_right (by rw [List.length_map]; exact Nat.le_refl _), List.length_map, Nat.sub_self]
  rfl
theorem after_same {a b : List UInt8} {k : Nat} (h : k < cp (lns a) (lns b)) : (afterL a).getD k ⟨#[]⟩ = (afterL b).getD k ⟨#[]⟩ := by
  have := cp_le (lns a) (lns b)
  rw [afterL_line (by omega), afterL_line (by omega), cp_same _ _ h]
theorem after_diff {a b : List UInt8} (ha : codeL a = 0) (hb : codeL b = 0) (h : a ≠ b) : (afterL a).getD (cp (lns a) (lns b)) ⟨#[]⟩ ≠ (afterL b).getD (cp (lns a) (lns b)) ⟨#[]⟩ := by
  have hle := cp_le (lns a) (lns b)
  have hf := cp_full (lns a) (lns b)
  by_cases h1 : cp (lns a) (lns b) < (lns a).length
  · by_cases h2 : cp (lns a) (lns b) < (lns b).length
    · have hd := cp_diff _ _ h1 h2
      rw [afterL_line h1, afterL_line h2]
      intro e
      exact hd (List.append_cancel_right (strOf_inj e))
    · have h3 : cp (lns a) (lns b) = (lns b).length := by omega
      rw [afterL_line h1, h3, afterL_end, codeL_open hb]
      intro e
      have := strOf_inj e
      simp at this
  · have h3 : cp (lns a) (lns b) = (lns a).length := by omega
    by_cases h2 : cp (lns a) (lns b) < (lns b).length
    · rw [afterL_line h2, h3, afterL_end, codeL_open ha]
      intro e
      have := strOf_inj e
      simp at this
    · exact absurd (lns_inj ha hb (hf h3 (by omega))) h

set_option maxRecDepth 20000 in
set_option maxHeartbeats 1000000 in
theorem SameChart_c (w : World) (s : ByteArray) (hs : s.size ≤ maxLen) (u : ByteArray) (hu : u.size ≤ maxLen) (hm : ∃ m, w.cell? ⟨Tryz.genSplit_ren.g 1, 0, none⟩ = some (.int .i64 m)) : Calls Tryz.prog 29 #[.string s, .string u] w (Ret w fun r _ => r = IntCode (sameC s.data.toList u.data.toList)) := by
  have H1 : Hid (codeL s.data.toList = 3 ∨ codeL u.data.toList = 3 → sameC s.data.toList u.data.toList = (0, 3)) := sameC_lim
  have H2 : Hid (codeL s.data.toList ≠ 0 ∨ codeL u.data.toList ≠ 0 → ¬ (codeL s.data.toList = 3 ∨ codeL u.data.toList = 3) → sameC s.data.toList u.data.toList = (0, 6)) := sameC_syn
  have HT1 : Hid (codeL s.data.toList = 3 ↔ 240 < s.size) := by show _ ↔ _; rw [← len_str]; exact codeL_three
  have HT2 : Hid (codeL u.data.toList = 3 ↔ 240 < u.size) := by show _ ↔ _; rw [← len_str]; exact codeL_three
  have HC1 := Lib.hid (fun (w' : World) => linesCode_c w' s hs)
  have HC2 := Lib.hid (fun (w' : World) => linesCode_c w' u hu)
  have HM : Hid (∀ w', Ext w w' → ∃ m, w'.cell? ⟨Tryz.genSplit_ren.g 1, 0, none⟩ = some (.int .i64 m)) := fun w' e => by
    obtain ⟨m, h⟩ := hm
    exact ⟨m, e.cell h⟩
  have HSp1 := Lib.hid (fun (h : s.size ≤ 240) (w' : World) (e : Ext w w') => splitAfter_c w' s h (HM.out w' e))
  have HSp2 := Lib.hid (fun (h : u.size ≤ 240) (w' : World) (e : Ext w w') => splitAfter_c w' u h (HM.out w' e))
  have HEq : Hid (codeL s.data.toList = 0 → codeL u.data.toList = 0 → s = u → sameC s.data.toList u.data.toList = (0, 0)) := fun h1 h2 e => sameC_eq h1 h2 (by rw [e])
  have HNe : Hid (codeL s.data.toList = 0 → codeL u.data.toList = 0 → s ≠ u → sameC s.data.toList u.data.toList = (((cp (lns s.data.toList) (lns u.data.toList) : Nat) : Int) + 1, 0)) := fun h1 h2 e => sameC_ne h1 h2 (fun q => e (ByteArray.ext (Array.toList_inj.1 (lns_inj h1 h2 q))))
  have HSame : Hid (∀ k, k < cp (lns s.data.toList) (lns u.data.toList) → (afterL s.data.toList).getD k ⟨#[]⟩ = (afterL u.data.toList).getD k ⟨#[]⟩) := fun k h => after_same h
  have HDiff : Hid (codeL s.data.toList = 0 → codeL u.data.toList = 0 → s ≠ u → (afterL s.data.toList).getD (cp (lns s.data.toList) (lns u.data.toList)) ⟨#[]⟩ ≠ (afterL u.data.toList).getD (cp (lns s.data.toList) (lns u.data.toList)) ⟨#[]⟩) := fun h1 h2 e => after_diff h1 h2 (fun q => e (ByteArray.ext (Array.toList_inj.1 q)))
  have HLe : Hid (cp (lns s.data.toList) (lns u.data.toList) ≤ s.data.toList.count 10 ∧ cp (lns s.data.toList) (lns u.data.toList) ≤ u.data.toList.count 10) := by
    have := cp_le (lns s.data.toList) (lns u.data.toList)
    unfold lns at *
    rw [linesTo_count, linesTo_count] at this
    exact this
  have HN1 : Hid (codeL s.data.toList = 0 → s.data.toList.count 10 ≤ 240) := count_code
  have HN2 : Hid (codeL u.data.toList = 0 → u.data.toList.count 10 ≤ 240) := count_code
  have HV1 := Lib.hid (codeL_val s.data.toList)
  generalize sameC s.data.toList u.data.toList = res at *
  generalize codeL s.data.toList = c1 at *
  generalize codeL u.data.toList = c2 at *
  generalize s.data.toList.count 10 = n1 at *
  generalize u.data.toList.count 10 = n2 at *
  generalize cp (lns s.data.toList) (lns u.data.toList) = K at *
  generalize afterL s.data.toList = X at *
  generalize afterL u.data.toList = Y at *
  clear hs hu hm
  by_cases hb1 : 240 < s.size
  · have HH := Lib.hid (H1.out (.inl (HT1.out.2 hb1)))
    have t1 : decide ((240 : Int) < (s.size : Int)) = true := decide_eq_true (by omega)
    go_enter Tryz.func29, Tryz.ntmps29
    go_wp2_with fail
    go_ret2
    exact ⟨_, rfl, IntCode_mk HH.out, Ext.refl _⟩
  · have t1 : decide ((240 : Int) < (s.size : Int)) = false := decide_eq_false (by omega)
    by_cases hb2 : 240 < u.size
    · have HH := Lib.hid (H1.out (.inr (HT2.out.2 hb2)))
      have t2 : decide ((240 : Int) < (u.size : Int)) = true := decide_eq_true (by omega)
      go_enter Tryz.func29, Tryz.ntmps29
      go_wp2_with fail
      go_ret2
      exact ⟨_, rfl, IntCode_mk HH.out, Ext.refl _⟩
    · have t2 : decide ((240 : Int) < (u.size : Int)) = false := decide_eq_false (by omega)
      have hz1 : s.size ≤ 240 := by omega
      have hz2 : u.size ≤ 240 := by omega
      have hn31 : ¬ (c1 = 3 ∨ c2 = 3) := fun h => h.elim (fun h => hb1 (HT1.out.1 h)) (fun h => hb2 (HT2.out.1 h))
      have HS1 := Lib.hid (HSp1.out hz1)
      have HS2 := Lib.hid (HSp2.out hz2)
      clear HSp1 HSp2 HT1 HT2 hb1 hb2 H1 HM
      go_enter Tryz.func29, Tryz.ntmps29
      go_wp2_with fail
      refine Calls.mono (HC1.out w) ?_
      rintro e wq ⟨rfl, hw⟩
      have hw := hw.symm
      subst hw
      by_cases h10 : c1 = 0
      · subst h10
        go_wp2_with fail
        refine Calls.mono (HC2.out _) ?_
        rintro e wq ⟨rfl, hw⟩
        have hw := hw.symm
        subst hw
        by_cases h20 : c2 = 0
        · subst h20
          by_cases hsu : s = u
          · have HH := Lib.hid (HEq.out (by trivial) (by trivial) hsu)
            have t3 : (s.toList == u.toList) = true := by rw [hsu]; exact beq_self_eq_true _
            clear HEq HNe HSame HDiff H2 HS1 HS2 hsu hn31
            go_wp2_with fail
            go_ret2
            exact ⟨_, rfl, IntCode_mk HH.out, Ext.refl _⟩
          · have HH := Lib.hid (HNe.out (by trivial) (by trivial) hsu)
            have HDf := Lib.hid (HDiff.out (by trivial) (by trivial) hsu)
            have hl1 := HN1.out (by trivial)
            have hl2 := HN2.out (by trivial)
            have t3 : (s.toList == u.toList) = false := by
              rw [beq_eq_false_iff_ne]
              intro e
              rw [ByteArray.toList_eq, ByteArray.toList_eq] at e
              exact hsu (ByteArray.ext (Array.toList_inj.1 e))
            clear HEq HNe HDiff H2 hsu hn31 HN1 HN2 HC1 HC2
            go_wp2_with fail
            refine Calls.mono (HS1.out _ (Ext.refl _)) ?_
            rintro e w1 hr
            obtain ⟨r, rfl, ⟨rfl, hx⟩, e1⟩ := ret_ext hr
            clear hr
            have Hx := Lib.hid hx
            clear hx
            go_wp2_with fail
            refine Calls.mono (HS2.out _ e1) ?_
            rintro e w2 hr
            obtain ⟨r, rfl, ⟨rfl, hy⟩, e2⟩ := ret_ext hr
            clear hr
            have Hy := Lib.hid hy
            have HE2 := Lib.hid e2
            have HE := Lib.hid (e1.trans e2)
            clear hy e1 e2 HS1 HS2
            go_wp2_with fail
            go_loopw [8] (fun s wr => ∃ k : Nat, k ≤ K ∧ s = .int .i64 k ∧ Ext w2 wr) (fun s _ => K - (intOf s).toNat)
            case atStart => exact ⟨0, Nat.zero_le _, rfl, Ext.refl _⟩
            case round =>
              obtain ⟨k, hk, rfl, ew⟩ := hrel
              have hL := HLe.out
              have hk1 : k < n1 + 1 := by omega
              have hk2 : k < n2 + 1 := by omega
              have hk240 : k ≤ 240 := by omega
              have d1 := ew.cell (HE2.out.cell (Hx.out k hk1))
              have d2 := ew.cell (Hy.out k hk2)
              have Hew := Lib.hid ew
              by_cases hlt : k < K
              · have hsm := HSame.out k hlt
                rw [← hsm] at d2
                have Hlt := Lib.hid hlt
                generalize X.getD k ⟨#[]⟩ = x at *
                clear hL ew hlt hk hsm
                go_wp2_with fail
                go_quiet (fail)
                go_wp2_with fail
                go_roundw
                case rel => exact ⟨k + 1, Hlt.out, by go_num, Hew.out.trans (Ext.drewN _ _)⟩
                case measure => have := Hlt.out; simp [intOf]; omega
              · have hke : k = K := by omega
                have HH2 : Hid (res = ((k : Int) + 1, 0)) := by show _ = _; rw [hke]; exact HH.out
                have hdf := HDf.out
                rw [← hke] at hdf
                generalize X.getD k ⟨#[]⟩ = x at *
                generalize Y.getD k ⟨#[]⟩ = y at *
                have t5 : (x.toList == y.toList) = false := by
                  rw [beq_eq_false_iff_ne]
                  intro e
                  rw [ByteArray.toList_eq, ByteArray.toList_eq] at e
                  exact hdf (ByteArray.ext (Array.toList_inj.1 e))
                clear hL ew hlt hk hke hdf HSame HDf HH
                go_wp2_with fail
                go_quiet (fail)
                go_wp2_with fail
                go_ret2
                exact ⟨_, rfl, IntCode_mk HH2.out, HE.out.trans (Hew.out.trans (Ext.drewN _ _))⟩
        · have HH := Lib.hid (H2.out (.inr h20) hn31)
          have t3 : (c2 != 0) = true := by rw [bne_iff_ne]; exact h20
          clear H2 h20 hn31 HEq HNe HDiff
          go_wp2_with fail
          go_ret2
          exact ⟨_, rfl, IntCode_mk HH.out, Ext.refl _⟩
      · have HH := Lib.hid (H2.out (.inl h10) hn31)
        have t3 : (c1 != 0) = true := by rw [bne_iff_ne]; exact h10
        clear H2 h10 hn31 HEq HNe HDiff
        go_wp2_with fail
        go_ret2
        exact ⟨_, rfl, IntCode_mk HH.out, Ext.refl _⟩

open Go.ChangeShapes Go.WideShapes Go.ChangeAt Go.RowKit
set_option linter.unusedVariables false

set_option maxRecDepth 20000 in
set_option maxHeartbeats 1000000 in
theorem SameChartSpec_c (w : World) (s : ByteArray) (hs : s.size ≤ maxLen) (u : ByteArray) (hu : u.size ≤ maxLen) : Calls Tryz.prog 30 #[.string s, .string u] w (Ret w fun r _ => r = IntCode (sameC s.data.toList u.data.toList)) := by
  have H1 : Hid (codeL s.data.toList = 3 ∨ codeL u.data.toList = 3 → sameC s.data.toList u.data.toList = (0, 3)) := sameC_lim
  have H2 : Hid (codeL s.data.toList ≠ 0 ∨ codeL u.data.toList ≠ 0 → ¬ (codeL s.data.toList = 3 ∨ codeL u.data.toList = 3) → sameC s.data.toList u.data.toList = (0, 6)) := sameC_syn
  have H3 : Hid (codeL s.data.toList = 0 → codeL u.data.toList = 0 → lns s.data.toList = lns u.data.toList → sameC s.data.toList u.data.toList = (0, 0)) := sameC_eq
  have H4 : Hid (codeL s.data.toList = 0 → codeL u.data.toList = 0 → lns s.data.toList ≠ lns u.data.toList → sameC s.data.toList u.data.toList = (((cp (lns s.data.toList) (lns u.data.toList) : Nat) : Int) + 1, 0)) := sameC_ne
  have HC1 := Lib.hid (fun (w' : World) => l27Lines_c w' s hs)
  have HC2 := Lib.hid (fun (w' : World) => l27Lines_c w' u hu)
  have HA : Hid (s.data.toList.count 10 = (lns s.data.toList).length ∧ (codeL s.data.toList = 0 → s.data.toList.count 10 ≤ 240)) := ⟨(linesTo_count 10 _).symm, count_code⟩
  have HB : Hid (u.data.toList.count 10 = (lns u.data.toList).length ∧ (codeL u.data.toList = 0 → u.data.toList.count 10 ≤ 240)) := ⟨(linesTo_count 10 _).symm, count_code⟩
  have HLa : Hid (∀ i, (linesTo 10 s.data.toList).1.getD i [] = (lns s.data.toList).getD i []) := fun _ => rfl
  have HLb : Hid (∀ i, (linesTo 10 u.data.toList).1.getD i [] = (lns u.data.toList).getD i []) := fun _ => rfl
  unfold LinesRes at HC1 HC2
  generalize sameC s.data.toList u.data.toList = res at *
  generalize codeL s.data.toList = c1 at *
  generalize codeL u.data.toList = c2 at *
  generalize s.data.toList.count 10 = m1 at *
  generalize u.data.toList.count 10 = m2 at *
  generalize lns s.data.toList = A at *
  generalize lns u.data.toList = B at *
  clear hs hu
  go_enter Tryz.func30, Tryz.ntmps30
  go_wp2_with fail
  refine Calls.mono (HC1.out w) ?_
  rintro e w1 hr
  obtain ⟨r, rfl, ⟨a1, n1, k1, rfl, hx1⟩, e1⟩ := ret_ext hr
  clear hr
  have Hx1 := Lib.hid hx1
  clear hx1
  go_wp2_with fail
  refine Calls.mono (HC2.out w1) ?_
  rintro e w2 hr
  obtain ⟨r, rfl, ⟨a2, n2, k2, rfl, hx2⟩, e2⟩ := ret_ext hr
  clear hr
  have Hx2 := Lib.hid hx2
  have HE := Lib.hid (e1.trans e2)
  have HE2 := Lib.hid e2
  clear hx2 e1 e2 HC1 HC2
  by_cases h10 : c1 = 0
  · by_cases h20 : c2 = 0
    · obtain ⟨q1, Hc1⟩ := Hx1.out h10
      obtain ⟨q2, Hc2⟩ := Hx2.out h20
      have H3' := Lib.hid (H3.out h10 h20)
      have H4' := Lib.hid (H4.out h10 h20)
      have hn1 : n1 ≤ 240 := by have := HA.out.2 h10; omega
      have hn2 : n2 ≤ 240 := by have := HB.out.2 h20; omega
      have HA1 : Hid (n1 = A.length) := by show _ = _; rw [q1]; exact HA.out.1
      have HB1 : Hid (n2 = B.length) := by show _ = _; rw [q2]; exact HB.out.1
      have HC1 : Hid (∀ i, i < n1 → ∃ b, a1 = some ⟨b, 0, none⟩ ∧ w2.cell? ⟨b, i, none⟩ = some (.string (strOf (A.getD i [])))) := fun i hi => by
        obtain ⟨b, h1, h2⟩ := Hc1 i hi
        exact ⟨b, h1, by rw [← HLa.out]; exact HE2.out.cell h2⟩
      have HC2 : Hid (∀ i, i < n2 → ∃ b, a2 = some ⟨b, 0, none⟩ ∧ w2.cell? ⟨b, i, none⟩ = some (.string (strOf (B.getD i [])))) := fun i hi => by
        obtain ⟨b, h1, h2⟩ := Hc2 i hi
        exact ⟨b, h1, by rw [← HLb.out]; exact h2⟩
      subst h10; subst h20
      clear q1 q2 Hc1 Hc2 H1 H2 H3 H4 Hx1 Hx2 HLa HLb HA HB
      have HcpA := Lib.hid (cp_le A B)
      go_wp2_with fail
      go_loopw [10] (fun s wr => ∃ k : Nat, k ≤ cp A B ∧ s = .int .i64 k ∧ Ext w2 wr) (fun s _ => cp A B - (intOf s).toNat)
      case atStart => exact ⟨0, Nat.zero_le _, rfl, Ext.refl _⟩
      case round =>
        obtain ⟨k, hk, rfl, ew⟩ := hrel
        have hk1 : k ≤ n1 := by have := HcpA.out.1; have := HA1.out; omega
        have hk2 : k ≤ n2 := by have := HcpA.out.2; have := HB1.out; omega
        have hk64 : k ≤ 240 := by omega
        by_cases hlt : k < cp A B
        · have h1 : k < n1 := by have := HcpA.out.1; have := HA1.out; omega
          have h2 : k < n2 := by have := HcpA.out.2; have := HB1.out; omega
          obtain ⟨b1, rfl, d1⟩ := HC1.out k h1
          obtain ⟨b2, rfl, d2⟩ := HC2.out k h2
          rw [← cp_same A B hlt] at d2
          replace d1 := ew.cell d1
          replace d2 := ew.cell d2
          generalize strOf (A.getD k []) = X at *
          have t1 : decide ((k : Int) < (n1 : Int)) = true := decide_eq_true (by omega)
          have t2 : decide ((k : Int) < (n2 : Int)) = true := decide_eq_true (by omega)
          have Hlt := Lib.hid hlt
          have Hew := Lib.hid ew
          clear hlt hk hk1 hk2 ew
          go_wp2_with fail
          go_quiet (fail)
          go_wp2_with fail
          go_roundw
          case rel => exact ⟨k + 1, Hlt.out, by go_num, Hew.out.trans (Ext.drewN _ _)⟩
          case measure => have := Hlt.out; simp [intOf]; omega
        · have hke : k = cp A B := by omega
          have Hke := Lib.hid hke
          have Hew := Lib.hid ew
          have hcases : (k = n1 ∧ k = n2 ∧ res = (0, 0)) ∨ (¬ (k = n1 ∧ k = n2) ∧ res = ((k : Int) + 1, 0)) := by
            by_cases hab : A = B
            · refine .inl ⟨?_, ?_, H3'.out hab⟩
              · rw [HA1.out, hke, hab, cp_self]
              · rw [HB1.out, hke, ← hab, cp_self]
            · refine .inr ⟨fun h => hab (cp_full A B (by rw [← hke, h.1]; exact HA1.out) (by rw [← hke, h.2]; exact HB1.out)), ?_⟩
              rw [H4'.out hab, hke]
          have HCs := Lib.hid hcases
          clear hcases
          by_cases h1 : k = n1
          · subst h1
            have t1 : decide ((k : Int) < (k : Int)) = false := decide_eq_false (by omega)
            clear hlt hk ew hke
            go_wp2_with fail
            go_quiet (fail)
            rcases HCs.out with ⟨-, h2, hres⟩ | ⟨h2, hres⟩
            · subst h2
              have HH := Lib.hid hres
              clear hres
              go_wp2_with fail
              go_ret2
              exact ⟨_, rfl, IntCode_mk HH.out, HE.out.trans (Hew.out.trans (Ext.drewN _ _))⟩
            · have t3 : ((k : Int) == (n2 : Int)) = false := by rw [beq_eq_false_iff_ne]; intro e; exact h2 ⟨by trivial, by omega⟩
              have HH := Lib.hid hres
              clear hres h2
              go_wp2_with fail
              go_ret2
              exact ⟨_, rfl, IntCode_mk HH.out, HE.out.trans (Hew.out.trans (Ext.drewN _ _))⟩
          · have h1' : k < n1 := by omega
            have t1 : decide ((k : Int) < (n1 : Int)) = true := decide_eq_true (by omega)
            have t4 : ((k : Int) == (n1 : Int)) = false := by rw [beq_eq_false_iff_ne]; omega
            have HH : Hid (res = ((k : Int) + 1, 0)) := by
              rcases HCs.out with ⟨h, -, -⟩ | ⟨-, hres⟩
              · exact absurd h h1
              · exact hres
            by_cases h2 : k = n2
            · subst h2
              have t2 : decide ((k : Int) < (k : Int)) = false := decide_eq_false (by omega)
              clear hlt hk ew hke
              go_wp2_with fail
              go_quiet (fail)
              go_wp2_with fail
              go_ret2
              exact ⟨_, rfl, IntCode_mk HH.out, HE.out.trans (Hew.out.trans (Ext.drewN _ _))⟩
            · have h2' : k < n2 := by omega
              have t2 : decide ((k : Int) < (n2 : Int)) = true := decide_eq_true (by omega)
              obtain ⟨b1, rfl, d1⟩ := HC1.out k h1'
              obtain ⟨b2, rfl, d2⟩ := HC2.out k h2'
              have hdf : strOf (A.getD k []) ≠ strOf (B.getD k []) := fun e => cp_diff A B (by rw [← hke, ← HA1.out]; exact h1') (by rw [← hke, ← HB1.out]; exact h2') (by rw [← hke]; exact strOf_inj e)
              replace d1 := ew.cell d1
              replace d2 := ew.cell d2
              generalize strOf (A.getD k []) = X at *
              generalize strOf (B.getD k []) = Y at *
              have t5 : (X.toList == Y.toList) = false := by
                rw [beq_eq_false_iff_ne]
                intro e
                rw [ByteArray.toList_eq, ByteArray.toList_eq] at e
                exact hdf (ByteArray.ext (Array.toList_inj.1 e))
              clear hlt hk ew hke hdf
              go_wp2_with fail
              go_quiet (fail)
              go_wp2_with fail
              go_ret2
              exact ⟨_, rfl, IntCode_mk HH.out, HE.out.trans (Hew.out.trans (Ext.drewN _ _))⟩
    · have hb2 : (c2 != 0) = true := by rw [bne_iff_ne]; exact h20
      by_cases h3 : c2 = 3
      · have HH := Lib.hid (H1.out (.inr h3))
        subst h10; subst h3
        clear H1 H2 H3 H4 Hx1 Hx2 hb2 h20
        go_wp2_with fail
        go_ret2
        exact ⟨_, rfl, IntCode_mk HH.out, HE.out⟩
      · have HH := Lib.hid (H2.out (.inr h20) (by omega))
        have hb3 : (c2 == 3) = false := by rw [beq_eq_false_iff_ne]; exact h3
        subst h10
        clear H1 H2 H3 H4 Hx1 Hx2 h20 h3
        go_wp2_with fail
        go_ret2
        exact ⟨_, rfl, IntCode_mk HH.out, HE.out⟩
  · have hb1 : (c1 != 0) = true := by rw [bne_iff_ne]; exact h10
    by_cases h3 : c1 = 3
    · have HH := Lib.hid (H1.out (.inl h3))
      subst h3
      clear H1 H2 H3 H4 Hx1 Hx2 hb1 h10
      go_wp2_with fail
      go_ret2
      exact ⟨_, rfl, IntCode_mk HH.out, HE.out⟩
    · have hb3 : (c1 == 3) = false := by rw [beq_eq_false_iff_ne]; exact h3
      by_cases h4 : c2 = 3
      · have HH := Lib.hid (H1.out (.inr h4))
        subst h4
        clear H1 H2 H3 H4 Hx1 Hx2 h10 h3
        go_wp2_with fail
        go_ret2
        exact ⟨_, rfl, IntCode_mk HH.out, HE.out⟩
      · have HH := Lib.hid (H2.out (.inl h10) (by omega))
        have hb4 : (c2 == 3) = false := by rw [beq_eq_false_iff_ne]; exact h4
        clear H1 H2 H3 H4 Hx1 Hx2 h10 h3 h4
        go_wp2_with fail
        go_ret2
        exact ⟨_, rfl, IntCode_mk HH.out, HE.out⟩

open Go.ChangeShapes Go.WideShapes Go.ChangeAt Go.RowKit
set_option linter.unusedVariables false

theorem big_c (w : World) (v : Value) (z : Zone) (xs : List Int) (h : BytesR z w v xs) : Calls Tryz.prog 27 #[v] w (RetQ w (.bool (decide (4096 < xs.length)))) := by
  obtain ⟨a, n, cap, rfl, hn, hmax, -⟩ := BytesR.shape h
  clear h
  have HH : Hid (decide ((4096 : Int) < (n : Int)) = decide (4096 < xs.length)) := by show _ = _; rw [← hn]; exact decide_eq_decide.2 (by omega)
  clear hn
  go_enter Tryz.func27, Tryz.ntmps27
  go_wp2_with fail
  go_ret
  exact ⟨ret_bool HH.out, Drew.refl _⟩
end Go.Proofs.YtpcgbfogkcbddaaGreatDoor
