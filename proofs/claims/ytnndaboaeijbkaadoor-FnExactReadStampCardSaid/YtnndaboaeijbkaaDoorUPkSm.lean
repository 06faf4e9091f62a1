/- Proved: the text of a stamp (plain); strings.Repeat, laid; the text of a stamp, the program; reading a stamp, the program; the text of a stamp, the reference; reading a stamp, the reference; whether a text is a stamp, both sides; where a key stands among all keys (plain); where a key stands, the reference; the key with a rank, the reference; the code of a maker, a series and a secret; StampOf and ReadStamp of the reference. -/
import Derived.Test.YtnndaboaeijbkaaDoorChecked
import Derived.Shelf.Strings.Repeat
import Derived.Shelf.Strings.BuilderX
import Derived.Ground.NamesProg
import Derived.Laws.Runes
import Derived.Deep.RegionHeld3
import Derived.Deep.RegionLaw
import Derived.Test.YtnndaboaeijbkaaDoorUPkW
import Derived.Test.YtnndaboaeijbkaaDoorUBase
import Derived.Test.YtnndaboaeijbkaaDoorUExt
import Derived.Test.YtnndaboaeijbkaaDoorUKeyEnum
import Derived.Test.YtnndaboaeijbkaaDoorUKeyBegins
import Derived.Test.YtnndaboaeijbkaaDoorUKeyFirst
import Derived.Test.YtnndaboaeijbkaaDoorUAllKey
namespace Go.Proofs.YtnndaboaeijbkaaDoor
open Go.ChangeShapes Go.WideShapes Go.ChangeAt Go.RowKit
set_option linter.unusedVariables false

theorem dec_mono : ∀ (m n : Nat), n ≤ m → (Lib.decDigits n).length ≤ (Lib.decDigits m).length := by
  intro m
  induction m using Nat.strongRecOn with
  | _ m ih =>
    intro n h
    by_cases h1 : n < 10
    · rw [dec_one h1]
      by_cases h2 : m < 10
      · rw [dec_one h2]; simp
      · rw [dec_more h2]; simp
    · rw [dec_more h1, dec_more (show ¬ m < 10 by omega), List.length_append, List.length_append]
      have := ih (m / 10) (by omega) (n / 10) (by omega)
      simp only [List.length_singleton]
      omega
theorem dec_pos (n : Nat) : 1 ≤ (Lib.decDigits n).length := by
  have h := dec_mono n 0 (Nat.zero_le _)
  rw [dec_one (show 0 < 10 by decide), List.length_singleton] at h
  exact h
theorem dec_le6 {n : Nat} (h : n ≤ 999999) : (Lib.decDigits n).length ≤ 6 := by
  refine Nat.le_trans (dec_mono 999999 n h) ?_
  rw [dec_more (by decide), dec_more (by decide), dec_more (by decide), dec_more (by decide), dec_more (by decide), dec_one (by decide)]
  simp
theorem dec_le2 {n : Nat} (h : n ≤ 99) : (Lib.decDigits n).length ≤ 2 := by
  refine Nat.le_trans (dec_mono 99 n h) ?_
  rw [dec_more (by decide), dec_one (by decide)]
  simp
theorem dec_digit (n : Nat) : ∀ x ∈ Lib.decDigits n, 48 ≤ x.toNat ∧ x.toNat ≤ 57 := by
  have h1 : ∀ k, k < 10 → 48 ≤ (UInt8.ofNat (48 + k)).toNat ∧ (UInt8.ofNat (48 + k)).toNat ≤ 57 := by
    intro k hk
    rw [UInt8.toNat_ofNat', Nat.mod_eq_of_lt (by omega)]
    omega
  induction n using Nat.strongRecOn with
  | _ n ih =>
    by_cases h : n < 10
    · rw [dec_one h]
      intro x hx
      rw [List.mem_singleton.1 hx]
      exact h1 n h
    · rw [dec_more h]
      intro x hx
      rcases List.mem_append.1 hx with hx | hx
      · exact ih (n / 10) (by omega) x hx
      · rw [List.mem_singleton.1 hx]
        exact h1 (n % 10) (Nat.mod_lt _ (by decide))
/-- a number with at least k digits -/
def padD (n k : Nat) : List UInt8 := List.replicate (k - (Lib.decDigits n).length) 48 ++ Lib.decDigits n
def padV (n k : Nat) : Value := .string ⟨(padD n k).toArray⟩
theorem padD_len {n k : Nat} (h : (Lib.decDigits n).length ≤ k) : (padD n k).length = k := by
  unfold padD
  rw [List.length_append, List.length_replicate]
  omega
theorem padD_digit {n k : Nat} : ∀ x ∈ padD n k, 48 ≤ x.toNat ∧ x.toNat ≤ 57 := by
  intro x hx
  unfold padD at hx
  rcases List.mem_append.1 hx with hx | hx
  · rw [(List.mem_replicate.1 hx).2]; decide
  · exact dec_digit n x hx
/-- a stamp: a letter, a number, a check number -/
def stampD (W ser num : Nat) : List UInt8 := UInt8.ofNat (65 + ser) :: (padD num W ++ 45 :: padD ((100 * num + ser) % 97) 2)
def stampV (W ser num : Nat) : Value := .string ⟨(stampD W ser num).toArray⟩
theorem stampD_len {W ser num : Nat} (h : (Lib.decDigits num).length ≤ W) : (stampD W ser num).length = W + 4 := by
  unfold stampD
  have h2 : (100 * num + ser) % 97 < 97 := Nat.mod_lt _ (by decide)
  rw [List.length_cons, List.length_append, List.length_cons, padD_len h, padD_len (dec_le2 (by omega))]
theorem stampD_digit {W ser num : Nat} (h : (Lib.decDigits num).length ≤ W) {i : Nat} (h1 : 1 ≤ i) (h2 : i ≤ W) : 48 ≤ ((stampD W ser num).getD i 0).toNat ∧ ((stampD W ser num).getD i 0).toNat ≤ 57 := by
  obtain ⟨j, rfl⟩ : ∃ j, i = j + 1 := ⟨i - 1, by omega⟩
  unfold stampD
  have hl := padD_len h
  have e : (UInt8.ofNat (65 + ser) :: (padD num W ++ 45 :: padD ((100 * num + ser) % 97) 2)).getD (j + 1) 0 = (padD num W)[j]'(by omega) := by
    rw [List.getD_cons_succ, List.getD_eq_getElem?_getD, List.getElem?_append_left (by omega), List.getElem?_eq_getElem (by omega)]
    rfl
  rw [e]
  exact padD_digit _ (List.getElem_mem _)
/-- byte i of a text -/
def byteN (s : List UInt8) (i : Nat) : Nat := (s.getD i 0).toNat
theorem byteN_lt (s : List UInt8) (i : Nat) : byteN s i < 256 := UInt8.toNat_lt _
/-- the number that bytes 1 to i tell -/
def numI (s : List UInt8) : Nat → Int
  | 0 => 0
  | i + 1 => numI s i * 10 + (byteN s (i + 1) : Int) - 48
theorem numI_succ (s : List UInt8) (i : Nat) : numI s (i + 1) = numI s i * 10 + (byteN s (i + 1) : Int) - 48 := rfl
theorem numI_in (s : List UInt8) : ∀ i, i ≤ 7 → -1000000000 ≤ numI s i ∧ numI s i ≤ 1000000000 := by
  have h : ∀ i, -6 * ((10 ^ i : Nat) : Int) + 6 ≤ numI s i ∧ numI s i ≤ 23 * ((10 ^ i : Nat) : Int) - 23 := by
    intro i
    induction i with
    | zero => constructor <;> simp [numI]
    | succ i ih =>
      have hb := byteN_lt s (i + 1)
      rw [numI_succ, Nat.pow_succ]
      omega
  intro i hi
  have h1 := h i
  have h2 : 10 ^ i ≤ 10 ^ 7 := Nat.pow_le_pow_right (by decide) hi
  have h3 : 10 ^ 7 = 10000000 := by decide
  omega
/-- whether a text is a stamp: W digits of the number N of the keys -/
def readB (W N : Nat) (s : List UInt8) : Bool :=
  decide (s.length = W + 4 ∧ 65 ≤ byteN s 0 ∧ byteN s 0 ≤ 90 ∧ 0 ≤ numI s W ∧ numI s W < N) && (stampD W (byteN s 0 - 65) (numI s W).toNat == s)
theorem readB_yes {W N : Nat} {s : List UInt8} (h : readB W N s = true) : s.length = W + 4 ∧ 65 ≤ byteN s 0 ∧ byteN s 0 ≤ 90 ∧ 0 ≤ numI s W ∧ numI s W < N ∧ stampD W (byteN s 0 - 65) (numI s W).toNat = s := by
  unfold readB at h
  rw [Bool.and_eq_true, decide_eq_true_iff, beq_iff_eq] at h
  obtain ⟨⟨h1, h2, h3, h4, h5⟩, h6⟩ := h
  exact ⟨h1, h2, h3, h4, h5, h6⟩
theorem readB_no {W N : Nat} {s : List UInt8} (h : ¬ (s.length = W + 4 ∧ 65 ≤ byteN s 0 ∧ byteN s 0 ≤ 90 ∧ 0 ≤ numI s W ∧ numI s W < N)) : readB W N s = false := by
  unfold readB; rw [decide_eq_false h]; rfl
theorem readB_is {W N : Nat} {s : List UInt8} (h : s.length = W + 4 ∧ 65 ≤ byteN s 0 ∧ byteN s 0 ≤ 90 ∧ 0 ≤ numI s W ∧ numI s W < N) : readB W N s = (stampD W (byteN s 0 - 65) (numI s W).toNat == s) := by
  unfold readB; rw [decide_eq_true h]; rfl
/-- a byte that is no digit -/
theorem readB_digit {W N : Nat} (hW : W = (Lib.decDigits N).length) {s : List UInt8} {i : Nat} (h1 : 1 ≤ i) (h2 : i ≤ W) (h : byteN s i < 48 ∨ 57 < byteN s i) : readB W N s = false := by
  cases hq : readB W N s with
  | false => rfl
  | true =>
    exfalso
    obtain ⟨-, -, -, h4, h5, h6⟩ := readB_yes hq
    have hd : (Lib.decDigits (numI s W).toNat).length ≤ W := by
      have h7 : (numI s W).toNat ≤ N := by omega
      have h8 := dec_mono N _ h7
      omega
    have := stampD_digit (ser := byteN s 0 - 65) hd h1 h2
    rw [h6] at this
    unfold byteN at h
    omega

open Go.ChangeShapes Go.WideShapes Go.ChangeAt Go.RowKit
set_option linter.unusedVariables false
open Go.Shelf

def Tryd.strRepeat_ren : Go.Shelf.Ren := ⟨fun | 105 => 59 | 212 => 66 | 99 => 67 | 165 => 68 | 166 => 69 | 170 => 70 | 169 => 71 | 263 => 78 | 264 => 79 | 206 => 80 | 240 => 81 | 241 => 82 | 276 => 90 | 277 => 91 | n => n, fun | 9 => 9 | 3 => 3 | 4 => 4 | 20 => 20 | 0 => 0 | 46 => 72 | 109 => 73 | 5 => 5 | 72 => 78 | 76 => 82 | 51 => 93 | 146 => 94 | 53 => 88 | 148 => 96 | 70 => 76 | 37 => 63 | 75 => 81 | 127 => 98 | 164 => 106 | 80 => 85 | n => n, fun | n => n⟩
theorem Tryd.strRepeat : Go.Proofs.Lays.n105 Tryd.prog Tryd.strRepeat_ren := {
  mixed := by kernel_rfl
  f99 := Tryd.func67.trans (congrArg some (by kernel_rfl))
  f105 := Tryd.func59.trans (congrArg some (by kernel_rfl))
  f165 := Tryd.func68.trans (congrArg some (by kernel_rfl))
  f166 := Tryd.func69.trans (congrArg some (by kernel_rfl))
  f169 := Tryd.func71.trans (congrArg some (by kernel_rfl))
  f170 := Tryd.func70.trans (congrArg some (by kernel_rfl))
  f206 := Tryd.func80.trans (congrArg some (by kernel_rfl))
  f212 := Tryd.func66.trans (congrArg some (by kernel_rfl))
  f240 := Tryd.func81.trans (congrArg some (by kernel_rfl))
  f241 := Tryd.func82.trans (congrArg some (by kernel_rfl))
  f263 := Tryd.func78.trans (congrArg some (by kernel_rfl))
  f264 := Tryd.func79.trans (congrArg some (by kernel_rfl))
  f276 := Tryd.func90.trans (congrArg some (by kernel_rfl))
  f277 := Tryd.func91.trans (congrArg some (by kernel_rfl))
  t0 := Tryd.underlying0
  a0 := Tryd.isAgg0
  z0 := Tryd.sizeOf0
  v0 := Tryd.zeroValue0
  t3 := Tryd.underlying3
  a3 := Tryd.isAgg3
  z3 := Tryd.sizeOf3
  v3 := Tryd.zeroValue3
  t4 := Tryd.underlying4
  a4 := Tryd.isAgg4
  z4 := Tryd.sizeOf4
  v4 := Tryd.zeroValue4
  t5 := Tryd.underlying5
  a5 := Tryd.isAgg5
  z5 := Tryd.sizeOf5
  v5 := Tryd.zeroValue5
  t9 := Tryd.underlying9
  a9 := Tryd.isAgg9
  z9 := Tryd.sizeOf9
  v9 := Tryd.zeroValue9
  t20 := Tryd.underlying20
  a20 := Tryd.isAgg20
  z20 := Tryd.sizeOf20
  v20 := Tryd.zeroValue20
  t37 := Tryd.underlying63
  a37 := Tryd.isAgg63
  z37 := Tryd.sizeOf63
  v37 := Tryd.zeroValue63
  t46 := Tryd.underlying72
  a46 := Tryd.isAgg72
  z46 := Tryd.sizeOf72
  v46 := Tryd.zeroValue72
  t51 := Tryd.underlying93
  a51 := Tryd.isAgg93
  z51 := Tryd.sizeOf93
  v51 := Tryd.zeroValue93
  t53 := Tryd.underlying88
  a53 := Tryd.isAgg88
  z53 := Tryd.sizeOf88
  v53 := Tryd.zeroValue88
  t70 := Tryd.underlying76
  a70 := Tryd.isAgg76
  z70 := Tryd.sizeOf76
  v70 := Tryd.zeroValue76
  t72 := Tryd.underlying78
  a72 := Tryd.isAgg78
  z72 := Tryd.sizeOf78
  v72 := Tryd.zeroValue78
  t75 := Tryd.underlying81
  a75 := Tryd.isAgg81
  z75 := Tryd.sizeOf81
  v75 := Tryd.zeroValue81
  t76 := Tryd.underlying82
  a76 := Tryd.isAgg82
  z76 := Tryd.sizeOf82
  v76 := Tryd.zeroValue82
  t109 := Tryd.underlying73
  a109 := Tryd.isAgg73
  z109 := Tryd.sizeOf73
  v109 := Tryd.zeroValue73
  t127 := Tryd.underlying98
  a127 := Tryd.isAgg98
  z127 := Tryd.sizeOf98
  v127 := Tryd.zeroValue98
  t146 := Tryd.underlying94
  a146 := Tryd.isAgg94
  z146 := Tryd.sizeOf94
  v146 := Tryd.zeroValue94
  t148 := Tryd.underlying96
  a148 := Tryd.isAgg96
  z148 := Tryd.sizeOf96
  v148 := Tryd.zeroValue96
  t164 := Tryd.underlying106
  a164 := Tryd.isAgg106
  z164 := Tryd.sizeOf106
  v164 := Tryd.zeroValue106 }
theorem Tryd.strBuilder : Go.Proofs.Builder.Extra Tryd.prog Tryd.strRepeat_ren where
  sizeBuilder := by kernel_rfl
  liesBuilder := by kernel_rfl
  t5 := Tryd.underlying5
  a5 := Tryd.isAgg5
  z5 := Tryd.sizeOf5
  v5 := Tryd.zeroValue5
  infoByte := by kernel_rfl
  cellsByte := by kernel_rfl
  sizeByte := by kernel_rfl
  neB5 := by decide
theorem repeat48 (n : Nat) : Lib.repeatL [48] n = List.replicate n 48 := by
  have := Lib.repeatL_replicate 48 1 n
  rw [Nat.mul_one] at this
  exact this
theorem rep_c (w : World) (n : Nat) (h : n ≤ 1000000) : Calls Tryd.prog 59 #[.string ⟨#[48]⟩, .int .i64 (n : Nat)] w (Ret w fun r _ => r = .string ⟨(List.replicate n 48).toArray⟩) := by
  refine (Go.Proofs.Any.strings_Repeat Tryd.strRepeat Tryd.strBuilder ⟨#[48]⟩ n w (by omega) (by show 1 * n ≤ _; omega)).mono ?_
  rintro e w' ⟨rfl, hb⟩
  refine ⟨_, rfl, ?_, hb⟩
  show Value.string ⟨(Lib.repeatL [48] n).toArray⟩ = _
  rw [repeat48]

open Go.ChangeShapes Go.WideShapes Go.ChangeAt Go.RowKit
set_option linter.unusedVariables false

theorem padV_cat (n k : Nat) : padV n k = .string ((⟨(List.replicate (k - (Lib.decDigits n).length) 48).toArray⟩ : ByteArray) ++ ⟨(Lib.decDigits n).toArray⟩) := by
  unfold padV padD
  congr 1

set_option maxRecDepth 20000 in
set_option maxHeartbeats 1000000 in
theorem digitsText_c (w : World) (hT : Pow10 w) (n k : Nat) (h : n ≤ 1000000000) (hk : k ≤ 1000000) : Calls Tryd.prog 43 #[.int .i64 (n : Nat), .int .i64 (k : Nat)] w (Ret w fun r _ => r = padV n k) := by
  have HF := Lib.hid (text_c w hT n h)
  have HR := Lib.hid (fun (w' : World) => rep_c w' (k - (Lib.decDigits n).length) (by omega))
  have hL := dec_len n
  have HP := Lib.hid (padV_cat n k)
  unfold numText at HF
  obtain ⟨tx, htx⟩ : ∃ tx : ByteArray, ⟨(Lib.decDigits n).toArray⟩ = tx := ⟨_, rfl⟩
  obtain ⟨rx, hrx⟩ : ∃ rx : ByteArray, ⟨(List.replicate (k - (Lib.decDigits n).length) 48).toArray⟩ = rx := ⟨_, rfl⟩
  have htz : tx.size = (Lib.decDigits n).length := by rw [← htx]; show (Lib.decDigits n).toArray.size = _; simp
  have hrz : rx.size = k - (Lib.decDigits n).length := by rw [← hrx]; show (List.replicate _ (48 : UInt8)).toArray.size = _; simp
  rw [htx] at HF HP
  rw [hrx] at HR HP
  clear htx hrx hT
  generalize padV n k = res at *
  generalize (Lib.decDigits n).length = L at *
  have hsum : ¬ (9223372036854775807 < rx.size + tx.size) := by omega
  by_cases hle : L ≤ k
  · obtain ⟨d, hd⟩ : ∃ d, d = k - L := ⟨_, rfl⟩
    rw [← hd] at HR
    have hwr : IntKind.i64.wrap ((k : Int) - (tx.size : Int)) = (d : Int) := by rw [IntWalk.i64_in _ (by omega)]; omega
    have hmx : (if (d : Int) > 0 then (d : Int) else 0) = (d : Int) := by split <;> omega
    have hm2 : (if 0 < d then (d : Int) else 0) = (d : Int) := by split <;> omega
    clear hd htz hrz hle hL h hk
    go_enter Tryd.func43, Tryd.ntmps43
    go_wp2_with fail
    refine Calls.mono HF.out ?_
    rintro e w1 hr
    obtain ⟨r, rfl, rfl, e1⟩ := ret_ext hr
    clear hr
    go_wp2_with fail
    refine Calls.mono (HR.out w1) ?_
    rintro e w2 hr
    obtain ⟨r, rfl, rfl, e2⟩ := ret_ext hr
    clear hr
    go_wp2_with fail
    go_ret
    exact ⟨_, rfl, HP.out.symm, e1.trans e2⟩
  · have hd : ((k - L : Nat) : Int) = 0 := by omega
    rw [hd] at HR
    have hwr : IntKind.i64.wrap ((k : Int) - (tx.size : Int)) = (k : Int) - (tx.size : Int) := by rw [IntWalk.i64_in _ (by omega)]
    have hmx : max 0 ((k : Int) - (L : Int)) = 0 := by omega
    clear hd hrz hL h hk hle
    go_enter Tryd.func43, Tryd.ntmps43
    go_wp2_with fail
    refine Calls.mono HF.out ?_
    rintro e w1 hr
    obtain ⟨r, rfl, rfl, e1⟩ := ret_ext hr
    clear hr
    go_wp2_with fail
    refine Calls.mono (HR.out w1) ?_
    rintro e w2 hr
    obtain ⟨r, rfl, rfl, e2⟩ := ret_ext hr
    clear hr
    go_wp2_with fail
    go_ret
    exact ⟨_, rfl, HP.out.symm, e1.trans e2⟩

theorem letter_enc {m : Nat} (h : m ≤ 25) : Utf8.encode (65 + (m : Int)) = ⟨#[UInt8.ofNat (65 + m)]⟩ := by
  unfold Utf8.encode
  have hv : Utf8.valid (65 + (m : Int)) = true := by unfold Utf8.valid; simp; omega
  rw [hv]
  have ht : (65 + (m : Int)).toNat = 65 + m := by omega
  simp only [ht, if_true]
  rw [if_pos (by omega)]
theorem stampV_cat (W ser num : Nat) : ∃ a b c : ByteArray, (⟨#[UInt8.ofNat (65 + ser)]⟩ : ByteArray) = a ∧ padV num W = .string b ∧ padV ((100 * num + ser) % 97) 2 = .string c ∧ b.size = (padD num W).length ∧ c.size = (padD ((100 * num + ser) % 97) 2).length ∧ stampV W ser num = .string (((a ++ b) ++ ⟨#[45]⟩) ++ c) := by
  refine ⟨_, ⟨(padD num W).toArray⟩, ⟨(padD ((100 * num + ser) % 97) 2).toArray⟩, rfl, rfl, rfl, by simp [ByteArray.size], by simp [ByteArray.size], ?_⟩
  unfold stampV stampD
  congr 1
  apply ByteArray.ext
  rw [ByteArray.data_append, ByteArray.data_append, ByteArray.data_append]
  apply Array.toList_inj.1
  simp
theorem checkOf_c (w : World) (ser num : Nat) (hs : ser ≤ 25) (hn : num ≤ 1000000) : Calls Tryd.prog 44 #[.int .i64 (ser : Int), .int .i64 (num : Int)] w (RetQ w (.int .i64 (((100 * num + ser) % 97 : Nat) : Int))) := by
  have h1 : IntKind.i64.wrap (100 * (num : Int)) = 100 * (num : Int) := IntWalk.i64_in _ (by omega)
  have h2 : IntKind.i64.wrap (100 * (num : Int) + (ser : Int)) = 100 * (num : Int) + (ser : Int) := IntWalk.i64_in _ (by omega)
  have h3 : (100 * (num : Int) + (ser : Int)).tmod 97 = (((100 * num + ser) % 97 : Nat) : Int) := by rw [Int.tmod_eq_emod_of_nonneg (by omega)]; omega
  have h4 : IntKind.i64.wrap (((100 * num + ser) % 97 : Nat) : Int) = (((100 * num + ser) % 97 : Nat) : Int) := IntWalk.i64_in _ (by omega)
  go_enter Tryd.func44, Tryd.ntmps44
  go_wp2_with fail
  go_ret
  refine ⟨?_, Drew.refl _⟩
  show Ending.returned (Value.int .i64 ((100 * (num : Int) + (ser : Int)) % 97)) = _
  rw [show (100 * (num : Int) + (ser : Int)) % 97 = (((100 * num + ser) % 97 : Nat) : Int) by omega]

set_option maxRecDepth 20000 in
set_option maxHeartbeats 1000000 in
theorem stampText_c (w : World) (hT : Pow10 w) (N ser num : Nat) (hN : N ≤ 262144) (hs : ser ≤ 25) (hn : num ≤ 262144) : Calls Tryd.prog 29 #[.int .i64 (N : Int), .int .i64 (ser : Int), .int .i64 (num : Int)] w (Ret w fun r _ => r = stampV (Lib.decDigits N).length ser num) := by
  have HTx := Lib.hid (fun (w' : World) (e : Ext w w') => text_c w' (hT.ext e) N (by omega))
  have HD1 := Lib.hid (fun (w' : World) (e : Ext w w') => digitsText_c w' (hT.ext e) num (Lib.decDigits N).length (by omega) (by have := dec_le6 (n := N) (by omega); omega))
  have HD2 := Lib.hid (fun (w' : World) (e : Ext w w') => digitsText_c w' (hT.ext e) ((100 * num + ser) % 97) 2 (by omega) (by omega))
  have HC := Lib.hid (fun (w' : World) => checkOf_c w' ser num hs (by omega))
  have henc := letter_enc hs
  have hW6 := dec_le6 (n := N) (by omega)
  have hpl : (padD num (Lib.decDigits N).length).length ≤ 10 := by
    have h6 := dec_le6 (n := num) (by omega)
    unfold padD; rw [List.length_append, List.length_replicate]; omega
  have hcl : (padD ((100 * num + ser) % 97) 2).length ≤ 2 := by
    have h6 := dec_le2 (n := (100 * num + ser) % 97) (by omega)
    unfold padD; rw [List.length_append, List.length_replicate]; omega
  obtain ⟨a, b, c, ha, hb, hc, hbz, hcz, hst⟩ := stampV_cat (Lib.decDigits N).length ser num
  have haz : a.size = 1 := by rw [← ha]; rfl
  obtain ⟨tx, htx, htz⟩ := num_len N
  rw [htx] at HTx
  rw [hb] at HD1
  rw [hc] at HD2
  rw [ha] at henc
  have HS := Lib.hid hst
  clear ha hb hc htx hst hT
  generalize stampV (Lib.decDigits N).length ser num = res at *
  generalize (Lib.decDigits N).length = W at *
  generalize (100 * num + ser) % 97 = ck at *
  have h2c : ((2 : Nat) : Int) = 2 := rfl
  rw [h2c] at HD2
  have h1 : IntKind.i64.wrap (65 + (ser : Int)) = 65 + (ser : Int) := IntWalk.i64_in _ (by omega)
  have h1r : IntKind.i32.wrap (65 + (ser : Int)) = 65 + (ser : Int) := IntWalk.i32_in _ (by omega)
  have hs1 : ¬ (9223372036854775807 < a.size + b.size) := by omega
  have hs2 : ¬ (9223372036854775807 < a.size + b.size + 1) := by omega
  have hs3 : ¬ (9223372036854775807 < a.size + b.size + 1 + c.size) := by omega
  rw [← htz] at HD1
  clear hpl hcl hbz hcz haz h2c hW6 hN hn hs htz
  go_enter Tryd.func29, Tryd.ntmps29
  go_wp2_with fail
  refine Calls.mono (HTx.out w (Ext.refl _)) ?_
  rintro e w1 hr
  obtain ⟨r, rfl, rfl, e1⟩ := ret_ext hr
  clear hr
  go_wp2_with fail
  refine Calls.mono (HD1.out w1 e1) ?_
  rintro e w2 hr
  obtain ⟨r, rfl, rfl, e2⟩ := ret_ext hr
  clear hr
  have et2 := e1.trans e2
  go_wp2_with fail
  refine Calls.mono (HC.out w2) ?_
  rintro e w3 hr
  obtain ⟨rfl, -, e3⟩ := retq_ext hr
  clear hr
  have et3 := et2.trans e3
  go_wp2_with fail
  refine Calls.mono (HD2.out w3 et3) ?_
  rintro e w4 hr
  obtain ⟨r, rfl, rfl, e4⟩ := ret_ext hr
  clear hr
  have et4 := et3.trans e4
  go_wp2_with fail
  go_ret
  exact ⟨_, rfl, HS.out.symm, et4⟩

open Go.ChangeShapes Go.WideShapes Go.ChangeAt Go.RowKit
set_option linter.unusedVariables false

/-- what reading a text as a stamp gives -/
def ReadRes (W N : Nat) (l : List UInt8) (r : Value) : Prop := ∃ a b : Int, r = .tuple #[.int .i64 a, .int .i64 b, .bool (readB W N l)] ∧ (readB W N l = true → a = (byteN l 0 : Int) - 65 ∧ b = numI l W)
theorem readRes_no {W N : Nat} {l : List UInt8} (h : readB W N l = false) (a b : Int) : ReadRes W N l (.tuple #[.int .i64 a, .int .i64 b, .bool false]) := ⟨a, b, by rw [h], fun h2 => by rw [h] at h2; cases h2⟩
theorem readRes_is {W N : Nat} {l : List UInt8} {q : Bool} (h : readB W N l = q) {a b : Int} (ha : a = (byteN l 0 : Int) - 65) (hb : b = numI l W) : ReadRes W N l (.tuple #[.int .i64 a, .int .i64 b, .bool q]) := ⟨a, b, by rw [h], fun _ => ⟨ha, hb⟩⟩
theorem len_bytes (s : ByteArray) : s.data.toList.length = s.size := by rw [Array.length_toList]; rfl
theorem byte_at {s : ByteArray} {i : Nat} (h : i < s.size) : s[i].toNat = byteN s.data.toList i := by
  unfold byteN
  have h2 : i < s.data.toList.length := by rw [len_bytes]; exact h
  rw [List.getD_eq_getElem?_getD, List.getElem?_eq_getElem h2]
  rfl
theorem stampV_eq {W a b : Nat} {s st : ByteArray} (h : stampV W a b = .string st) : (st.toList == s.toList) = (stampD W a b == s.data.toList) := by
  unfold stampV at h
  injection h with h
  rw [← h, ByteArray.toList_mk, ByteArray.toList_eq]

set_option maxRecDepth 20000 in
set_option maxHeartbeats 1000000 in
theorem readStamp_c (w : World) (hT : Pow10 w) (N : Nat) (hN : N ≤ 262144) (s : ByteArray) (hs : s.size ≤ maxLen) :
    Calls Tryd.prog 23 #[.int .i64 (N : Int), .string s] w (Ret w fun r _ => ReadRes (Lib.decDigits N).length N s.data.toList r) := by
  have HTx := Lib.hid (text_c w hT N (by omega))
  have HSt := Lib.hid (fun (w' : World) (e : Ext w w') (a b : Nat) (ha : a ≤ 25) (hb : b ≤ 262144) => stampText_c w' (hT.ext e) N a b hN ha hb)
  have HCm := Lib.hid (fun (a b : Nat) (st : ByteArray) (h : stampV (Lib.decDigits N).length a b = .string st) => stampV_eq (s := s) h)
  have HV : Hid (∀ W a b, ∃ st, stampV W a b = .string st) := fun W a b => ⟨_, rfl⟩
  have hl := len_bytes s
  have HNo := Lib.hid (fun h => readB_no (W := (Lib.decDigits N).length) (N := N) (s := s.data.toList) h)
  have HIs := Lib.hid (fun h => readB_is (W := (Lib.decDigits N).length) (N := N) (s := s.data.toList) h)
  have HB := fun (i : Nat) (h : i < s.size) => byte_at h
  have HBl := Lib.hid (fun i => byteN_lt s.data.toList i)
  have HI := Lib.hid (fun i => numI_in s.data.toList i)
  have HIs2 := Lib.hid (fun i => numI_succ s.data.toList i)
  have HI0 : Hid (numI s.data.toList 0 = 0) := rfl
  have HRn := Lib.hid (fun (h : readB (Lib.decDigits N).length N s.data.toList = false) (a b : Int) => readRes_no h a b)
  have HRi := Lib.hid (fun (q : Bool) (h : readB (Lib.decDigits N).length N s.data.toList = q) (a b : Int) (ha : a = (byteN s.data.toList 0 : Int) - 65) (hb : b = numI s.data.toList (Lib.decDigits N).length) => readRes_is h ha hb)
  have hW6 : (Lib.decDigits N).length ≤ 6 := dec_le6 (by omega)
  rw [hl] at HNo HIs
  obtain ⟨tx, htx, htz⟩ := num_len N
  rw [htx] at HTx
  generalize readB (Lib.decDigits N).length N s.data.toList = q at *
  generalize ReadRes (Lib.decDigits N).length N s.data.toList = RR at *
  generalize hWW : (Lib.decDigits N).length = W at *
  generalize byteN s.data.toList = B at *
  generalize numI s.data.toList = nI at *
  generalize hL : s.data.toList = l at *
  clear hL hWW htx hT hl
  by_cases hsz : s.size = W + 4
  · have h0 : 0 < s.size := by omega
    have hb0 := HBl.out 0
    have hw4 : IntKind.i64.wrap ((W : Int) + 4) = (W : Int) + 4 := IntWalk.i64_in _ (by omega)
    have hne : ((s.size : Int) == (W : Int) + 4) = true := by rw [beq_iff_eq]; omega
    have hwb : ∀ i : Nat, IntKind.i64.wrap (B i : Int) = (B i : Int) := fun i => by have := HBl.out i; exact IntWalk.i64_in _ (by omega)
    have hw65 : IntKind.i64.wrap ((B 0 : Int) - 65) = (B 0 : Int) - 65 := IntWalk.i64_in _ (by omega)
    have Hsz := Lib.hid hsz
    clear hs
    go_enter Tryd.func23, Tryd.ntmps23
    go_wp2_with fail
    refine Calls.mono HTx.out ?_
    rintro e w1 hr
    obtain ⟨r, rfl, rfl, e1⟩ := ret_ext hr
    clear hr
    go_wp2_with fail
    go_loopw [9, 10] (fun s9 s10 wr => ∃ i j : Nat, s10 = .int .i64 (i : Int) ∧ s9 = .int .i64 (nI j) ∧ i = j + 1 ∧ j ≤ W ∧ Ext w wr) (fun _ s10 _ => W + 1 - (intOf s10).toNat)
    case atStart => exact ⟨1, 0, rfl, by rw [HI0.out], rfl, Nat.zero_le _, e1⟩
    case round =>
      obtain ⟨i, j, rfl, rfl, hij, hj, ew⟩ := hrel
      have Hij := Lib.hid hij
      have hin := HI.out j (by omega)
      by_cases hle : i ≤ W
      · have his : i < s.size := by omega
        have hbi := HBl.out i
        have hsucc := HIs2.out j
        rw [← hij] at hsucc
        have HS2 : Hid (nI i = nI j * 10 + (B i : Int) - 48) := hsucc
        have hwi : IntKind.i64.wrap ((i : Int) + 1) = (i : Int) + 1 := IntWalk.i64_in _ (by omega)
        have hw1 : IntKind.i64.wrap (nI j * 10) = nI j * 10 := IntWalk.i64_in _ (by omega)
        have hw2 : IntKind.i64.wrap (nI j * 10 + (B i : Int)) = nI j * 10 + (B i : Int) := IntWalk.i64_in _ (by omega)
        have hw3 : IntKind.i64.wrap (nI j * 10 + (B i : Int) - 48) = nI j * 10 + (B i : Int) - 48 := IntWalk.i64_in _ (by omega)
        clear hij hsucc hsz
        go_wp2_with fail
        go_roundw
        case measure => simp [intOf]; omega
        case rel => exact ⟨i + 1, i, by go_num, by rw [HS2.out], rfl, by omega, ew⟩
      · have hjW : j = W := by omega
        subst hjW
        have hgt : ¬ (i : Int) ≤ (j : Int) := by omega
        clear hij
        go_wp2_with fail
        refine Calls.mono (within_c wr ((B 0 : Int) - 65) 0 25) ?_
        rintro e w2 hr
        obtain ⟨rfl, hd2, g2⟩ := retq_ext hr
        clear hr
        have e2 := ew.trans g2
        cases h0 : inB ((B 0 : Int) - 65) 0 25 with
        | false =>
          have hno : ¬ (s.size = j + 4 ∧ 65 ≤ B 0 ∧ B 0 ≤ 90 ∧ 0 ≤ nI j ∧ nI j < N) := fun h => by
            have : inB ((B 0 : Int) - 65) 0 25 = true := inB_iff.2 (by omega)
            rw [h0] at this; cases this
          have HQ := Lib.hid (HRn.out (HNo.out hno) 0 0)
          go_wp2_with fail
          go_ret3
          exact ⟨_, rfl, HQ.out, e2⟩
        | true =>
          have h65 := inB_iff.1 h0
          have hwN : IntKind.i64.wrap ((N : Int) - 1) = (N : Int) - 1 := IntWalk.i64_in _ (by omega)
          go_wp2_with fail
          refine Calls.mono (within_c w2 (nI j) 0 ((N : Int) - 1)) ?_
          rintro e w3 hr
          obtain ⟨rfl, hd3, g3⟩ := retq_ext hr
          clear hr
          have e3 := e2.trans g3
          cases h1 : inB (nI j) 0 ((N : Int) - 1) with
          | false =>
            have hno : ¬ (s.size = j + 4 ∧ 65 ≤ B 0 ∧ B 0 ≤ 90 ∧ 0 ≤ nI j ∧ nI j < N) := fun h => by
              have : inB (nI j) 0 ((N : Int) - 1) = true := inB_iff.2 (by omega)
              rw [h1] at this; cases this
            have HQ := Lib.hid (HRn.out (HNo.out hno) 0 0)
            go_wp2_with fail
            go_ret3
            exact ⟨_, rfl, HQ.out, e3⟩
          | true =>
            have hn := inB_iff.1 h1
            have hq := HIs.out ⟨Hsz.out, by omega, by omega, by omega, by omega⟩
            obtain ⟨a, ha⟩ : ∃ a, a = B 0 - 65 := ⟨_, rfl⟩
            obtain ⟨b, hb⟩ : ∃ b, b = (nI j).toNat := ⟨_, rfl⟩
            rw [← ha, ← hb] at hq
            have hai : (B 0 : Int) - 65 = (a : Int) := by omega
            have hbi : nI j = (b : Int) := by omega
            obtain ⟨st, hst⟩ := HV.out j a b
            have hcm := HCm.out a b st hst
            have HT := Lib.hid (HSt.out w3 e3 a b (by omega) (by omega))
            rw [hst] at HT
            rw [← hq] at hcm
            have HQ := Lib.hid (HRi.out q rfl ((B 0 : Int) - 65) (nI j) rfl rfl)
            have HQn := Lib.hid (fun (h : q = false) => HRn.out h 0 0)
            rw [hai, hbi] at HQ
            clear ha hb hst hq h65 hn HIs HNo HRi HRn HCm HV
            rw [hai, hbi]
            go_wp2_with fail
            refine Calls.mono HT.out ?_
            rintro e w4 hr
            obtain ⟨r, rfl, rfl, e4⟩ := ret_ext hr
            clear hr
            have e5 := e3.trans e4
            cases q with
            | true =>
              go_wp2_with fail
              go_ret3
              exact ⟨_, rfl, HQ.out, e5⟩
            | false =>
              have HQ3 := Lib.hid (HQn.out rfl)
              go_wp2_with fail
              go_ret3
              exact ⟨_, rfl, HQ3.out, e5⟩
  · have HQ := Lib.hid (HRn.out (HNo.out (fun h => hsz h.1)) 0 0)
    have hw4 : IntKind.i64.wrap ((W : Int) + 4) = (W : Int) + 4 := IntWalk.i64_in _ (by omega)
    have hne : ((s.size : Int) == (W : Int) + 4) = false := by rw [beq_eq_false_iff_ne]; omega
    clear hsz
    go_enter Tryd.func23, Tryd.ntmps23
    go_wp2_with fail
    refine Calls.mono HTx.out ?_
    rintro e w1 hr
    obtain ⟨r, rfl, rfl, e1⟩ := ret_ext hr
    clear hr
    go_wp2_with fail
    go_ret3
    exact ⟨_, rfl, HQ.out, e1⟩

open Go.ChangeShapes Go.WideShapes Go.ChangeAt Go.RowKit
set_option linter.unusedVariables false

def padI (n i : Nat) : ByteArray := ⟨(List.replicate i 48 ++ Lib.decDigits n).toArray⟩
theorem padI_size (n i : Nat) : (padI n i).size = i + (Lib.decDigits n).length := by
  unfold padI
  show (List.replicate i (48 : UInt8) ++ Lib.decDigits n).toArray.size = _
  simp
theorem padI_succ (n i : Nat) : (⟨#[48]⟩ : ByteArray) ++ padI n i = padI n (i + 1) := by
  apply ByteArray.ext
  rw [ByteArray.data_append]
  unfold padI
  apply Array.toList_inj.1
  simp [List.replicate_succ]

set_option maxRecDepth 20000 in
set_option maxHeartbeats 1000000 in
theorem l28Pad_c (w : World) (n k : Nat) (h : n ≤ 1000000000) (hk : k ≤ 1000000) : Calls Tryd.prog 47 #[.int .i64 (n : Nat), .int .i64 (k : Nat)] w (Ret w fun r _ => r = padV n k) := by
  have HF := Lib.hid (l01Dec_c n w h)
  have h0 : numText n = .string (padI n 0) := rfl
  have HP : Hid (padV n k = .string (padI n (k - (Lib.decDigits n).length))) := rfl
  rw [h0] at HF
  have HZ := Lib.hid (fun i => padI_size n i)
  have HC := Lib.hid (fun i => padI_succ n i)
  have hL := dec_len n
  clear h0
  generalize padV n k = res at *
  generalize padI n = pI at *
  generalize (Lib.decDigits n).length = L at *
  go_enter Tryd.func47, Tryd.ntmps47
  go_wp2_with fail
  refine Calls.mono HF.out ?_
  rintro e w1 hr
  obtain ⟨r, rfl, rfl, e1⟩ := ret_ext hr
  clear hr
  go_wp2_with fail
  go_loopw [5] (fun s5 wr => ∃ i : Nat, i ≤ k - L ∧ s5 = .string (pI i) ∧ Ext w wr) (fun s5 _ => k - (textOf s5).size)
  case atStart => exact ⟨0, Nat.zero_le _, rfl, e1⟩
  case round =>
    obtain ⟨i, hi, rfl, ew⟩ := hrel
    have hz := HZ.out i
    have hz1 := HZ.out (i + 1)
    have hc := HC.out i
    by_cases hlt : (pI i).size < k
    · have hb : decide (((pI i).size : Int) < (k : Int)) = true := decide_eq_true (by omega)
      have hs : ¬ (9223372036854775807 < 1 + (pI i).size) := by omega
      have Hlt := Lib.hid hlt
      have Hz := Lib.hid hz
      have Hz1 := Lib.hid hz1
      have Hc := Lib.hid hc
      clear hz hz1 hc hlt
      go_wp2_with fail
      go_roundw
      case measure => (show k - (textOf (.string ((⟨#[48]⟩ : ByteArray) ++ pI i))).size < k - (textOf (.string (pI i))).size; rw [Hc.out]; show k - (pI (i + 1)).size < k - (pI i).size; have := Hz.out; have := Hz1.out; have := Hlt.out; omega)
      case rel => exact ⟨i + 1, by have := Hz.out; have := Hlt.out; omega, by rw [← Hc.out], ew⟩
    · have hb : decide (((pI i).size : Int) < (k : Int)) = false := decide_eq_false (by omega)
      have hb2 : decide ((pI i).size < k) = false := decide_eq_false hlt
      have hi2 : i = k - L := by omega
      subst hi2
      clear hz hz1 hc hlt
      go_wp2_with fail
      go_ret
      exact ⟨_, rfl, HP.out.symm, ew⟩

theorem l28Check_c (w : World) (ser num : Nat) (hs : ser ≤ 25) (hn : num ≤ 1000000) : Calls Tryd.prog 48 #[.int .i64 (ser : Int), .int .i64 (num : Int)] w (RetQ w (.int .i64 (((100 * num + ser) % 97 : Nat) : Int))) := by
  have h1 : IntKind.i64.wrap (100 * (num : Int)) = 100 * (num : Int) := IntWalk.i64_in _ (by omega)
  have h2 : IntKind.i64.wrap (100 * (num : Int) + (ser : Int)) = 100 * (num : Int) + (ser : Int) := IntWalk.i64_in _ (by omega)
  have h3 : (100 * (num : Int) + (ser : Int)).tmod 97 = (((100 * num + ser) % 97 : Nat) : Int) := by rw [Int.tmod_eq_emod_of_nonneg (by omega)]; omega
  have h4 : IntKind.i64.wrap (((100 * num + ser) % 97 : Nat) : Int) = (((100 * num + ser) % 97 : Nat) : Int) := IntWalk.i64_in _ (by omega)
  go_enter Tryd.func48, Tryd.ntmps48
  go_wp2_with fail
  go_ret
  refine ⟨?_, Drew.refl _⟩
  show Ending.returned (Value.int .i64 ((100 * (num : Int) + (ser : Int)) % 97)) = _
  rw [show (100 * (num : Int) + (ser : Int)) % 97 = (((100 * num + ser) % 97 : Nat) : Int) by omega]

set_option maxRecDepth 20000 in
set_option maxHeartbeats 2000000 in
theorem l28Text_c (w : World) (mk : MK) (ok : MkOk mk) (ser num : Nat) (hs : ser ≤ 25) (hn : num ≤ 262144) : Calls Tryd.prog 31 #[mk.v, .int .i64 (ser : Int), .int .i64 (num : Int)] w (Ret w fun r _ => r = stampV (lenM mk) ser num) := by
  have HDi := Lib.hid (fun (w' : World) => l28Digits_c w' mk ok)
  have hW6 : lenM mk ≤ 6 := dec_le6 (by have := countM_le ok; omega)
  have HD1 := Lib.hid (fun (w' : World) => l28Pad_c w' num (lenM mk) (by omega) (by omega))
  have HD2 := Lib.hid (fun (w' : World) => l28Pad_c w' ((100 * num + ser) % 97) 2 (by omega) (by omega))
  have HC := Lib.hid (fun (w' : World) => l28Check_c w' ser num hs (by omega))
  have hpl : (padD num (lenM mk)).length ≤ 12 := by
    have h6 := dec_le6 (n := num) (by omega)
    unfold padD; rw [List.length_append, List.length_replicate]; omega
  have hcl : (padD ((100 * num + ser) % 97) 2).length ≤ 2 := by
    have h6 := dec_le2 (n := (100 * num + ser) % 97) (by omega)
    unfold padD; rw [List.length_append, List.length_replicate]; omega
  obtain ⟨a, b, c, ha, hb, hc, hbz, hcz, hst⟩ := stampV_cat (lenM mk) ser num
  have haz : a.size = 1 := by rw [← ha]; rfl
  have kc2 := fun (w' : World) (g : Nat) (hc : w'.cell? ⟨g, 0, none⟩ = some (.int .u8 (65 + (ser : Int)))) => conv_at w' g (65 + (ser : Int)) (65 + ser) (by omega) (by omega) hc
  unfold oneByte at kc2
  rw [hb] at HD1
  rw [hc] at HD2
  rw [ha] at kc2
  have HS := Lib.hid hst
  clear ha hb hc hst ok
  generalize stampV (lenM mk) ser num = res at *
  generalize lenM mk = W at *
  generalize (100 * num + ser) % 97 = ck at *
  have h2c : ((2 : Nat) : Int) = 2 := rfl
  rw [h2c] at HD2
  have h1 : IntKind.i64.wrap (65 + (ser : Int)) = 65 + (ser : Int) := IntWalk.i64_in _ (by omega)
  have h1r : IntKind.u8.wrap (65 + (ser : Int)) = 65 + (ser : Int) := IntWalk.u8_in _ (by omega)
  have hs1 : ¬ (9223372036854775807 < a.size + b.size) := by omega
  have hs2 : ¬ (9223372036854775807 < a.size + b.size + 1) := by omega
  have hs3 : ¬ (9223372036854775807 < a.size + b.size + 1 + c.size) := by omega
  obtain ⟨mc, md, ms, mm, ml⟩ := mk
  unfold MK.v at *
  clear hpl hcl hbz hcz haz h2c hW6 hn hs
  go_enter Tryd.func31, Tryd.ntmps31
  go_wp2_with fail
  generalize hw0 : World.alloc _ _ = w0
  obtain ⟨e0, S0⟩ := mk_box (mk := ⟨mc, md, ms, mm, ml⟩) hw0
  clear hw0
  have HCel : Hid (∀ w', Ext w0 w' → w'.cell? ⟨w.heap.size, 0, none⟩ = some (.int .i64 mc) ∧ w'.cell? ⟨w.heap.size, 1, none⟩ = some (.int .i64 md) ∧ w'.cell? ⟨w.heap.size, 2, none⟩ = some (.int .i64 ms) ∧ w'.cell? ⟨w.heap.size, 3, none⟩ = some (.int .i64 mm) ∧ w'.cell? ⟨w.heap.size, 4, none⟩ = some (.int .i64 ml)) := fun w' e => S0.ext e
  obtain ⟨c0, c1, c2, c3, c4⟩ := HCel.out w0 (Ext.refl _)
  have d0 := fun o => (Ext.alloc w0 o).cell c0
  have d1 := fun o => (Ext.alloc w0 o).cell c1
  have d2 := fun o => (Ext.alloc w0 o).cell c2
  have d3 := fun o => (Ext.alloc w0 o).cell c3
  have d4 := fun o => (Ext.alloc w0 o).cell c4
  have HA := Lib.hid (fun (w' : World) (g : Nat) (hc : w'.cell? ⟨g, 0, none⟩ = some (.int .u8 (65 + (ser : Int)))) => kc2 w' g hc)
  go_region_law (first | (go_simp; go_at_call 36; (with_reducible refine (HDi.out _).mono ?_); rintro e w7 hr7; obtain ⟨r7, rfl, rfl, e7⟩ := ret_ext hr7; clear hr7; have e07 : Ext w0 w7 := (by repeat (first | exact Ext.refl _ | assumption | (refine Ext.trans ?_ (Ext.alloc _ _)) | (refine Ext.trans ?_ (Ext.drew _)) | (refine Ext.trans ?_ (by assumption)))); (try ((have hccw7w0 : w7.cell? ⟨w0.heap.size, 0, none⟩ = some (.int .u8 (65 + (ser : Int))) := ?_; have kcw7w0 := HA.out w7 w0.heap.size hccw7w0; rotate_left; focus (refine e7.cell ?_; first | assumption | (simp; done)))))) | (go_simp; go_at_call 47; (with_reducible refine (HD1.out _).mono ?_); rintro e w8 hr8; obtain ⟨r8, rfl, rfl, e8⟩ := ret_ext hr8; clear hr8; have e08 : Ext w0 w8 := (by repeat (first | exact Ext.refl _ | assumption | (refine Ext.trans ?_ (Ext.alloc _ _)) | (refine Ext.trans ?_ (Ext.drew _)) | (refine Ext.trans ?_ (by assumption)))); (try ((have hccw8w0 : w8.cell? ⟨w0.heap.size, 0, none⟩ = some (.int .u8 (65 + (ser : Int))) := ?_; have kcw8w0 := HA.out w8 w0.heap.size hccw8w0; rotate_left; focus (refine e8.cell ?_; first | assumption | (simp; done))))); (try ((have hccw8w7 : w8.cell? ⟨w7.heap.size, 0, none⟩ = some (.int .u8 (65 + (ser : Int))) := ?_; have kcw8w7 := HA.out w8 w7.heap.size hccw8w7; rotate_left; focus (refine e8.cell ?_; first | assumption | (simp; done)))))) | (go_simp; go_at_call 48; (with_reducible refine (HC.out _).mono ?_); rintro e w9 hr9; obtain ⟨rfl, -, e9⟩ := retq_ext hr9; clear hr9; have e09 : Ext w0 w9 := (by repeat (first | exact Ext.refl _ | assumption | (refine Ext.trans ?_ (Ext.alloc _ _)) | (refine Ext.trans ?_ (Ext.drew _)) | (refine Ext.trans ?_ (by assumption)))); (try ((have hccw9w0 : w9.cell? ⟨w0.heap.size, 0, none⟩ = some (.int .u8 (65 + (ser : Int))) := ?_; have kcw9w0 := HA.out w9 w0.heap.size hccw9w0; rotate_left; focus (refine e9.cell ?_; first | assumption | (simp; done))))); (try ((have hccw9w7 : w9.cell? ⟨w7.heap.size, 0, none⟩ = some (.int .u8 (65 + (ser : Int))) := ?_; have kcw9w7 := HA.out w9 w7.heap.size hccw9w7; rotate_left; focus (refine e9.cell ?_; first | assumption | (simp; done))))); (try ((have hccw9w8 : w9.cell? ⟨w8.heap.size, 0, none⟩ = some (.int .u8 (65 + (ser : Int))) := ?_; have kcw9w8 := HA.out w9 w8.heap.size hccw9w8; rotate_left; focus (refine e9.cell ?_; first | assumption | (simp; done)))))) | (go_simp; go_at_call 47; (with_reducible refine (HD2.out _).mono ?_); rintro e w10 hr10; obtain ⟨r10, rfl, rfl, e10⟩ := ret_ext hr10; clear hr10; have e010 : Ext w0 w10 := (by repeat (first | exact Ext.refl _ | assumption | (refine Ext.trans ?_ (Ext.alloc _ _)) | (refine Ext.trans ?_ (Ext.drew _)) | (refine Ext.trans ?_ (by assumption)))); (try ((have hccw10w0 : w10.cell? ⟨w0.heap.size, 0, none⟩ = some (.int .u8 (65 + (ser : Int))) := ?_; have kcw10w0 := HA.out w10 w0.heap.size hccw10w0; rotate_left; focus (refine e10.cell ?_; first | assumption | (simp; done))))); (try ((have hccw10w7 : w10.cell? ⟨w7.heap.size, 0, none⟩ = some (.int .u8 (65 + (ser : Int))) := ?_; have kcw10w7 := HA.out w10 w7.heap.size hccw10w7; rotate_left; focus (refine e10.cell ?_; first | assumption | (simp; done))))); (try ((have hccw10w8 : w10.cell? ⟨w8.heap.size, 0, none⟩ = some (.int .u8 (65 + (ser : Int))) := ?_; have kcw10w8 := HA.out w10 w8.heap.size hccw10w8; rotate_left; focus (refine e10.cell ?_; first | assumption | (simp; done))))); (try ((have hccw10w9 : w10.cell? ⟨w9.heap.size, 0, none⟩ = some (.int .u8 (65 + (ser : Int))) := ?_; have kcw10w9 := HA.out w10 w9.heap.size hccw10w9; rotate_left; focus (refine e10.cell ?_; first | assumption | (simp; done)))))) | fail)
  all_goals go_wp2_with fail
  all_goals go_ret
  all_goals exact ⟨_, rfl, HS.out.symm, e0.trans (by repeat (first | exact Ext.refl _ | assumption | (refine Ext.trans ?_ (Ext.alloc _ _)) | (refine Ext.trans ?_ (Ext.drew _)) | (refine Ext.trans ?_ (by assumption))))⟩

open Go.ChangeShapes Go.WideShapes Go.ChangeAt Go.RowKit
set_option linter.unusedVariables false

set_option maxRecDepth 20000 in
set_option maxHeartbeats 1000000 in
theorem l28Read_c (w : World) (mk : MK) (ok : MkOk mk) (s : ByteArray) (hs : s.size ≤ maxLen) :
    Calls Tryd.prog 21 #[mk.v, .string s] w (Ret w fun r _ => ReadRes (lenM mk) (countM mk) s.data.toList r) := by
  have HDi := Lib.hid (fun (w' : World) => l28Digits_c w' mk ok)
  have HCo := Lib.hid (fun (w' : World) => l02Count_c mk ok mk.c.toNat [] (by simp) w' (.slice none 0 0) (.old w') (SliceR.nil _ _ _) (fun i hi => by simp at hi))
  have hcn : (keysR mk mk.d.toNat mk.c.toNat []).length = countM mk := rfl
  rw [hcn] at HCo
  have HSt := Lib.hid (fun (w' : World) (a b : Nat) (ha : a ≤ 25) (hb : b ≤ 262144) => l28Text_c w' mk ok a b ha hb)
  have hN := countM_le ok
  have hW6 : lenM mk ≤ 6 := dec_le6 (by omega)
  have HCm := Lib.hid (fun (a b : Nat) (st : ByteArray) (h : stampV (lenM mk) a b = .string st) => stampV_eq (s := s) h)
  have HV : Hid (∀ W a b, ∃ st, stampV W a b = .string st) := fun W a b => ⟨_, rfl⟩
  have hl := len_bytes s
  have HNo := Lib.hid (fun h => readB_no (W := lenM mk) (N := countM mk) (s := s.data.toList) h)
  have HIs := Lib.hid (fun h => readB_is (W := lenM mk) (N := countM mk) (s := s.data.toList) h)
  have HDg := Lib.hid (fun (i : Nat) (h1 : 1 ≤ i) (h2 : i ≤ lenM mk) (h : byteN s.data.toList i < 48 ∨ 57 < byteN s.data.toList i) => readB_digit (W := lenM mk) (N := countM mk) rfl h1 h2 h)
  have HB := fun (i : Nat) (h : i < s.size) => byte_at h
  have HBl := Lib.hid (fun i => byteN_lt s.data.toList i)
  have HI := Lib.hid (fun i => numI_in s.data.toList i)
  have HIs2 := Lib.hid (fun i => numI_succ s.data.toList i)
  have HI0 : Hid (numI s.data.toList 0 = 0) := rfl
  have HRn := Lib.hid (fun (h : readB (lenM mk) (countM mk) s.data.toList = false) (a b : Int) => readRes_no h a b)
  have HRi := Lib.hid (fun (q : Bool) (h : readB (lenM mk) (countM mk) s.data.toList = q) (a b : Int) (ha : a = (byteN s.data.toList 0 : Int) - 65) (hb : b = numI s.data.toList (lenM mk)) => readRes_is h ha hb)
  rw [hl] at HNo HIs
  generalize readB (lenM mk) (countM mk) s.data.toList = q at *
  generalize ReadRes (lenM mk) (countM mk) s.data.toList = RR at *
  generalize lenM mk = W at *
  generalize countM mk = N at *
  generalize byteN s.data.toList = B at *
  generalize numI s.data.toList = nI at *
  generalize hL : s.data.toList = l at *
  clear hL hl hcn ok
  obtain ⟨mc, md, ms, mm, ml⟩ := mk
  unfold MK.v at *
  have hw4 : IntKind.i64.wrap ((W : Int) + 4) = (W : Int) + 4 := IntWalk.i64_in _ (by omega)
  by_cases hsz : s.size = W + 4
  · have h0 : 0 < s.size := by omega
    have hb0 := HBl.out 0
    have hne : ((s.size : Int) == (W : Int) + 4) = true := by rw [beq_iff_eq]; omega
    have Hsz := Lib.hid hsz
    by_cases h65 : B 0 < 65
    · have HQ := Lib.hid (HRn.out (HNo.out (fun h => by omega)) 0 0)
      have hd65 : decide ((B 0 : Int) < 65) = true := decide_eq_true (by omega)
      clear hs
      go_enter Tryd.func21, Tryd.ntmps21
      go_wp2_with fail
      generalize hw0 : World.alloc _ _ = w0
      obtain ⟨e0, S0⟩ := mk_box (mk := ⟨mc, md, ms, mm, ml⟩) hw0
      clear hw0
      obtain ⟨c0, c1, c2, c3, c4⟩ := S0
      go_wp2_with fail
      refine Calls.mono (HDi.out w0) ?_
      rintro e w1 hr
      obtain ⟨r, rfl, rfl, e1⟩ := ret_ext hr
      clear hr
      go_wp2_with fail
      go_ret3
      exact ⟨_, rfl, HQ.out, e0.trans e1⟩
    · by_cases h90 : 90 < B 0
      · have HQ := Lib.hid (HRn.out (HNo.out (fun h => by omega)) 0 0)
        have hd65 : decide ((B 0 : Int) < 65) = false := decide_eq_false (by omega)
        have hd90 : decide ((90 : Int) < (B 0 : Int)) = true := decide_eq_true (by omega)
        clear hs
        go_enter Tryd.func21, Tryd.ntmps21
        go_wp2_with fail
        generalize hw0 : World.alloc _ _ = w0
        obtain ⟨e0, S0⟩ := mk_box (mk := ⟨mc, md, ms, mm, ml⟩) hw0
        clear hw0
        obtain ⟨c0, c1, c2, c3, c4⟩ := S0
        go_wp2_with fail
        refine Calls.mono (HDi.out w0) ?_
        rintro e w1 hr
        obtain ⟨r, rfl, rfl, e1⟩ := ret_ext hr
        clear hr
        go_wp2_with fail
        go_ret3
        exact ⟨_, rfl, HQ.out, e0.trans e1⟩
      · have hd65 : decide ((B 0 : Int) < 65) = false := decide_eq_false (by omega)
        have hd90 : decide ((90 : Int) < (B 0 : Int)) = false := decide_eq_false (by omega)
        have hw65 : IntKind.u8.wrap ((B 0 : Int) - 65) = (B 0 : Int) - 65 := IntWalk.u8_in _ (by omega)
        have hw65i : IntKind.i64.wrap ((B 0 : Int) - 65) = (B 0 : Int) - 65 := IntWalk.i64_in _ (by omega)
        clear hs
        go_enter Tryd.func21, Tryd.ntmps21
        go_wp2_with fail
        generalize hw0 : World.alloc _ _ = w0
        obtain ⟨e0, S0⟩ := mk_box (mk := ⟨mc, md, ms, mm, ml⟩) hw0
        clear hw0
        have HS := Lib.hid S0
        obtain ⟨c0, c1, c2, c3, c4⟩ := S0
        go_wp2_with fail
        refine Calls.mono (HDi.out w0) ?_
        rintro e w1 hr
        obtain ⟨r, rfl, rfl, e1⟩ := ret_ext hr
        clear hr c0 c1 c2 c3 c4
        go_wp2_with fail
        go_loopw [7, 8] (fun s9 s10 wr => ∃ i j : Nat, s10 = .int .i64 (i : Int) ∧ s9 = .int .i64 (nI j) ∧ i = j + 1 ∧ j ≤ W ∧ 0 ≤ nI j ∧ Ext w0 wr) (fun _ s10 _ => W + 1 - (intOf s10).toNat)
        case atStart => exact ⟨1, 0, rfl, by rw [HI0.out], rfl, Nat.zero_le _, by rw [HI0.out]; exact Int.le_refl _, e1⟩
        case round =>
          obtain ⟨i, j, rfl, rfl, hij, hj, hpos, ew⟩ := hrel
          have Hij := Lib.hid hij
          have hin := HI.out j (by omega)
          obtain ⟨c0, c1, c2, c3, c4⟩ := HS.out.ext ew
          by_cases hle : i ≤ W
          · have his : i < s.size := by omega
            have hbi := HBl.out i
            have hsucc := HIs2.out j
            rw [← hij] at hsucc
            have HS2 : Hid (nI i = nI j * 10 + (B i : Int) - 48) := hsucc
            have hleb : decide ((i : Int) ≤ (W : Int)) = true := decide_eq_true (by omega)
            by_cases h48 : B i < 48
            · have HQ := Lib.hid (HRn.out (HDg.out i (by omega) hle (.inl h48)) 0 0)
              have hd48 : decide ((B i : Int) < 48) = true := decide_eq_true (by omega)
              clear hij hsucc hsz
              go_wp2_with fail
              refine Calls.mono (HDi.out wr) ?_
              rintro e w2 hr
              obtain ⟨r, rfl, rfl, e2⟩ := ret_ext hr
              clear hr
              go_wp2_with fail
              go_ret3
              exact ⟨_, rfl, HQ.out, (e0.trans ew).trans e2⟩
            · by_cases h57 : 57 < B i
              · have HQ := Lib.hid (HRn.out (HDg.out i (by omega) hle (.inr h57)) 0 0)
                have hd48 : decide ((B i : Int) < 48) = false := decide_eq_false (by omega)
                have hd57 : decide ((57 : Int) < (B i : Int)) = true := decide_eq_true (by omega)
                clear hij hsucc hsz
                go_wp2_with fail
                refine Calls.mono (HDi.out wr) ?_
                rintro e w2 hr
                obtain ⟨r, rfl, rfl, e2⟩ := ret_ext hr
                clear hr
                go_wp2_with fail
                go_ret3
                exact ⟨_, rfl, HQ.out, (e0.trans ew).trans e2⟩
              · have hd48 : decide ((B i : Int) < 48) = false := decide_eq_false (by omega)
                have hd57 : decide ((57 : Int) < (B i : Int)) = false := decide_eq_false (by omega)
                have hwi : IntKind.i64.wrap ((i : Int) + 1) = (i : Int) + 1 := IntWalk.i64_in _ (by omega)
                have hw1 : IntKind.i64.wrap (10 * nI j) = 10 * nI j := IntWalk.i64_in _ (by omega)
                have hw2 : IntKind.u8.wrap ((B i : Int) - 48) = (B i : Int) - 48 := IntWalk.u8_in _ (by omega)
                have hw2i : IntKind.i64.wrap ((B i : Int) - 48) = (B i : Int) - 48 := IntWalk.i64_in _ (by omega)
                have hw3 : IntKind.i64.wrap (10 * nI j + ((B i : Int) - 48)) = 10 * nI j + ((B i : Int) - 48) := IntWalk.i64_in _ (by omega)
                have HS3 : Hid (10 * nI j + ((B i : Int) - 48) = nI i) := by show _ = _; rw [HS2.out]; omega
                have HP3 : Hid (0 ≤ nI i) := by show _ ≤ _; rw [HS2.out]; omega
                clear hij hsucc hsz
                go_wp2_with fail
                refine Calls.mono (HDi.out wr) ?_
                rintro e w2 hr
                obtain ⟨r, rfl, rfl, e2⟩ := ret_ext hr
                clear hr
                go_wp2_with fail
                go_roundw
                case measure => simp [intOf]; omega
                case rel => exact ⟨i + 1, i, by go_num, by rw [← HS3.out], rfl, by omega, HP3.out, ew.trans e2⟩
          · have hjW : j = W := by omega
            subst hjW
            have hgt : decide ((i : Int) ≤ (j : Int)) = false := decide_eq_false (by omega)
            clear hij
            go_wp2_with fail
            refine Calls.mono (HDi.out wr) ?_
            rintro e w2 hr
            obtain ⟨r, rfl, rfl, e2⟩ := ret_ext hr
            clear hr
            have ew2 := ew.trans e2
            obtain ⟨c0, c1, c2, c3, c4⟩ := HS.out.ext ew2
            go_wp2_with fail
            refine Calls.mono (HCo.out w2) ?_
            rintro e w3 hr
            obtain ⟨r, rfl, rfl, e3⟩ := ret_ext hr
            clear hr c0 c1 c2 c3 c4
            have ew3 := ew2.trans e3
            obtain ⟨c0, c1, c2, c3, c4⟩ := HS.out.ext ew3
            by_cases hlt : nI j < (N : Int)
            · have hlb : decide (nI j < (N : Int)) = true := decide_eq_true hlt
              have hq := HIs.out ⟨Hsz.out, by omega, by omega, by omega, by omega⟩
              obtain ⟨a, ha⟩ : ∃ a, a = B 0 - 65 := ⟨_, rfl⟩
              obtain ⟨b, hb⟩ : ∃ b, b = (nI j).toNat := ⟨_, rfl⟩
              rw [← ha, ← hb] at hq
              have hai : (B 0 : Int) - 65 = (a : Int) := by omega
              have hbi : nI j = (b : Int) := by omega
              obtain ⟨st, hst⟩ := HV.out j a b
              have hcm := HCm.out a b st hst
              have HT := Lib.hid (HSt.out w3 a b (by omega) (by omega))
              rw [hst] at HT
              rw [← hq] at hcm
              have HQ := Lib.hid (HRi.out q rfl ((B 0 : Int) - 65) (nI j) rfl rfl)
              rw [hai, hbi] at HQ
              have hlb2 : decide ((b : Int) < (N : Int)) = true := decide_eq_true (by omega)
              have hlb3 : decide (b < N) = true := decide_eq_true (by omega)
              clear ha hb hst hq HIs HNo HRi HRn HCm HV hlt
              rw [hai, hbi]
              go_wp2_with fail
              refine Calls.mono HT.out ?_
              rintro e w4 hr
              obtain ⟨r, rfl, rfl, e4⟩ := ret_ext hr
              clear hr
              have e5 := (e0.trans ew3).trans e4
              go_wp2_with fail
              go_ret3
              exact ⟨_, rfl, HQ.out, e5⟩
            · have hlb : decide (nI j < (N : Int)) = false := decide_eq_false hlt
              have HQ := Lib.hid (HRn.out (HNo.out (fun h => by omega)) ((B 0 : Int) - 65) (nI j))
              go_wp2_with fail
              go_ret3
              exact ⟨_, rfl, HQ.out, e0.trans ew3⟩
  · have HQ := Lib.hid (HRn.out (HNo.out (fun h => hsz h.1)) 0 0)
    have hne : ((s.size : Int) == (W : Int) + 4) = false := by rw [beq_eq_false_iff_ne]; omega
    have hne2 : ((s.size : Int) != (W : Int) + 4) = true := by rw [bne, hne]; rfl
    have hne3 : ¬ ((s.size : Int) = (W : Int) + 4) := by omega
    clear hsz
    go_enter Tryd.func21, Tryd.ntmps21
    go_wp2_with fail
    generalize hw0 : World.alloc _ _ = w0
    obtain ⟨e0, S0⟩ := mk_box (mk := ⟨mc, md, ms, mm, ml⟩) hw0
    clear hw0
    obtain ⟨c0, c1, c2, c3, c4⟩ := S0
    go_wp2_with fail
    refine Calls.mono (HDi.out w0) ?_
    rintro e w1 hr
    obtain ⟨r, rfl, rfl, e1⟩ := ret_ext hr
    clear hr
    go_wp2_with fail
    go_ret3
    exact ⟨_, rfl, HQ.out, e0.trans e1⟩

open Go.ChangeShapes Go.WideShapes Go.ChangeAt Go.RowKit
set_option linter.unusedVariables false

def isStampB (mk : MK) (l : List UInt8) : Bool := isMaker mk && readB (lenM mk) (countM mk) l

set_option maxRecDepth 20000 in
set_option maxHeartbeats 1000000 in
theorem IsStamp_c (w : World) (hT : Pow10 w) (mk : MK) (s : ByteArray) (hs : s.size ≤ maxLen) : Calls Tryd.prog 9 #[mk.v, .string s] w (Ret w fun r _ => r = .bool (isStampB mk s.data.toList)) := by
  have HC := Lib.hid (fun (w' : World) => CountKeys_c w' mk)
  have HRd := Lib.hid (fun (h : isMaker mk = true) (w' : World) (e : Ext w w') => readStamp_c w' (hT.ext e) (countM mk) (countM_le (mkOk h)) s hs)
  have HR : Hid (isStampB mk s.data.toList = (isMaker mk && readB (lenM mk) (countM mk) s.data.toList)) := rfl
  have hcn : (allK mk).length = countM mk := rfl
  have hln : (Lib.decDigits (countM mk)).length = lenM mk := rfl
  rw [hcn] at HC
  rw [hln] at HRd
  unfold ReadRes at HRd
  clear hcn hln hT hs
  generalize readB (lenM mk) (countM mk) s.data.toList = b at *
  generalize isStampB mk s.data.toList = res at *
  generalize isMaker mk = q at *
  generalize countM mk = N at *
  obtain ⟨c, d, s', m, l⟩ := mk
  unfold MK.v at *
  go_enter Tryd.func9, Tryd.ntmps9
  go_wp2_with fail
  generalize hw2 : World.alloc w _ = w1
  obtain ⟨e1, S1⟩ := mk_box (mk := ⟨c, d, s', m, l⟩) hw2
  clear hw2
  obtain ⟨c0, c1, c2, c3, c4⟩ := S1
  go_wp2_with fail
  refine Calls.mono (HC.out w1) ?_
  rintro e w2 hr
  obtain ⟨r, rfl, rfl, e2⟩ := ret_ext hr
  clear hr c0 c1 c2 c3 c4
  have et := e1.trans e2
  cases q with
  | false =>
    go_wp2_with fail
    go_ret
    exact ⟨_, rfl, by rw [HR.out]; rfl, et⟩
  | true =>
    have HT2 := Lib.hid (HRd.out rfl w2 et)
    clear HRd
    go_wp2_with fail
    refine Calls.mono HT2.out ?_
    rintro e w3 hr
    obtain ⟨r, rfl, ⟨x, y, rfl, -⟩, e3⟩ := ret_ext hr
    clear hr
    go_wp2_with fail
    go_ret
    exact ⟨_, rfl, by rw [HR.out]; rfl, et.trans e3⟩

set_option maxRecDepth 20000 in
set_option maxHeartbeats 1000000 in
theorem IsStampSpec_c (w : World) (mk : MK) (s : ByteArray) (hs : s.size ≤ maxLen) : Calls Tryd.prog 7 #[mk.v, .string s] w (Ret w fun r _ => r = .bool (isStampB mk s.data.toList)) := by
  have HM := Lib.hid (fun (w' : World) => IsMakerSpec_c w' mk)
  have HRd := Lib.hid (fun (h : isMaker mk = true) (w' : World) => l28Read_c w' mk (mkOk h) s hs)
  have HR : Hid (isStampB mk s.data.toList = (isMaker mk && readB (lenM mk) (countM mk) s.data.toList)) := rfl
  unfold ReadRes at HRd
  clear hs
  generalize readB (lenM mk) (countM mk) s.data.toList = b at *
  generalize isStampB mk s.data.toList = res at *
  generalize isMaker mk = q at *
  obtain ⟨c, d, s', m, l⟩ := mk
  unfold MK.v at *
  go_enter Tryd.func7, Tryd.ntmps7
  go_wp2_with fail
  generalize hw2 : World.alloc w _ = w1
  obtain ⟨e1, S1⟩ := mk_box (mk := ⟨c, d, s', m, l⟩) hw2
  clear hw2
  have HS := Lib.hid S1
  obtain ⟨c0, c1, c2, c3, c4⟩ := S1
  go_wp2_with fail
  refine Calls.mono (HM.out w1) ?_
  rintro e w2 hr
  obtain ⟨r, rfl, rfl, e2⟩ := ret_ext hr
  clear hr c0 c1 c2 c3 c4
  obtain ⟨c0, c1, c2, c3, c4⟩ := HS.out.ext e2
  have et := e1.trans e2
  cases q with
  | false =>
    go_wp2_with fail
    go_ret
    exact ⟨_, rfl, by rw [HR.out]; rfl, et⟩
  | true =>
    have HT2 := Lib.hid (HRd.out rfl w2)
    clear HRd HM
    go_wp2_with fail
    refine Calls.mono HT2.out ?_
    rintro e w3 hr
    obtain ⟨r, rfl, ⟨x, y, rfl, -⟩, e3⟩ := ret_ext hr
    clear hr
    go_wp2_with fail
    go_ret
    exact ⟨_, rfl, by rw [HR.out]; rfl, et.trans e3⟩

open Go.ChangeShapes Go.WideShapes Go.ChangeAt Go.RowKit
set_option linter.unusedVariables false

/-- the keys that begin with pre and then a cut below d; r more cuts -/
def frontS (mk : MK) (D r : Nat) (pre : List Int) (d : Nat) : List (List Int) := (List.range d).flatMap fun (x : Nat) => keysR mk D r (pre ++ [(x : Int)])
theorem frontS_zero (mk : MK) (D r : Nat) (pre : List Int) : frontS mk D r pre 0 = [] := rfl
theorem frontS_succ (mk : MK) (D r : Nat) (pre : List Int) (d : Nat) : frontS mk D r pre (d + 1) = frontS mk D r pre d ++ keysR mk D r (pre ++ [(d : Int)]) := by
  unfold frontS
  rw [List.range_succ, List.flatMap_append]
  simp
theorem frontS_len (mk : MK) (D r : Nat) (pre : List Int) (d : Nat) : (frontS mk D r pre (d + 1)).length = (frontS mk D r pre d).length + (keysR mk D r (pre ++ [(d : Int)])).length := by rw [frontS_succ, List.length_append]
/-- the keys ahead of pre ++ suf among those that begin with pre -/
def befR (mk : MK) (D : Nat) : List Int → List Int → List (List Int)
  | _, [] => []
  | pre, x :: suf => frontS mk D suf.length pre x.toNat ++ befR mk D (pre ++ [x]) suf
theorem flatMap_split2 {α β : Type} {f : α → List β} : ∀ {l : List α} {A B : List β} {k : β}, l.flatMap f = A ++ k :: B → ∃ l1 x l2 A' B', l = l1 ++ x :: l2 ∧ f x = A' ++ k :: B' ∧ A = l1.flatMap f ++ A'
  | [], A, B, k, h => by simp at h
  | y :: l, A, B, k, h => by
    rw [List.flatMap_cons] at h
    rcases List.append_eq_append_iff.1 h with ⟨as1, h1, h2⟩ | ⟨bs, h1, h2⟩
    · obtain ⟨l1, x, l2, A', B', g1, g2, g3⟩ := flatMap_split2 h2
      exact ⟨y :: l1, x, l2, A', B', by rw [g1]; rfl, g2, by rw [h1, g3, List.flatMap_cons, List.append_assoc]⟩
    · cases bs with
      | nil =>
        have h2' : l.flatMap f = [] ++ k :: B := by simpa using h2.symm
        obtain ⟨l1, x, l2, A', B', g1, g2, g3⟩ := flatMap_split2 h2'
        refine ⟨y :: l1, x, l2, A', B', by rw [g1]; rfl, g2, ?_⟩
        have e : A = f y := by simpa using h1.symm
        rw [List.flatMap_cons, e, List.append_assoc, ← g3, List.append_nil]
      | cons b bs =>
        have e : k = b ∧ B = bs ++ l.flatMap f := by simpa using h2
        obtain ⟨rfl, e2⟩ := e
        exact ⟨[], y, l, A, bs, rfl, h1, rfl⟩
theorem range_split2 {D : Nat} {l1 l2 : List Nat} {x : Nat} (h : List.range D = l1 ++ x :: l2) : l1 = List.range x := by
  have hl : D = l1.length + (l2.length + 1) := by have := congrArg List.length h; simpa using this
  have hx : x = l1.length := by
    have h1 : (List.range D)[l1.length]? = some x := by rw [h, List.getElem?_append_right (Nat.le_refl _)]; simp
    rw [List.getElem?_range (by omega)] at h1
    injection h1 with h1
    exact h1.symm
  have h2 : (List.range D).take l1.length = l1 := by rw [h, List.take_left']; rfl
  rw [← h2, List.take_range, Nat.min_eq_left (by omega), ← hx]
theorem keys_front {mk : MK} {D : Nat} : ∀ (r : Nat) {pre : List Int} {A B : List (List Int)} {k : List Int}, keysR mk D r pre = A ++ k :: B → befR mk D pre (k.drop pre.length) = A
  | 0, pre, A, B, k, h => by
    rw [keysR_zero] at h
    have h2 : [pre] = A ++ k :: B := by
      split at h
      · split at h
        · exact h
        · simp at h
      · simp at h
    cases A with
    | nil =>
      have e : pre = k ∧ B = [] := by simpa using h2
      obtain ⟨rfl, rfl⟩ := e
      rw [List.drop_length]; rfl
    | cons a A =>
      have := congrArg List.length h2
      simp at this
  | r + 1, pre, A, B, k, h => by
    rw [keysR_succ] at h
    split at h
    · unfold sweep at h
      rw [List.drop_zero] at h
      obtain ⟨l1, d, l2, A', B', g1, g2, g3⟩ := flatMap_split2 h
      have hl1 := range_split2 g1
      obtain ⟨q1, q2, q3, q4⟩ := keys_split r g2
      have q5 := keys_front r g2
      rw [List.length_append, List.length_singleton] at q1 q2 q5
      generalize hs : k.drop (pre.length + 1) = s at *
      have hk : k = (pre ++ [(d : Int)]) ++ s := by rw [← q2, ← hs, List.take_append_drop]
      have hsl : s.length = r := by have := congrArg List.length hk; simp at this; omega
      have hdr : k.drop pre.length = (d : Int) :: s := by rw [hk]; simp
      rw [hdr]
      show frontS mk D s.length pre (d : Int).toNat ++ befR mk D (pre ++ [(d : Int)]) s = A
      rw [q5, g3, hsl, Int.toNat_natCast, hl1]
      rfl
    · simp at h
def bef (mk : MK) (D : Nat) (k : List Int) (i : Nat) : List (List Int) := befR mk D (k.take i) (k.drop i)
theorem bef_step {mk : MK} {D : Nat} {k : List Int} {i : Nat} (h : i < k.length) : bef mk D k i = frontS mk D (k.length - 1 - i) (k.take i) (k.getD i 0).toNat ++ bef mk D k (i + 1) := by
  unfold bef
  have e1 : k.drop i = k[i] :: k.drop (i + 1) := List.drop_eq_getElem_cons h
  have e2 : k.take i ++ [k[i]] = k.take (i + 1) := by rw [List.take_add_one, List.getElem?_eq_getElem h]; rfl
  have e3 : k.getD i 0 = k[i] := by simp [h]
  rw [e1]
  show frontS mk D (k.drop (i + 1)).length (k.take i) k[i].toNat ++ befR mk D (k.take i ++ [k[i]]) (k.drop (i + 1)) = _
  rw [e2, e3, List.length_drop, show k.length - (i + 1) = k.length - 1 - i by omega]
theorem bef_top {mk : MK} {D : Nat} {k : List Int} : bef mk D k k.length = [] := by
  unfold bef; rw [List.drop_length]; rfl
/-- where a key stands -/
def rankM (mk : MK) (k : List Int) : Nat := (bef mk mk.d.toNat k 0).length
theorem rank_at {mk : MK} {A B : List (List Int)} {k : List Int} (h : allK mk = A ++ k :: B) : rankM mk k = A.length := by
  have h1 := keys_front _ h
  rw [List.length_nil, List.drop_zero] at h1
  unfold rankM bef
  rw [List.take_zero, List.drop_zero, h1]
theorem rank_get {mk : MK} {i : Nat} {k : List Int} (h : (allK mk)[i]? = some k) : rankM mk k = i := by
  obtain ⟨hi, hk⟩ := List.getElem?_eq_some_iff.1 h
  have h1 : allK mk = (allK mk).take i ++ k :: (allK mk).drop (i + 1) := by
    rw [← hk, ← List.drop_eq_getElem_cons hi, List.take_append_drop]
  rw [rank_at h1, List.length_take, Nat.min_eq_left (by omega)]

theorem begins_front {mk : MK} {pre : List Int} {d : Int} (h : begins mk (pre ++ [d]) = true) : begins mk pre = true := by
  rw [begins_snoc, Bool.and_eq_true] at h
  exact h.1
theorem begins_app {mk : MK} : ∀ (suf pre : List Int), begins mk (pre ++ suf) = true → begins mk pre = true
  | [], pre, h => by simpa using h
  | x :: suf, pre, h => by
    have e : pre ++ x :: suf = (pre ++ [x]) ++ suf := by simp
    rw [e] at h
    exact begins_front (begins_app suf (pre ++ [x]) h)
/-- each list of cuts that keeps the rules is among the keys -/
theorem keysR_mem {mk : MK} {D : Nat} : ∀ (suf pre : List Int), begins mk (pre ++ suf) = true → mk.l ≤ (kinds (pre ++ suf) : Int) → (∀ x ∈ suf, 0 ≤ x ∧ x < D) → pre ++ suf ∈ keysR mk D suf.length pre
  | [], pre, h1, h2, _ => by
    rw [List.append_nil] at h1 h2 ⊢
    rw [List.length_nil, keysR_zero, if_pos h1, if_pos h2]
    exact List.mem_singleton.2 rfl
  | x :: suf, pre, h1, h2, h3 => by
    have e : pre ++ x :: suf = (pre ++ [x]) ++ suf := by simp
    have hx := h3 x (by simp)
    have ih := keysR_mem suf (pre ++ [x]) (by rw [← e]; exact h1) (by rw [← e]; exact h2) (fun y hy => h3 y (List.mem_cons_of_mem _ hy))
    rw [List.length_cons, keysR_succ, if_pos (begins_app _ _ h1)]
    unfold sweep
    rw [List.drop_zero, List.mem_flatMap]
    refine ⟨x.toNat, List.mem_range.2 (by omega), ?_⟩
    rw [show ((x.toNat : Nat) : Int) = x by omega, e]
    exact ih
theorem allK_of {mk : MK} {k : List Int} (hd : 0 ≤ mk.d) (h : keyFault mk k = 0) : k ∈ allK mk := by
  have hl : (k.length : Int) = mk.c := by
    by_cases hl : (k.length : Int) = mk.c
    · exact hl
    · rw [keyFault_len hl] at h; simp at h
  have hc : cutsOk mk k = true := by
    cases hc : cutsOk mk k with
    | true => rfl
    | false => rw [keyFault_cuts hl hc] at h; simp at h
  have hf : farTo mk.s k k.length = false := by
    cases hf : farTo mk.s k k.length with
    | false => rfl
    | true => rw [keyFault_far hl hc hf] at h; simp at h
  have hm : ¬ mk.m < (mostTo k k.length : Int) := fun hm => by rw [keyFault_run hl hc hf hm] at h; simp at h
  have hk : ¬ (kinds k : Int) < mk.l := fun hk => by rw [keyFault_kinds hl hc hf hm, if_pos hk] at h; simp at h
  have hin := cuts_in hc
  have h0 : begins mk k = true := begins_true hf (by omega)
  have h1 : begins mk ([] ++ k) = true := h0
  have h2 := keysR_mem (mk := mk) (D := mk.d.toNat) k [] h1 (by simpa using by omega) (fun x hx => by
    obtain ⟨i, hi, rfl⟩ := List.mem_iff_getElem.1 hx
    have := hin i hi
    have e : k.getD i 0 = k[i] := by simp [hi]
    rw [e] at this
    omega)
  unfold allK
  rw [show mk.c.toNat = k.length by omega]
  simpa using h2

open Go.ChangeShapes Go.WideShapes Go.ChangeAt Go.RowKit
set_option linter.unusedVariables false

theorem frontS_mono (mk : MK) (D r : Nat) (pre : List Int) (d : Nat) : ∀ x, d ≤ x → (frontS mk D r pre d).length ≤ (frontS mk D r pre x).length := by
  intro x
  induction x with
  | zero => intro h; rw [show d = 0 by omega]; exact Nat.le_refl _
  | succ x ih =>
    intro h
    by_cases hd : d ≤ x
    · have := ih hd
      rw [frontS_len]; omega
    · rw [show d = x + 1 by omega]; exact Nat.le_refl _
theorem rank_le {mk : MK} (ok : MkOk mk) {k : List Int} (h : k ∈ allK mk) : rankM mk k < (allK mk).length ∧ (allK mk).length ≤ 262144 := by
  obtain ⟨A, B, h⟩ := List.append_of_mem h
  have h1 := keysR_len mk mk.d.toNat (by have := ok.d8; omega) mk.c.toNat []
  have h2 := pow8_le (r := mk.c.toNat) (by have := ok.c6; omega)
  refine ⟨?_, Nat.le_trans h1 h2⟩
  rw [rank_at h, h, List.length_append, List.length_cons]
  omega

set_option maxRecDepth 20000 in
set_option maxHeartbeats 2000000 in
theorem l03Rank_c (mk : MK) (ok : MkOk mk) (w : World) (v : Value) (z : Zone) (xs : List Int) (h : IntsR z w v xs) (hmem : xs ∈ allK mk) :
    Calls Tryd.prog 32 #[mk.v, v] w (Ret w fun r' _ => r' = .int .i64 (rankM mk xs : Nat)) := by
  obtain ⟨hl, hs⟩ : xs.length = mk.c.toNat ∧ ∀ i, i < xs.length → 0 ≤ xs.getD i 0 ∧ xs.getD i 0 < mk.d := by
    obtain ⟨A, B, hm⟩ := List.append_of_mem hmem
    obtain ⟨-, h1, h2⟩ := allK_next hm
    refine ⟨h1, fun i hi => ?_⟩
    have e : xs.getD i 0 = xs[i] := by simp [hi]
    rw [e]
    have := h2 _ (List.getElem_mem hi)
    have := ok.d8
    omega
  have hR := rank_le ok hmem
  have hsm : Small xs := fun i hi => by have := hs i hi; have := ok.d8; omega
  have hc6 := ok.c6
  have hd8 := ok.d8
  have HOw := Lib.hid (fun (i : Nat) (hi : i ≤ xs.length) (w' : World) (e : Ext w w') (a : Option Addr) (n cap : Nat) (hv : v = .slice a n cap) => l01Own_c w' (.slice a i cap) z (xs.take i) (SliceR.front (stable_ints.ext (hv ▸ h) e) i (by obtain ⟨a', n', c', he, hn, -⟩ := SliceR.shape h; rw [hv] at he; injection he with _ e2 _; omega)) (by rw [List.length_take]; omega))
  have HA := Lib.hid (fun (i : Nat) (h : i < xs.length) => bef_step (mk := mk) (D := mk.d.toNat) h)
  have HAT : Hid (bef mk mk.d.toNat xs xs.length = []) := bef_top
  have HSt := Lib.hid (fun (r : Nat) (pre : List Int) (d : Nat) => frontS_len mk mk.d.toNat r pre d)
  have HSz := Lib.hid (fun (r : Nat) (pre : List Int) => frontS_zero mk mk.d.toNat r pre)
  have HSm := Lib.hid (fun (r : Nat) (pre : List Int) (d x : Nat) (h : d ≤ x) => frontS_mono mk mk.d.toNat r pre d x h)
  have HIH := Lib.hid (fun (i d : Nat) (hi : i < xs.length) (h : d < mk.d.toNat) (w' : World) (u : Value) (y : Zone) (g : IntsR y w' u (xs.take i ++ [(d : Int)])) => l02Count_c mk ok (xs.length - 1 - i) (xs.take i ++ [(d : Int)]) (by rw [List.length_append, List.length_singleton, List.length_take]; omega) w' u y g ((hsm.take i).snoc (by omega)))
  have HMp := Lib.hid (IntsR.mem h)
  have HX : Hid (∀ i, i < xs.length → ∃ k : Nat, xs.getD i 0 = k ∧ k < mk.d.toNat) := fun i hi => ⟨(xs.getD i 0).toNat, by have := hs i hi; omega, by have := hs i hi; omega⟩
  have HR0 : Hid (rankM mk xs = (bef mk mk.d.toNat xs 0).length) := rfl
  generalize rankM mk xs = R at *
  generalize bef mk mk.d.toNat xs = bf at *
  generalize frontS mk mk.d.toNat = fS at *
  generalize keysR mk mk.d.toNat = kR at *
  generalize (allK mk).length = NN at *
  have hRb : R ≤ 262144 := by omega
  obtain ⟨c, dd, s, m, l⟩ := mk
  unfold MK.v at *
  simp only at hl hc6 hd8 HX HIH ⊢
  obtain ⟨D, rfl⟩ := Int.eq_ofNat_of_zero_le (by omega : 0 ≤ dd)
  simp only [Int.toNat_natCast] at HX HIH
  obtain ⟨a, n, cap, rfl, hn, hmax, -⟩ := SliceR.shape h
  replace HOw := Lib.hid (fun (i : Nat) (hi : i ≤ xs.length) (w' : World) (e : Ext w w') => HOw.out i hi w' e a n cap rfl)
  have hcap : n ≤ cap := by
    obtain ⟨a', n', cap', he, -, -, hh, -⟩ := SliceR.shape h
    injection he with e1 e2 e3
    omega
  have HE := Lib.hid (fun (k : Nat) (hk : k < n) => ints_at h hk)
  rw [← hn] at HA HAT HIH HX HOw
  have hn6 : n ≤ 6 := by omega
  have hxl : Hid (xs.length = n) := hn.symm
  clear h hs hsm hn hl ok hmem hR
  go_enter Tryd.func32, Tryd.ntmps32
  go_wp2_with fail
  generalize hw0 : World.alloc _ _ = w0
  obtain ⟨e0, S0⟩ := mk_box (mk := ⟨c, D, s, m, l⟩) hw0
  clear hw0
  have HS := Lib.hid S0
  clear S0
  go_wp2_with fail
  go_loopw [5, 6, 7] (fun s5 s6 _ wr => ∃ i q : Nat, i ≤ n ∧ s6 = .int .i64 (i : Int) ∧ s5 = .int .i64 (q : Int) ∧ R = q + (bf i).length ∧ Ext w0 wr) (fun _ s6 _ _ => n - (intOf s6).toNat)
  case atStart => exact ⟨0, 0, Nat.zero_le _, rfl, rfl, by rw [HR0.out]; omega, Ext.refl _⟩
  case round =>
    obtain ⟨i, q, hi1, rfl, rfl, hbf, ew⟩ := hrel
    have Hbf := Lib.hid hbf
    clear hbf
    have etw := e0.trans ew
    by_cases hin : i < n
    · obtain ⟨b, off, rfl, -, hcx⟩ := HE.out i hin
      have Hcx := Lib.hid hcx
      replace hcx := hcx wr etw
      obtain ⟨kd, hkd, hkD⟩ := HX.out i hin
      have HAi := HA.out i hin
      have HCx : Hid (∀ w', Ext w w' → w'.cell? ⟨b, off + i, none⟩ = some (.int .i64 (kd : Int))) := fun w' e => by have := Hcx.out w' e; rw [hkd] at this; exact this
      rw [hkd] at hcx
      have hk1 : (xs.getD i 0).toNat = kd := by rw [hkd]; omega
      rw [hk1] at HAi
      have hlen := congrArg List.length HAi
      rw [List.length_append] at hlen
      have HR1 : Hid (R = q + (fS (n - 1 - i) (xs.take i) kd).length + (bf (i + 1)).length) := by show _ = _; rw [Hbf.out, hlen]; omega
      clear hkd hk1 HAi hlen Hcx
      obtain ⟨wo, rfl⟩ : ∃ wo, wo = wr := ⟨_, rfl⟩
      go_wp2_with fail
      go_loopw [5, 7] (fun s5 s7 wr => ∃ d p : Nat, d ≤ kd ∧ s7 = .int .i64 (d : Int) ∧ s5 = .int .i64 (p : Int) ∧ p = q + (fS (n - 1 - i) (xs.take i) d).length ∧ Ext w0 wr) (fun _ s7 _ => kd - (intOf s7).toNat)
      case atStart => exact ⟨0, q, Nat.zero_le _, by go_num, rfl, by rw [HSz.out]; rfl, ew⟩
      case round =>
        obtain ⟨d, p, hd, rfl, rfl, hp, ewd⟩ := hrel
        have hpR : p ≤ R := by have := HSm.out (n - 1 - i) (xs.take i) d kd hd; have := HR1.out; omega
        have Hp := Lib.hid hp
        clear hp
        have etd := e0.trans ewd
        have HCel : Hid (∀ w', Ext wr w' → w'.cell? ⟨w.heap.size, 0, none⟩ = some (.int .i64 c) ∧ w'.cell? ⟨w.heap.size, 1, none⟩ = some (.int .i64 D) ∧ w'.cell? ⟨w.heap.size, 2, none⟩ = some (.int .i64 s) ∧ w'.cell? ⟨w.heap.size, 3, none⟩ = some (.int .i64 m) ∧ w'.cell? ⟨w.heap.size, 4, none⟩ = some (.int .i64 l)) := fun w' e => HS.out.ext (ewd.trans e)
        obtain ⟨c0, c1, c2, c3, c4⟩ := HS.out.ext ewd
        have hcd := HCx.out wr etd
        by_cases hlt : d < kd
        · have HO := Lib.hid (fun (w' : World) (e : Ext wr w') => HOw.out i (by omega) w' (etd.trans e))
          have hstd := HSt.out (n - 1 - i) (xs.take i) d
          have hle := HSm.out (n - 1 - i) (xs.take i) (d + 1) kd hlt
          have HId := Lib.hid (HIH.out i d hin (by omega))
          have hdI : I64 (d : Int) := by unfold I64; omega
          have HM : Hid (∀ x ∈ xs.take i ++ [(d : Int)], I64 x) := fun x hx => by
            rcases List.mem_append.1 hx with h | h
            · exact HMp.out x (List.mem_of_mem_take h)
            · rw [List.mem_singleton.1 h]; exact hdI
          have Hrl : Hid ((xs.take i).length ≤ 6) := by show _ ≤ _; rw [List.length_take]; have := hxl.out; omega
          have hic : i ≤ cap := by omega
          generalize xs.take i = pre at *
          generalize n - 1 - i = rr at *
          generalize (kR rr (pre ++ [(d : Int)])).length = g at *
          have HP1 : Hid (p + g = q + (fS rr pre (d + 1)).length) := by show _ = _; rw [Hp.out, hstd]; omega
          have hpg : p + g ≤ 262144 := by have := HP1.out; have := HR1.out; omega
          have Hwr : Hid (IntKind.i64.wrap ((p : Int) + (g : Int)) = ((p + g : Nat) : Int)) := by show _ = _; rw [IntWalk.i64_in _ (by omega)]; omega
          clear HIH HSt hstd hle
          go_wp2_with fail
          go_region_held3 (fun w' => w'.cell? ⟨w.heap.size, 0, none⟩ = some (.int .i64 c) ∧ w'.cell? ⟨w.heap.size, 1, none⟩ = some (.int .i64 D) ∧ w'.cell? ⟨w.heap.size, 2, none⟩ = some (.int .i64 s) ∧ w'.cell? ⟨w.heap.size, 3, none⟩ = some (.int .i64 m) ∧ w'.cell? ⟨w.heap.size, 4, none⟩ = some (.int .i64 l)) (exact HCel.out _ (by repeat (first | exact Ext.refl _ | assumption | (refine Ext.trans ?_ (Ext.alloc _ _)) | (refine Ext.trans ?_ (Ext.drew _)) | (refine Ext.trans ?_ (by assumption))))) (first | (go_at_call 41; (with_reducible refine (HO.out _ (by repeat (first | exact Ext.refl _ | assumption | (refine Ext.trans ?_ (Ext.alloc _ _)) | (refine Ext.trans ?_ (Ext.drew _)) | (refine Ext.trans ?_ (by assumption))))).mono ?_); rintro e w7 hr7; obtain ⟨r7, rfl, o7, e7⟩ := ret_ext hr7; clear hr7; have o7' := OwnP.lower (B' := wr.heap.size) o7 (Ext.size (by repeat (first | exact Ext.refl _ | assumption | (refine Ext.trans ?_ (Ext.alloc _ _)) | (refine Ext.trans ?_ (Ext.drew _)) | (refine Ext.trans ?_ (by assumption))))); obtain ⟨a7, n7, k7, rfl, -⟩ := OwnP.shape o7') | (refine step_append_of (by rfl) _ _ 28 (by rfl) (by rfl) (by rfl) (fun ty => run_appendR (f := Value.int .i64) (B := wr.heap.size) 28 ty 0 8 Tryd.underlying28 Tryd.infoI64 rfl (fun _ => rfl) (OwnP.ext o7' (by repeat (first | exact Ext.refl _ | assumption | (refine Ext.trans ?_ (Ext.alloc _ _)) | (refine Ext.trans ?_ (Ext.drew _)) | (refine Ext.trans ?_ (by assumption))))) (E := IntR) (fun h => h.1) (ys := [(d : Int)]) (by first | exact ints_one _ (d : Int) _ hdI | exact stable_ints.ext (ints_one _ (d : Int) _ hdI) (by repeat (first | exact Ext.refl _ | assumption | (refine Ext.trans ?_ (Ext.alloc _ _)) | (refine Ext.trans ?_ (Ext.drew _)) | (refine Ext.trans ?_ (by assumption))))) (by have := Hrl.out; rw [List.length_singleton]; omega) (by decide) (Ext.size (by repeat (first | exact Ext.refl _ | assumption | (refine Ext.trans ?_ (Ext.alloc _ _)) | (refine Ext.trans ?_ (Ext.drew _)) | (refine Ext.trans ?_ (by assumption)))))) ?_; intro v8 w8 h8; obtain ⟨o8, -, b8, -⟩ := h8; have e8 : Ext wr w8 := Ext.to' (a := wr) (by repeat (first | exact Ext.refl _ | assumption | (refine Ext.trans ?_ (Ext.alloc _ _)) | (refine Ext.trans ?_ (Ext.drew _)) | (refine Ext.trans ?_ (by assumption)))) b8; clear b8; have i8 := OwnP.ints o8 HM.out (Nat.le_refl _); obtain ⟨a8, n8, k8, rfl, -⟩ := OwnP.shape o8) | (go_at_call 25; refine (HId.out _ _ _ (stable_ints.ext i8 (by repeat (first | exact Ext.refl _ | assumption | (refine Ext.trans ?_ (Ext.alloc _ _)) | (refine Ext.trans ?_ (Ext.drew _)) | (refine Ext.trans ?_ (by assumption)))))).mono ?_; rintro e w9 hr9; obtain ⟨r9, rfl, rfl, e9⟩ := ret_ext hr9; clear hr9; have e99 : Ext wr w9 := (by repeat (first | exact Ext.refl _ | assumption | (refine Ext.trans ?_ (Ext.alloc _ _)) | (refine Ext.trans ?_ (Ext.drew _)) | (refine Ext.trans ?_ (by assumption))))) | fail)
          all_goals (go_wp2_with fail; go_roundw)
          any_goals (simp [intOf]; omega)
          all_goals exact ⟨d + 1, p + g, by omega, by go_num, by first | exact congrArg (Value.int .i64) Hwr.out | go_num, HP1.out, ewd.trans e99⟩
        · have hdk : d = kd := by omega
          have HR2 : Hid (R = p + (bf (i + 1)).length) := by show _ = _; rw [HR1.out, Hp.out, hdk]
          clear hdk
          go_wp2_with fail
          go_roundw
          any_goals (simp [intOf]; omega)
          all_goals exact ⟨i + 1, p, by omega, by go_num, rfl, HR2.out, ewd⟩
    · have hin2 : i = n := by omega
      have HR1 : Hid (R = q) := by show _ = _; rw [Hbf.out, hin2, HAT.out]; rfl
      clear hin2
      go_wp2_with fail
      go_ret
      exact ⟨_, rfl, by rw [HR1.out]; rfl, etw⟩

open Go.ChangeShapes Go.WideShapes Go.ChangeAt Go.RowKit
set_option linter.unusedVariables false

theorem sweep_at {mk : MK} {D r : Nat} {pre : List Int} {d q : Nat} {k : List Int} (h : (sweep mk D r pre d)[q]? = some k) : d < D ∧ (q < (keysR mk D r (pre ++ [(d : Int)])).length → (keysR mk D r (pre ++ [(d : Int)]))[q]? = some k) ∧ (¬ q < (keysR mk D r (pre ++ [(d : Int)])).length → (sweep mk D r pre (d + 1))[q - (keysR mk D r (pre ++ [(d : Int)])).length]? = some k) := by
  have hd : d < D := by
    rcases Nat.lt_or_ge d D with hd | hd
    · exact hd
    · rw [sweep_end mk r pre hd] at h; simp at h
  rw [sweep_step mk r pre hd] at h
  refine ⟨hd, fun hq => ?_, fun hq => ?_⟩
  · rw [List.getElem?_append_left hq] at h; exact h
  · rw [List.getElem?_append_right (by omega)] at h; exact h
theorem keys_at {mk : MK} {D r : Nat} {pre : List Int} {q : Nat} {k : List Int} (h : (keysR mk D (r + 1) pre)[q]? = some k) : (sweep mk D r pre 0)[q]? = some k := by
  rw [keysR_succ] at h
  split at h
  · exact h
  · simp at h
theorem keys_at0 {mk : MK} {D : Nat} {pre : List Int} {q : Nat} {k : List Int} (h : (keysR mk D 0 pre)[q]? = some k) : k = pre := by
  rw [keysR_zero] at h
  split at h
  · split at h
    · cases q with
      | zero => simpa using h.symm
      | succ q => simp at h
    · simp at h
  · simp at h
def sliceN : Value → Nat
  | .slice _ n _ => n
  | _ => 0

set_option maxRecDepth 20000 in
set_option maxHeartbeats 2000000 in
theorem KeyAtSpec_c (mk : MK) (hm : isMaker mk = true) (w : World) (q0 : Nat) (key : List Int) (hk : (allK mk)[q0]? = some key) :
    Calls Tryd.prog 26 #[mk.v, .int .i64 (q0 : Int)] w (Ret w fun r' w' => ∃ u, r' = .tuple #[u, .int .i64 0] ∧ OwnP (Value.int .i64) 2 w.heap.size w' u key) := by
  have ok := mkOk hm
  have hc6 := ok.c6
  have hd8 := ok.d8
  have HM := Lib.hid (fun (w' : World) => IsMakerSpec_c w' mk)
  rw [hm] at HM
  have hN : q0 < (allK mk).length ∧ (allK mk).length ≤ 262144 := by
    have h1 := keysR_len mk mk.d.toNat (by omega) mk.c.toNat []
    have h2 := pow8_le (r := mk.c.toNat) (by omega)
    exact ⟨(List.getElem?_eq_some_iff.1 hk).1, Nat.le_trans h1 h2⟩
  have HC0 := Lib.hid (fun (w' : World) => l02Count_c mk ok mk.c.toNat [] (by simp) w' (.slice none 0 0) (.old w') (SliceR.nil _ _ _) (fun i hi => by simp at hi))
  have hcn : (keysR mk mk.d.toNat mk.c.toNat []).length = (allK mk).length := rfl
  rw [hcn] at HC0
  have HK0 : Hid ((keysR mk mk.d.toNat mk.c.toNat [])[q0]? = some key) := hk
  have HSw := Lib.hid (fun (r : Nat) (pre : List Int) (d q : Nat) (h : (sweep mk mk.d.toNat r pre d)[q]? = some key) => sweep_at h)
  have HKs := Lib.hid (fun (r : Nat) (pre : List Int) (q : Nat) (h : (keysR mk mk.d.toNat (r + 1) pre)[q]? = some key) => keys_at h)
  have HKz := Lib.hid (fun (pre : List Int) (q : Nat) (h : (keysR mk mk.d.toNat 0 pre)[q]? = some key) => keys_at0 h)
  have HIH := Lib.hid (fun (r : Nat) (pre : List Int) (d : Nat) (hp : pre.length + 1 + r = mk.c.toNat) (hs : Small pre) (hd : d < mk.d.toNat) (w' : World) (u : Value) (y : Zone) (g : IntsR y w' u (pre ++ [(d : Int)])) => l02Count_c mk ok r (pre ++ [(d : Int)]) (by rw [List.length_append, List.length_singleton]; omega) w' u y g (hs.snoc (by omega)))
  have HLn := Lib.hid (fun (r : Nat) (pre : List Int) (hr : r ≤ 6) => Nat.le_trans (keysR_len mk mk.d.toNat (by omega) r pre) (pow8_le hr))
  generalize (allK mk).length = NN at *
  generalize sweep mk mk.d.toNat = sw at *
  generalize keysR mk mk.d.toNat = kR at *
  clear hcn hk hm
  obtain ⟨c, dd, s, m, l⟩ := mk
  unfold MK.v at *
  simp only at hc6 hd8 HC0 HK0 HSw HIH HM ⊢
  obtain ⟨D, rfl⟩ := Int.eq_ofNat_of_zero_le (by omega : 0 ≤ dd)
  obtain ⟨n, rfl⟩ := Int.eq_ofNat_of_zero_le (by omega : 0 ≤ c)
  simp only [Int.toNat_natCast] at HC0 HK0 HSw HIH
  clear ok
  have hq0 : decide ((q0 : Int) < 0) = false := decide_eq_false (by omega)
  have hqN : decide ((NN : Int) ≤ (q0 : Int)) = false := decide_eq_false (by omega)
  have hqN2 : decide (NN ≤ q0) = false := decide_eq_false (by omega)
  go_enter Tryd.func26, Tryd.ntmps26
  go_wp2_with fail
  generalize hw0 : World.alloc _ _ = w0
  obtain ⟨e0, S0⟩ := mk_box (mk := ⟨n, D, s, m, l⟩) hw0
  clear hw0
  have HS := Lib.hid S0
  obtain ⟨c0, c1, c2, c3, c4⟩ := S0
  go_wp2_with fail
  refine Calls.mono (HM.out w0) ?_
  rintro e w1 hr
  obtain ⟨r, rfl, rfl, e1⟩ := ret_ext hr
  clear hr c0 c1 c2 c3 c4
  obtain ⟨c0, c1, c2, c3, c4⟩ := HS.out.ext e1
  go_wp2_with fail
  refine Calls.mono (HC0.out w1) ?_
  rintro e w2 hr
  obtain ⟨r, rfl, rfl, e2⟩ := ret_ext hr
  clear hr c0 c1 c2 c3 c4 HC0 HM
  replace HS := Lib.hid (HS.out.ext (e1.trans e2))
  have et2 := (e0.trans e1).trans e2
  go_wp2_with fail
  have ow0 : OwnP (Value.int .i64) 2 w2.heap.size (w2.alloc (.cells #[] 2)) (.slice (some ⟨w2.heap.size, 0, none⟩) 0 0) [] := OwnP.empty (Nat.le_refl _)
  have e3 : Ext w2 (w2.alloc (.cells #[] 2)) := Ext.alloc _ _
  generalize w2.alloc (.cells #[] 2) = w3 at *
  go_loopw [1, 6, 7, 8] (fun s1 s6 _ _ wr => ∃ (r q : Nat) (pre : List Int), pre.length + r = n ∧ Small pre ∧ (∀ x ∈ pre, I64 x) ∧ OwnP (Value.int .i64) 2 w2.heap.size wr s6 pre ∧ s1 = .int .i64 (q : Int) ∧ q ≤ 262144 ∧ (kR r pre)[q]? = some key ∧ Ext w2 wr) (fun _ s6 _ _ _ => n - sliceN s6)
  case atStart => exact ⟨n, q0, [], by simp, (fun i hi => by simp at hi), (fun x hx => by simp at hx), ow0, rfl, by omega, HK0.out, e3⟩
  case round =>
    obtain ⟨r, q, pre, hpl, hsm, hpi, own, rfl, hq, hkey, ew⟩ := hrel
    have Hkey := Lib.hid hkey
    have Hsm := Lib.hid hsm
    have Hpi := Lib.hid hpi
    have Hown := Lib.hid own
    clear hkey hsm hpi
    obtain ⟨c0, c1, c2, c3, c4⟩ := HS.out.ext ew
    have etw := et2.trans ew
    have Hs2 : Hid (w.heap.size ≤ w2.heap.size) := et2.size
    obtain ⟨a6, n6, k6, rfl, hn6, -⟩ := OwnP.shape own
    have Hn6 := Lib.hid hn6
    clear own
    cases r with
    | zero =>
      have HH : Hid (key = pre) := HKz.out pre q Hkey.out
      have hnn : ((n6 : Nat) : Int) = n := by omega
      have hlt : ¬ (n6 : Int) < (n : Int) := by omega
      clear hnn hn6
      go_wp2_with fail
      go_ret2
      exact ⟨_, rfl, ⟨_, rfl, by rw [HH.out]; exact Hown.out.lower Hs2.out⟩, etw⟩
    | succ r =>
      have HK1 : Hid ((sw r pre 0)[q]? = some key) := HKs.out r pre q Hkey.out
      have hlt : (n6 : Int) < (n : Int) := by omega
      have hr6 : r ≤ 6 := by omega
      have hpr : pre.length + 1 + r = n := by omega
      have hpl6 : pre.length ≤ 6 := by omega
      have HLr := Lib.hid (fun (p : List Int) => HLn.out r p hr6)
      have HId0 := Lib.hid (fun (d : Nat) (hd : d < D) => HIH.out r pre d hpr Hsm.out hd)
      clear hn6 Hkey
      obtain ⟨wo, rfl⟩ : ∃ wo, wo = wr := ⟨_, rfl⟩
      go_wp2_with fail
      clear c0 c1 c2 c3 c4
      go_loopw [1, 7, 8] (fun s1 s7 _ wr => ∃ d q : Nat, d ≤ D ∧ s7 = .int .i64 (d : Int) ∧ s1 = .int .i64 (q : Int) ∧ q ≤ 262144 ∧ (sw r pre d)[q]? = some key ∧ Ext wo wr) (fun _ s7 _ _ => D - (intOf s7).toNat)
      case atStart => exact ⟨0, q, Nat.zero_le _, by go_num, rfl, hq, HK1.out, Ext.refl _⟩
      case round =>
        obtain ⟨d, q2, hd, rfl, rfl, hq2, hsw, ewd⟩ := hrel
        obtain ⟨hlt2, hs1, hs2⟩ := HSw.out r pre d q2 hsw
        have HS1 := Lib.hid hs1
        have HS2 := Lib.hid hs2
        have etd := etw.trans ewd
        have HCel : Hid (∀ w', Ext wr w' → w'.cell? ⟨w.heap.size, 0, none⟩ = some (.int .i64 n) ∧ w'.cell? ⟨w.heap.size, 1, none⟩ = some (.int .i64 D) ∧ w'.cell? ⟨w.heap.size, 2, none⟩ = some (.int .i64 s) ∧ w'.cell? ⟨w.heap.size, 3, none⟩ = some (.int .i64 m) ∧ w'.cell? ⟨w.heap.size, 4, none⟩ = some (.int .i64 l)) := fun w' e => HS.out.ext ((ew.trans ewd).trans e)
        obtain ⟨c0, c1, c2, c3, c4⟩ := HS.out.ext (ew.trans ewd)
        have HO := Lib.hid (fun (w' : World) (e : Ext wr w') => l01Own_c w' (.slice a6 n6 k6) ⟨w2.heap.size, w'.heap.size, true⟩ pre (OwnP.ints (Hown.out.ext (ewd.trans e)) Hpi.out (Nat.le_refl _)) (by omega))
        have HId := Lib.hid (HId0.out d hlt2)
        have hdI : I64 (d : Int) := by unfold I64; omega
        have HMm : Hid (∀ x ∈ pre ++ [(d : Int)], I64 x) := fun x hx => by
          rcases List.mem_append.1 hx with h | h
          · exact Hpi.out x h
          · rw [List.mem_singleton.1 h]; exact hdI
        have Hrl : Hid (pre.length ≤ 6) := hpl6
        have hg := HLr.out (pre ++ [(d : Int)])
        have HS3 := Lib.hid (fun (x : Nat) (h : (kR r (pre ++ [(d : Int)]))[x]? = some key) => h)
        clear hsw hs1 hs2 HSw HLn HLr HIH HKs HKz
        obtain ⟨g, hgg⟩ : ∃ g, g = (kR r (pre ++ [(d : Int)])).length := ⟨_, rfl⟩
        rw [← hgg] at hg HS1 HS2 HId
        clear hgg
        have Hwr : Hid (g ≤ q2 → IntKind.i64.wrap ((q2 : Int) - (g : Int)) = ((q2 - g : Nat) : Int)) := fun hge => by rw [IntWalk.i64_in _ (by omega)]; omega
        go_wp2_with fail
        go_region_held3 (fun w' => w'.cell? ⟨w.heap.size, 0, none⟩ = some (.int .i64 n) ∧ w'.cell? ⟨w.heap.size, 1, none⟩ = some (.int .i64 D) ∧ w'.cell? ⟨w.heap.size, 2, none⟩ = some (.int .i64 s) ∧ w'.cell? ⟨w.heap.size, 3, none⟩ = some (.int .i64 m) ∧ w'.cell? ⟨w.heap.size, 4, none⟩ = some (.int .i64 l)) (exact HCel.out _ (by repeat (first | exact Ext.refl _ | assumption | (refine Ext.trans ?_ (Ext.alloc _ _)) | (refine Ext.trans ?_ (Ext.drew _)) | (refine Ext.trans ?_ (by assumption))))) (first | (go_at_call 41; (with_reducible refine (HO.out _ (by repeat (first | exact Ext.refl _ | assumption | (refine Ext.trans ?_ (Ext.alloc _ _)) | (refine Ext.trans ?_ (Ext.drew _)) | (refine Ext.trans ?_ (by assumption))))).mono ?_); rintro e w7 hr7; obtain ⟨r7, rfl, o7, e7⟩ := ret_ext hr7; clear hr7; have o7' := OwnP.lower (B' := wr.heap.size) o7 (Ext.size (by repeat (first | exact Ext.refl _ | assumption | (refine Ext.trans ?_ (Ext.alloc _ _)) | (refine Ext.trans ?_ (Ext.drew _)) | (refine Ext.trans ?_ (by assumption))))); obtain ⟨a7, n7, k7, rfl, -⟩ := OwnP.shape o7') | (refine step_append_of (by rfl) _ _ 28 (by rfl) (by rfl) (by rfl) (fun ty => run_appendR (f := Value.int .i64) (B := wr.heap.size) 28 ty 0 8 Tryd.underlying28 Tryd.infoI64 rfl (fun _ => rfl) (OwnP.ext o7' (by repeat (first | exact Ext.refl _ | assumption | (refine Ext.trans ?_ (Ext.alloc _ _)) | (refine Ext.trans ?_ (Ext.drew _)) | (refine Ext.trans ?_ (by assumption))))) (E := IntR) (fun h => h.1) (ys := [(d : Int)]) (by first | exact ints_one _ (d : Int) _ hdI | exact stable_ints.ext (ints_one _ (d : Int) _ hdI) (by repeat (first | exact Ext.refl _ | assumption | (refine Ext.trans ?_ (Ext.alloc _ _)) | (refine Ext.trans ?_ (Ext.drew _)) | (refine Ext.trans ?_ (by assumption))))) (by have := Hrl.out; rw [List.length_singleton]; omega) (by decide) (Ext.size (by repeat (first | exact Ext.refl _ | assumption | (refine Ext.trans ?_ (Ext.alloc _ _)) | (refine Ext.trans ?_ (Ext.drew _)) | (refine Ext.trans ?_ (by assumption)))))) ?_; intro v8 w8 h8; obtain ⟨o8, -, b8, -⟩ := h8; have e8 : Ext wr w8 := Ext.to' (a := wr) (by repeat (first | exact Ext.refl _ | assumption | (refine Ext.trans ?_ (Ext.alloc _ _)) | (refine Ext.trans ?_ (Ext.drew _)) | (refine Ext.trans ?_ (by assumption)))) b8; clear b8; have i8 := OwnP.ints o8 HMm.out (Nat.le_refl _); obtain ⟨a8, n8, k8, rfl, -⟩ := OwnP.shape o8) | (go_at_call 25; refine (HId.out _ _ _ (stable_ints.ext i8 (by repeat (first | exact Ext.refl _ | assumption | (refine Ext.trans ?_ (Ext.alloc _ _)) | (refine Ext.trans ?_ (Ext.drew _)) | (refine Ext.trans ?_ (by assumption)))))).mono ?_; rintro e w9 hr9; obtain ⟨r9, rfl, rfl, e9⟩ := ret_ext hr9; clear hr9; have e99 : Ext wr w9 := (by repeat (first | exact Ext.refl _ | assumption | (refine Ext.trans ?_ (Ext.alloc _ _)) | (refine Ext.trans ?_ (Ext.drew _)) | (refine Ext.trans ?_ (by assumption))))) | fail)
        all_goals clear c0 c1 c2 c3 c4
        all_goals by_cases hlg : q2 < g
        any_goals (have hge : g ≤ q2 := by omega
                   have HW := Hwr.out hge
                   have HQ : Hid ((sw r pre (d + 1))[q2 - g]? = some key) := HS2.out hlg
                   clear HS1 HS2 hge o7' o8 i8
                   go_wp2_with fail
                   go_roundw
                   any_goals (simp [intOf]; omega)
                   exact ⟨d + 1, q2 - g, by omega, by go_num, by go_num, by omega, HQ.out, ewd.trans e99⟩)
        all_goals (have HQ : Hid ((kR r (pre ++ [(d : Int)]))[q2]? = some key) := HS1.out hlg
                   have own9 := Hown.out.ext (ewd.trans e99)
                   have hsz9 : w2.heap.size ≤ w9.heap.size := ((ew.trans ewd).trans e99).size
                   have Hsn : Hid (Small (pre ++ [(d : Int)])) := Hsm.out.snoc (by omega)
                   clear HS1 HS2 o7' o8 i8 Hwr
                   go_wp2_with (at_builtin; (refine wpList_append1 (f := Value.int .i64) (e := 2) (B := w2.heap.size) (xs := pre) rfl _ _ 28 rfl 0 8 Tryd.underlying28 Tryd.infoI64 rfl (fun _ => rfl) rfl own9 (d : Int) rfl (by omega) (by omega) hsz9 ?_); intro v10 w10 own10 hg10 hb10)
                   have HN : Hid (sliceN v10 = n6 + 1) := by
                     obtain ⟨a', n', k', rfl, hn', -⟩ := OwnP.shape own10
                     show n' = n6 + 1
                     rw [hn', List.length_append, List.length_singleton, Hn6.out]
                   have HO10 := Lib.hid own10
                   have HE10 : Hid (Ext w2 w10) := Ext.to' (a := w2) ((ew.trans ewd).trans e99) hb10
                   clear own10 own9 hg10 hb10
                   go_wp2_with fail
                   go_roundw
                   case measure => (show n - sliceN v10 < n - n6; rw [HN.out]; omega)
                   case rel => exact ⟨r, q2, pre ++ [(d : Int)], by rw [List.length_append, List.length_singleton]; omega, Hsn.out, HMm.out, HO10.out, rfl, hq2, HQ.out, HE10.out⟩)

open Go.ChangeShapes Go.WideShapes Go.ChangeAt Go.RowKit
set_option linter.unusedVariables false

def codeM (mk : MK) (ser sec : Int) : Int := if isMaker mk = true then (if (inB ser 0 25 && inB sec 0 ((countM mk : Int) - 1)) = true then 0 else 2) else 1
theorem codeM_zero {mk : MK} {ser sec : Int} (h : codeM mk ser sec = 0) : isMaker mk = true ∧ (0 ≤ ser ∧ ser ≤ 25) ∧ 0 ≤ sec ∧ sec ≤ (countM mk : Int) - 1 := by
  unfold codeM at h
  split at h
  · rename_i hm
    split at h
    · rename_i hb
      rw [Bool.and_eq_true, inB_iff, inB_iff] at hb
      exact ⟨hm, hb.1, hb.2⟩
    · cases h
  · cases h

set_option maxRecDepth 20000 in
set_option maxHeartbeats 1000000 in
theorem l28Code_c (w : World) (mk : MK) (ser sec : Int) : Calls Tryd.prog 24 #[mk.v, .int .i64 ser, .int .i64 sec] w (Ret w fun r _ => r = .int .i64 (codeM mk ser sec)) := by
  have HM := Lib.hid (fun (w' : World) => IsMakerSpec_c w' mk)
  have HCo := Lib.hid (fun (h : isMaker mk = true) (w' : World) => l02Count_c mk (mkOk h) mk.c.toNat [] (by simp) w' (.slice none 0 0) (.old w') (SliceR.nil _ _ _) (fun i hi => by simp at hi))
  have hcn : (keysR mk mk.d.toNat mk.c.toNat []).length = countM mk := rfl
  rw [hcn] at HCo
  have HN : Hid (isMaker mk = true → countM mk ≤ 262144) := fun h => countM_le (mkOk h)
  have HR : Hid (codeM mk ser sec = if isMaker mk = true then (if (inB ser 0 25 && inB sec 0 ((countM mk : Int) - 1)) = true then 0 else 2) else 1) := rfl
  clear hcn
  generalize codeM mk ser sec = res at *
  generalize countM mk = N at *
  generalize isMaker mk = q at *
  obtain ⟨c, d, s, m, l⟩ := mk
  unfold MK.v at *
  go_enter Tryd.func24, Tryd.ntmps24
  go_wp2_with fail
  generalize hw2 : World.alloc w _ = w1
  obtain ⟨e1, S1⟩ := mk_box (mk := ⟨c, d, s, m, l⟩) hw2
  clear hw2
  have HS := Lib.hid S1
  obtain ⟨c0, c1, c2, c3, c4⟩ := S1
  go_wp2_with fail
  refine Calls.mono (HM.out w1) ?_
  rintro e w2 hr
  obtain ⟨r, rfl, rfl, e2⟩ := ret_ext hr
  clear hr c0 c1 c2 c3 c4
  obtain ⟨c0, c1, c2, c3, c4⟩ := HS.out.ext e2
  have et := e1.trans e2
  cases q with
  | false =>
    have HH : Hid (res = 1) := by show _ = _; rw [HR.out, if_neg (by decide)]
    clear HR
    go_wp2_with fail
    go_ret
    exact ⟨_, rfl, by rw [HH.out]; rfl, et⟩
  | true =>
    have HC2 := Lib.hid (HCo.out rfl)
    have hN := HN.out rfl
    have HH : Hid (res = if (inB ser 0 25 && inB sec 0 ((N : Int) - 1)) = true then 0 else 2) := by show _ = _; rw [HR.out, if_pos rfl]
    clear HCo HN HM HR
    have hwN : IntKind.i64.wrap ((N : Int) - 1) = (N : Int) - 1 := IntWalk.i64_in _ (by omega)
    go_wp2_with fail
    refine Calls.mono (l01In_c w2 ser 0 25) ?_
    rintro e w3 hr
    obtain ⟨rfl, hd, g3⟩ := retq_ext hr
    clear hr c0 c1 c2 c3 c4
    have et3 := et.trans g3
    obtain ⟨c0, c1, c2, c3, c4⟩ := HS.out.ext (e2.trans g3)
    cases h0 : inB ser 0 25 with
    | false =>
      have HH2 : Hid (res = 2) := by show _ = _; rw [HH.out, h0]; rfl
      clear HH h0
      go_wp2_with fail
      go_ret
      exact ⟨_, rfl, by rw [HH2.out]; rfl, et3⟩
    | true =>
      go_wp2_with fail
      refine Calls.mono (HC2.out w3) ?_
      rintro e w4 hr
      obtain ⟨r, rfl, rfl, e4⟩ := ret_ext hr
      clear hr
      go_wp2_with fail
      refine Calls.mono (l01In_c w4 sec 0 ((N : Int) - 1)) ?_
      rintro e w5 hr
      obtain ⟨rfl, hd5, g5⟩ := retq_ext hr
      clear hr
      have et5 := (et3.trans e4).trans g5
      cases h1 : inB sec 0 ((N : Int) - 1) with
      | false =>
        have HH2 : Hid (res = 2) := by show _ = _; rw [HH.out, h0, h1]; rfl
        clear HH h0 h1
        go_wp2_with fail
        go_ret
        exact ⟨_, rfl, by rw [HH2.out]; rfl, et5⟩
      | true =>
        have HH2 : Hid (res = 0) := by show _ = _; rw [HH.out, h0, h1]; rfl
        clear HH h0 h1
        go_wp2_with fail
        go_ret
        exact ⟨_, rfl, by rw [HH2.out]; rfl, et5⟩

/-- the number of the key of a stamp -/
def idxM (mk : MK) (l : List UInt8) (sec : Int) : Nat := ((numI l (lenM mk) + (countM mk : Int) - sec) % (countM mk : Int)).toNat
theorem idxM_lt {mk : MK} {l : List UInt8} {sec : Int} (h : 0 < countM mk) : idxM mk l sec < (allK mk).length := by
  unfold idxM
  have := Int.emod_lt_of_pos (numI l (lenM mk) + (countM mk : Int) - sec) (show (0 : Int) < (countM mk : Int) by omega)
  have := Int.emod_nonneg (numI l (lenM mk) + (countM mk : Int) - sec) (show (countM mk : Int) ≠ 0 by omega)
  show _ < countM mk
  omega
/-- what reading a stamp gives: a key, a series, a code -/
def ReadOut (mk : MK) (l : List UInt8) (sec : Int) (B : Nat) (r : Value) (w : World) : Prop :=
  (codeM mk 0 sec ≠ 0 → r = .tuple #[.slice none 0 0, .int .i64 0, .int .i64 (codeM mk 0 sec)]) ∧
  (codeM mk 0 sec = 0 → readB (lenM mk) (countM mk) l = false → r = .tuple #[.slice none 0 0, .int .i64 0, .int .i64 6]) ∧
  (codeM mk 0 sec = 0 → readB (lenM mk) (countM mk) l = true → ∃ u key, r = .tuple #[u, .int .i64 ((byteN l 0 : Int) - 65), .int .i64 0] ∧ OwnP (Value.int .i64) 2 B w u key ∧ (allK mk)[idxM mk l sec]? = some key)

set_option maxRecDepth 20000 in
set_option maxHeartbeats 1000000 in
theorem ReadStampSpec_c (w : World) (mk : MK) (s : ByteArray) (hs : s.size ≤ maxLen) (sec : Int) :
    Calls Tryd.prog 10 #[mk.v, .string s, .int .i64 sec] w (Ret w fun r w' => ReadOut mk s.data.toList sec w.heap.size r w') := by
  have HC := Lib.hid (fun (w' : World) => l28Code_c w' mk 0 sec)
  have HCo := Lib.hid (fun (h : isMaker mk = true) (w' : World) => l02Count_c mk (mkOk h) mk.c.toNat [] (by simp) w' (.slice none 0 0) (.old w') (SliceR.nil _ _ _) (fun i hi => by simp at hi))
  have hcn : (keysR mk mk.d.toNat mk.c.toNat []).length = countM mk := rfl
  rw [hcn] at HCo
  have HRd := Lib.hid (fun (h : isMaker mk = true) (w' : World) => l28Read_c w' mk (mkOk h) s hs)
  unfold ReadRes at HRd
  have HKA := Lib.hid (fun (hm : isMaker mk = true) (key : List Int) (hk : (allK mk)[idxM mk s.data.toList sec]? = some key) (w' : World) => KeyAtSpec_c mk hm w' (idxM mk s.data.toList sec) key hk)
  have HZ : Hid (codeM mk 0 sec = 0 → isMaker mk = true ∧ 0 ≤ sec ∧ sec ≤ (countM mk : Int) - 1 ∧ countM mk ≤ 262144) := fun h => ⟨(codeM_zero h).1, (codeM_zero h).2.2.1, (codeM_zero h).2.2.2, countM_le (mkOk (codeM_zero h).1)⟩
  have HKey : Hid (0 < countM mk → ∃ key, (allK mk)[idxM mk s.data.toList sec]? = some key) := fun h => ⟨_, List.getElem?_eq_getElem (idxM_lt h)⟩
  have HIx : Hid (idxM mk s.data.toList sec = ((numI s.data.toList (lenM mk) + (countM mk : Int) - sec) % (countM mk : Int)).toNat) := rfl
  have HYes := Lib.hid (fun (h : readB (lenM mk) (countM mk) s.data.toList = true) => readB_yes h)
  have HRO : Hid (∀ r w', ((codeM mk 0 sec ≠ 0 → r = .tuple #[.slice none 0 0, .int .i64 0, .int .i64 (codeM mk 0 sec)]) ∧
    (codeM mk 0 sec = 0 → readB (lenM mk) (countM mk) s.data.toList = false → r = .tuple #[.slice none 0 0, .int .i64 0, .int .i64 6]) ∧
    (codeM mk 0 sec = 0 → readB (lenM mk) (countM mk) s.data.toList = true → ∃ u key, r = .tuple #[u, .int .i64 ((byteN s.data.toList 0 : Int) - 65), .int .i64 0] ∧ OwnP (Value.int .i64) 2 w.heap.size w' u key ∧ (allK mk)[idxM mk s.data.toList sec]? = some key)) → ReadOut mk s.data.toList sec w.heap.size r w') := fun r w' h => h
  generalize ReadOut mk s.data.toList sec w.heap.size = RO at *
  generalize idxM mk s.data.toList sec = ix at *
  generalize readB (lenM mk) (countM mk) s.data.toList = b at *
  generalize codeM mk 0 sec = cd at *
  generalize numI s.data.toList (lenM mk) = nn at *
  generalize (byteN s.data.toList 0 : Int) - 65 = ser at *
  generalize isMaker mk = qm at *
  generalize countM mk = N at *
  generalize allK mk = AK at *
  generalize hL : s.data.toList = l at *
  clear hL hcn hs
  obtain ⟨mc, md, ms, mm, ml⟩ := mk
  unfold MK.v at *
  go_enter Tryd.func10, Tryd.ntmps10
  go_wp2_with fail
  generalize hw2 : World.alloc w _ = w1
  obtain ⟨e1, S1⟩ := mk_box (mk := ⟨mc, md, ms, mm, ml⟩) hw2
  clear hw2
  have HS := Lib.hid S1
  obtain ⟨c0, c1, c2, c3, c4⟩ := S1
  go_wp2_with fail
  refine Calls.mono (HC.out w1) ?_
  rintro e w2 hr
  obtain ⟨r, rfl, rfl, e2⟩ := ret_ext hr
  clear hr c0 c1 c2 c3 c4
  obtain ⟨c0, c1, c2, c3, c4⟩ := HS.out.ext e2
  have et := e1.trans e2
  by_cases hcd : cd = 0
  · obtain ⟨hqm, hs0, hs1, hN⟩ := HZ.out hcd
    have HRd2 := Lib.hid (HRd.out hqm w2)
    have HCo2 := Lib.hid (HCo.out hqm)
    have HKA2 := Lib.hid (HKA.out hqm)
    have Hcd := Lib.hid hcd
    have hbc : (cd == 0) = true := by rw [beq_iff_eq]; exact hcd
    clear HC HCo HKA HRd HZ hcd
    go_wp2_with fail
    refine Calls.mono HRd2.out ?_
    rintro e w3 hr
    obtain ⟨r, rfl, ⟨x, y, rfl, hxy⟩, e3⟩ := ret_ext hr
    clear hr c0 c1 c2 c3 c4
    have Hxy := Lib.hid hxy
    clear hxy
    have et3 := et.trans e3
    obtain ⟨c0, c1, c2, c3, c4⟩ := HS.out.ext (e2.trans e3)
    cases b with
    | false =>
      clear HRd2 HCo2 HKA2
      go_wp2_with fail
      go_ret3
      exact ⟨_, rfl, HRO.out _ _ ⟨fun h => absurd Hcd.out h, fun _ _ => rfl, fun _ h => by cases h⟩, et3⟩
    | true =>
      obtain ⟨rfl, rfl⟩ := Hxy.out rfl
      obtain ⟨-, -, -, hn0, hn1, -⟩ := HYes.out rfl
      obtain ⟨key, hkey⟩ := HKey.out (by omega)
      have HKk := Lib.hid hkey
      have HK3 := Lib.hid (HKA2.out key hkey)
      clear HRd2 HKA2 hkey HKey HYes Hxy
      go_wp2_with fail
      refine Calls.mono (HCo2.out w3) ?_
      rintro e w4 hr
      obtain ⟨r, rfl, rfl, e4⟩ := ret_ext hr
      clear hr c0 c1 c2 c3 c4
      have et4 := et3.trans e4
      have HCel : Hid (∀ w', Ext w4 w' → w'.cell? ⟨w.heap.size, 0, none⟩ = some (.int .i64 mc) ∧ w'.cell? ⟨w.heap.size, 1, none⟩ = some (.int .i64 md) ∧ w'.cell? ⟨w.heap.size, 2, none⟩ = some (.int .i64 ms) ∧ w'.cell? ⟨w.heap.size, 3, none⟩ = some (.int .i64 mm) ∧ w'.cell? ⟨w.heap.size, 4, none⟩ = some (.int .i64 ml)) := fun w' e => HS.out.ext (((e2.trans e3).trans e4).trans e)
      obtain ⟨c0, c1, c2, c3, c4⟩ := HCel.out w4 (Ext.refl _)
      have hw1 : IntKind.i64.wrap (y + (N : Int)) = y + (N : Int) := IntWalk.i64_in _ (by omega)
      have hw2 : IntKind.i64.wrap (y + (N : Int) - sec) = y + (N : Int) - sec := IntWalk.i64_in _ (by omega)
      have hmod : (y + (N : Int) - sec).tmod (N : Int) = (ix : Int) := by
        have h1 := Int.emod_nonneg (y + (N : Int) - sec) (show (N : Int) ≠ 0 by omega)
        rw [Int.tmod_eq_emod_of_nonneg (by omega), HIx.out]; omega
      have hmod2 : (y + (N : Int) - sec) % (N : Int) = (ix : Int) := by
        have h1 := Int.emod_nonneg (y + (N : Int) - sec) (show (N : Int) ≠ 0 by omega)
        rw [HIx.out]; omega
      have hraw : (IntKind.i64.wrap (IntKind.i64.wrap (y + (N : Int)) - sec)).tmod (N : Int) = (ix : Int) := by rw [hw1, hw2]; exact hmod
      rw [← hraw] at HK3
      have hix : (ix : Int) < N := by
        have h1 := Int.emod_lt_of_pos (y + (N : Int) - sec) (show (0 : Int) < (N : Int) by omega)
        omega
      have hw3 : IntKind.i64.wrap (ix : Int) = (ix : Int) := IntWalk.i64_in _ (by omega)
      have hN0 : ((N : Int) == 0) = false := by rw [beq_eq_false_iff_ne]; omega
      have hN1 : ¬ N = 0 := by omega
      have HB : Hid (w.heap.size ≤ w4.heap.size) := et4.size
      clear HIx hn0 hn1 hs0 hs1 hraw hmod hmod2 hw1 hw2
      go_wp2_with fail
      go_region_held3 (fun w' => w'.cell? ⟨w.heap.size, 0, none⟩ = some (.int .i64 mc) ∧ w'.cell? ⟨w.heap.size, 1, none⟩ = some (.int .i64 md) ∧ w'.cell? ⟨w.heap.size, 2, none⟩ = some (.int .i64 ms) ∧ w'.cell? ⟨w.heap.size, 3, none⟩ = some (.int .i64 mm) ∧ w'.cell? ⟨w.heap.size, 4, none⟩ = some (.int .i64 ml)) (exact HCel.out _ (by repeat (first | exact Ext.refl _ | assumption | (refine Ext.trans ?_ (Ext.alloc _ _)) | (refine Ext.trans ?_ (Ext.drew _)) | (refine Ext.trans ?_ (by assumption))))) (first | (go_at_call 26; (with_reducible refine (HK3.out _).mono ?_); rintro e w5 hr5; obtain ⟨r5, rfl, ⟨u5, rfl, o5⟩, e5⟩ := ret_ext hr5; clear hr5; have e45 : Ext w4 w5 := (by repeat (first | exact Ext.refl _ | assumption | (refine Ext.trans ?_ (Ext.alloc _ _)) | (refine Ext.trans ?_ (Ext.drew _)) | (refine Ext.trans ?_ (by assumption)))); have o5' := OwnP.lower (B' := w4.heap.size) o5 (Ext.size (by repeat (first | exact Ext.refl _ | assumption | (refine Ext.trans ?_ (Ext.alloc _ _)) | (refine Ext.trans ?_ (Ext.drew _)) | (refine Ext.trans ?_ (by assumption)))))) | fail)
      all_goals go_wp2_with fail
      all_goals go_ret3
      all_goals exact ⟨_, rfl, HRO.out _ _ ⟨fun h => absurd Hcd.out h, fun _ h => by (cases h), fun _ _ => ⟨u5, key, rfl, OwnP.lower o5' HB.out, HKk.out⟩⟩, et4.trans e45⟩
  · have Hcd := Lib.hid hcd
    have hbc : (cd == 0) = false := by rw [beq_eq_false_iff_ne]; exact hcd
    clear HC HCo HKA HRd HZ
    go_wp2_with fail
    go_ret3
    exact ⟨_, rfl, HRO.out _ _ ⟨fun _ => rfl, fun h => absurd h Hcd.out, fun h => absurd h Hcd.out⟩, et⟩

/-- the stamp of a key -/
def stampOfM (mk : MK) (key : List Int) (ser sec : Int) : Value :=
  if codeM mk ser sec ≠ 0 then .tuple #[.string ⟨#[]⟩, .int .i64 (codeM mk ser sec)] else if keyFault mk key ≠ 0 then .tuple #[.string ⟨#[]⟩, .int .i64 2] else .tuple #[stampV (lenM mk) ser.toNat ((rankM mk key + sec.toNat) % countM mk), .int .i64 0]

set_option maxRecDepth 20000 in
set_option maxHeartbeats 1000000 in
theorem StampOfSpec_c (w : World) (mk : MK) (v : Value) (z : Zone) (key : List Int) (h : IntsR z w v key) (ser sec : Int) :
    Calls Tryd.prog 17 #[mk.v, v, .int .i64 ser, .int .i64 sec] w (Ret w fun r _ => r = stampOfM mk key ser sec) := by
  have HC := Lib.hid (fun (w' : World) => l28Code_c w' mk ser sec)
  have HZ : Hid (codeM mk ser sec = 0 → isMaker mk = true ∧ (0 ≤ ser ∧ ser ≤ 25) ∧ (0 ≤ sec ∧ sec ≤ (countM mk : Int) - 1) ∧ countM mk ≤ 262144) := fun h => ⟨(codeM_zero h).1, (codeM_zero h).2.1, (codeM_zero h).2.2, countM_le (mkOk (codeM_zero h).1)⟩
  have HF := Lib.hid (fun (hm : isMaker mk = true) (w' : World) (e : Ext w w') => l02Fault_c w' mk (mkOk hm).d8 v z key (stable_ints.ext h e))
  have HMm := Lib.hid (fun (hm : isMaker mk = true) (hf : keyFault mk key = 0) => allK_of (mk := mk) (k := key) (by have := (mkOk hm).d8; omega) hf)
  have HRk := Lib.hid (fun (hm : isMaker mk = true) (hf : keyFault mk key = 0) (w' : World) (e : Ext w w') => l03Rank_c mk (mkOk hm) w' v z key (stable_ints.ext h e) (HMm.out hm hf))
  have HRl := Lib.hid (fun (hm : isMaker mk = true) (hf : keyFault mk key = 0) => rank_le (mkOk hm) (HMm.out hm hf))
  have HCo := Lib.hid (fun (h : isMaker mk = true) (w' : World) => l02Count_c mk (mkOk h) mk.c.toNat [] (by simp) w' (.slice none 0 0) (.old w') (SliceR.nil _ _ _) (fun i hi => by simp at hi))
  have hcn : (keysR mk mk.d.toNat mk.c.toNat []).length = countM mk := rfl
  rw [hcn] at HCo
  have hcn2 : (allK mk).length = countM mk := rfl
  rw [hcn2] at HRl
  have HTx := Lib.hid (fun (hm : isMaker mk = true) (a b : Nat) (ha : a ≤ 25) (hb : b ≤ 262144) (w' : World) => l28Text_c w' mk (mkOk hm) a b ha hb)
  have HR : Hid (stampOfM mk key ser sec = if codeM mk ser sec ≠ 0 then .tuple #[.string ⟨#[]⟩, .int .i64 (codeM mk ser sec)] else if keyFault mk key ≠ 0 then .tuple #[.string ⟨#[]⟩, .int .i64 2] else .tuple #[stampV (lenM mk) ser.toNat ((rankM mk key + sec.toNat) % countM mk), .int .i64 0]) := rfl
  have HV : Hid (∀ a b, ∃ st, stampV (lenM mk) a b = .string st) := fun a b => ⟨_, rfl⟩
  obtain ⟨a, n, cap, rfl, -⟩ := SliceR.shape h
  generalize stampOfM mk key ser sec = res at *
  generalize rankM mk key = rk at *
  generalize keyFault mk key = kf at *
  generalize codeM mk ser sec = cd at *
  generalize isMaker mk = qm at *
  generalize countM mk = N at *
  generalize stampV (lenM mk) = sV at *
  clear h hcn hcn2 HMm
  obtain ⟨mc, md, ms, mm, ml⟩ := mk
  unfold MK.v at *
  go_enter Tryd.func17, Tryd.ntmps17
  go_wp2_with fail
  generalize hw2 : World.alloc w _ = w1
  obtain ⟨e1, S1⟩ := mk_box (mk := ⟨mc, md, ms, mm, ml⟩) hw2
  clear hw2
  have HS := Lib.hid S1
  obtain ⟨c0, c1, c2, c3, c4⟩ := S1
  go_wp2_with fail
  refine Calls.mono (HC.out w1) ?_
  rintro e w2 hr
  obtain ⟨r, rfl, rfl, e2⟩ := ret_ext hr
  clear hr c0 c1 c2 c3 c4
  obtain ⟨c0, c1, c2, c3, c4⟩ := HS.out.ext e2
  have et := e1.trans e2
  by_cases hcd : cd = 0
  · obtain ⟨hqm, hs, ht, hN⟩ := HZ.out hcd
    have hbc : (cd == 0) = true := by rw [beq_iff_eq]; exact hcd
    have HH : Hid (res = if kf ≠ 0 then .tuple #[.string ⟨#[]⟩, .int .i64 2] else .tuple #[sV ser.toNat ((rk + sec.toNat) % N), .int .i64 0]) := by show _ = _; rw [HR.out, if_neg (by simpa using hcd)]
    have HF2 := Lib.hid (HF.out hqm w2 et)
    have HCo2 := Lib.hid (HCo.out hqm)
    have HRk2 := Lib.hid (HRk.out hqm)
    have HRl2 := Lib.hid (HRl.out hqm)
    have HTx2 := Lib.hid (HTx.out hqm)
    clear HC HCo HF HRk HRl HTx HZ HR
    subst hcd
    go_wp2_with fail
    refine Calls.mono HF2.out ?_
    rintro e w3 hr
    obtain ⟨r, rfl, rfl, e3⟩ := ret_ext hr
    clear hr c0 c1 c2 c3 c4
    have et3 := et.trans e3
    obtain ⟨c0, c1, c2, c3, c4⟩ := HS.out.ext (e2.trans e3)
    by_cases hkf : kf = 0
    · have hbk : (kf == 0) = true := by rw [beq_iff_eq]; exact hkf
      obtain ⟨hrl, -⟩ := HRl2.out hkf
      obtain ⟨sn, rfl⟩ := Int.eq_ofNat_of_zero_le hs.1
      obtain ⟨tn, rfl⟩ := Int.eq_ofNat_of_zero_le ht.1
      have HRk3 := Lib.hid (HRk2.out hkf)
      have HT3 := Lib.hid (HTx2.out sn ((rk + tn) % N) (by omega) (by have := Nat.mod_lt (rk + tn) (show N > 0 by omega); omega))
      have HH2 : Hid (res = .tuple #[sV sn ((rk + tn) % N), .int .i64 0]) := by show _ = _; rw [HH.out, if_neg (by simpa using hkf)]; rfl
      have hw1 : IntKind.i64.wrap ((rk : Int) + (tn : Int)) = (rk : Int) + (tn : Int) := IntWalk.i64_in _ (by omega)
      have hraw : (IntKind.i64.wrap ((rk : Int) + (tn : Int))).tmod (N : Int) = (((rk + tn) % N : Nat) : Int) := by rw [hw1, Int.tmod_eq_emod_of_nonneg (by omega)]; norm_cast
      generalize (rk + tn) % N = ix at *
      rw [← hraw] at HT3
      have hN0 : ((N : Int) == 0) = false := by rw [beq_eq_false_iff_ne]; omega
      have hN1 : ¬ N = 0 := by omega
      have HCel : Hid (∀ w', Ext w3 w' → w'.cell? ⟨w.heap.size, 0, none⟩ = some (.int .i64 mc) ∧ w'.cell? ⟨w.heap.size, 1, none⟩ = some (.int .i64 md) ∧ w'.cell? ⟨w.heap.size, 2, none⟩ = some (.int .i64 ms) ∧ w'.cell? ⟨w.heap.size, 3, none⟩ = some (.int .i64 mm) ∧ w'.cell? ⟨w.heap.size, 4, none⟩ = some (.int .i64 ml)) := fun w' e => HS.out.ext ((e2.trans e3).trans e)
      have HRk4 := Lib.hid (fun (w' : World) (e : Ext w3 w') => HRk3.out w' (et3.trans e))
      obtain ⟨st, hst⟩ := HV.out sn ix
      rw [hst] at HT3 HH2
      clear hst HV HH hraw hw1 hs ht hrl hkf hN HF2 HRk2 HRk3 HRl2 HTx2
      go_wp2_with fail
      go_region_held3 (fun w' => w'.cell? ⟨w.heap.size, 0, none⟩ = some (.int .i64 mc) ∧ w'.cell? ⟨w.heap.size, 1, none⟩ = some (.int .i64 md) ∧ w'.cell? ⟨w.heap.size, 2, none⟩ = some (.int .i64 ms) ∧ w'.cell? ⟨w.heap.size, 3, none⟩ = some (.int .i64 mm) ∧ w'.cell? ⟨w.heap.size, 4, none⟩ = some (.int .i64 ml)) (exact HCel.out _ (by repeat (first | exact Ext.refl _ | assumption | (refine Ext.trans ?_ (Ext.alloc _ _)) | (refine Ext.trans ?_ (Ext.drew _)) | (refine Ext.trans ?_ (by assumption))))) (first | (go_at_call 32; (with_reducible refine (HRk4.out _ (by repeat (first | exact Ext.refl _ | assumption | (refine Ext.trans ?_ (Ext.alloc _ _)) | (refine Ext.trans ?_ (Ext.drew _)) | (refine Ext.trans ?_ (by assumption))))).mono ?_); rintro e w5 hr5; obtain ⟨r5, rfl, rfl, e5⟩ := ret_ext hr5; clear hr5; have e35 : Ext w3 w5 := (by repeat (first | exact Ext.refl _ | assumption | (refine Ext.trans ?_ (Ext.alloc _ _)) | (refine Ext.trans ?_ (Ext.drew _)) | (refine Ext.trans ?_ (by assumption))))) | (go_at_call 25; (with_reducible refine (HCo2.out _).mono ?_); rintro e w6 hr6; obtain ⟨r6, rfl, rfl, e6⟩ := ret_ext hr6; clear hr6; have e36 : Ext w3 w6 := (by repeat (first | exact Ext.refl _ | assumption | (refine Ext.trans ?_ (Ext.alloc _ _)) | (refine Ext.trans ?_ (Ext.drew _)) | (refine Ext.trans ?_ (by assumption))))) | (go_at_call 31; (with_reducible refine (HT3.out _).mono ?_); rintro e w7 hr7; obtain ⟨r7, rfl, rfl, e7⟩ := ret_ext hr7; clear hr7; have e37 : Ext w3 w7 := (by repeat (first | exact Ext.refl _ | assumption | (refine Ext.trans ?_ (Ext.alloc _ _)) | (refine Ext.trans ?_ (Ext.drew _)) | (refine Ext.trans ?_ (by assumption))))) | fail)
      all_goals go_wp2_with fail
      all_goals go_ret2
      all_goals exact ⟨_, rfl, HH2.out.symm, et3.trans (by repeat (first | exact Ext.refl _ | assumption | (refine Ext.trans ?_ (Ext.alloc _ _)) | (refine Ext.trans ?_ (Ext.drew _)) | (refine Ext.trans ?_ (by assumption))))⟩
    · have hbk : (kf == 0) = false := by rw [beq_eq_false_iff_ne]; exact hkf
      have HH2 : Hid (res = .tuple #[.string ⟨#[]⟩, .int .i64 2]) := by show _ = _; rw [HH.out, if_pos hkf]
      clear HH HF2 HRk2 HRl2 HTx2 HCo2
      go_wp2_with fail
      go_ret2
      exact ⟨_, rfl, HH2.out.symm, et3⟩
  · have hbc : (cd == 0) = false := by rw [beq_eq_false_iff_ne]; exact hcd
    have HH : Hid (res = .tuple #[.string ⟨#[]⟩, .int .i64 cd]) := by show _ = _; rw [HR.out, if_pos hcd]
    clear HC HCo HF HRk HRl HTx HZ HR
    go_wp2_with fail
    go_ret2
    exact ⟨_, rfl, HH.out.symm, et⟩
end Go.Proofs.YtnndaboaeijbkaaDoor
