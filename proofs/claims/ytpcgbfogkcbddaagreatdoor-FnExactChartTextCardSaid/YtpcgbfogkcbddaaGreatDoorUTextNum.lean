/- Proved: the text of a number, both sides. -/
import Derived.Test.YtpcgbfogkcbddaaGreatDoorChecked
import Derived.Deep.RegionHeld3
import Derived.Deep.RegionLaw
import Derived.Lib.ItoaNum
import Derived.Sort.Grow
import Derived.Laws.IdiomStrings
import Derived.Test.YtpcgbfogkcbddaaGreatDoorUIntLay
import Derived.Test.YtpcgbfogkcbddaaGreatDoorUPkA
namespace Go.Proofs.YtpcgbfogkcbddaaGreatDoor
open Go.ChangeShapes Go.WideShapes Go.ChangeAt Go.RowKit
set_option linter.unusedVariables false

/-- the library's table of powers of ten -/
def Pow10 (w : World) : Prop := Lib.TabIs Tryz.prog w "internal/strconv.uint64pow10" .u64 Lib.pow10Tab
theorem Pow10.ext {w w' : World} (h : Pow10 w) (e : Ext w w') : Pow10 w' := by
  unfold Pow10 Lib.TabIs World.var? at *
  cases hg : Tryz.prog.globalNamed "internal/strconv.uint64pow10" with
  | none => simp [hg] at h
  | some g =>
    simp only [hg, Option.bind_some] at h ⊢
    have hlt : g < w.heap.size := by
      rcases Nat.lt_or_ge g w.heap.size with h' | h'
      · exact h'
      · rw [Array.getElem?_eq_none h'] at h; simp at h
    rw [Below.block e g hlt]
    exact h
theorem grow_ext {w w1 : World} (e : Ext w w1) (os : Array Obj) : Ext w (Sort.grow w1 os) := by
  have hs := e.size
  refine ⟨e.os, e.tape, e.output, ?_, fun k hk => ?_⟩
  · show w.heap.size ≤ (w1.heap ++ os).size; rw [Array.size_append]; omega
  · show (w1.heap ++ os)[k]? = _
    rw [Array.getElem?_append_left (by omega)]
    exact Below.block e k hk
def numText (n : Nat) : Value := .string ⟨(Lib.decDigits n).toArray⟩
theorem fmt_c (w : World) (hT : Pow10 w) (n : Nat) (h : n ≤ 1000000000) : Calls Tryz.prog 112 #[.int .i64 (n : Nat), .int .i64 10] w (Ret w fun r _ => r = numText n) := by
  refine (Go.Proofs.Any.strconv_FormatInt_10 Tryz.fmtInt n (by omega) (by omega) w hT).mono ?_
  rintro e w' ⟨rfl, k, os, rfl⟩
  refine ⟨_, rfl, ?_, grow_ext (Ext.drewN _ _) os⟩
  unfold numText Lib.itoa
  rw [if_neg (by omega), Int.toNat_natCast]

set_option maxRecDepth 20000 in
theorem text_c (w : World) (hT : Pow10 w) (n : Nat) (h : n ≤ 1000000000) : Calls Tryz.prog 82 #[.int .i64 (n : Nat)] w (Ret w fun r _ => r = numText n) := by
  have HF := Lib.hid (fmt_c w hT n h)
  generalize numText n = r at *
  clear hT
  go_enter Tryz.func82, Tryz.ntmps82
  go_wp2_with fail
  refine Calls.mono HF.out ?_
  rintro e w1 hr
  obtain ⟨r, rfl, rfl, e1⟩ := ret_ext hr
  clear hr
  go_wp2_with fail
  go_ret
  exact ⟨_, rfl, rfl, e1⟩

theorem dec_one {n : Nat} (h : n < 10) : Lib.decDigits n = [UInt8.ofNat (48 + n)] := Lib.decDigits_one h
theorem dec_more {n : Nat} (h : ¬ n < 10) : Lib.decDigits n = Lib.decDigits (n / 10) ++ [UInt8.ofNat (48 + n % 10)] := by rw [Lib.decDigits, dif_neg h]
theorem dec_len (n : Nat) : (Lib.decDigits n).length ≤ n + 1 := by
  induction n using Nat.strongRecOn with
  | _ n ih =>
    by_cases h : n < 10
    · rw [dec_one h]; simp
    · rw [dec_more h, List.length_append, List.length_singleton]
      have := ih (n / 10) (by omega)
      omega
/-- one byte as a text -/
def oneByte (m : Nat) : Value := .string ⟨#[UInt8.ofNat m]⟩
theorem conv_at (w : World) (g : Nat) (x : Int) (m : Nat) (hm : m < 256) (hx : x = m) (hc : w.cell? ⟨g, 0, none⟩ = some (.int .u8 x)) :
    (convert 45 9 (.slice (some ⟨g, 0, none⟩) 1 1)).run Tryz.prog w = .ok (oneByte m) w := by
  subst hx
  exact run_convert_bytes_back w _ _ _ ⟨g, 0, none⟩ 1 [UInt8.ofNat m] Tryz.underlying45 Tryz.underlying5 Tryz.underlying9 (fun j hj => by
    have hj0 : j = 0 := by simpa using hj
    subst hj0
    refine hc.trans ?_
    show _ = some (Value.int .u8 ((UInt8.ofNat m).toNat : Int))
    rw [UInt8.toNat_ofNat', Nat.mod_eq_of_lt (by omega)])
theorem conv_new (w : World) (x : Int) (m : Nat) (hm : m < 256) (hx : x = m) :
    (convert 45 9 (.slice (some ⟨w.heap.size, 0, none⟩) 1 1)).run Tryz.prog (w.alloc (.cells #[.int .u8 x] 5)) = .ok (oneByte m) (w.alloc (.cells #[.int .u8 x] 5)) :=
  conv_at _ _ x m hm hx (by simp)
theorem num_one {n : Nat} (h : n < 10) : numText n = oneByte (48 + n) := by unfold numText oneByte; rw [dec_one h]
def textOf : Value → ByteArray
  | .string s => s
  | _ => ⟨#[]⟩
theorem num_more {n : Nat} (h : ¬ n < 10) : numText n = .string (⟨(Lib.decDigits (n / 10)).toArray⟩ ++ ⟨#[UInt8.ofNat (48 + n % 10)]⟩) := by
  unfold numText
  congr 1
  apply ByteArray.ext
  rw [ByteArray.data_append, dec_more h]
  simp

set_option maxRecDepth 20000 in
set_option maxHeartbeats 2000000 in
theorem l01Dec_c (n : Nat) : ∀ (w : World) (h : n ≤ 1000000000), Calls Tryz.prog 80 #[.int .i64 (n : Nat)] w (Ret w fun r _ => r = numText n) := by
  induction n using Nat.strongRecOn with
  | _ n ih =>
    intro w h
    by_cases h10 : n < 10
    · have h1 := Lib.hid (num_one h10)
      have kc := conv_new w (48 + (n : Int)) (48 + n) (by omega) (by omega)
      unfold oneByte at kc h1
      clear ih
      generalize numText n = res at *
      generalize UInt8.ofNat (48 + n) = yb at *
      go_enter Tryz.func80, Tryz.ntmps80
      go_wp2_with fail
      go_ret
      exact ⟨_, rfl, by rw [h1.out]; rfl, Ext.alloc _ _⟩
    · have h1 := Lib.hid (num_more h10)
      have HI := Lib.hid (fun (w' : World) => ih (n / 10) (by omega) w' (by omega))
      have kc := fun (w' : World) => conv_new w' (48 + ((n % 10 : Nat) : Int)) (48 + n % 10) (by omega) (by omega)
      have kc2 := fun (w' : World) (g : Nat) (hc : w'.cell? ⟨g, 0, none⟩ = some (.int .u8 (48 + ((n % 10 : Nat) : Int)))) => conv_at w' g (48 + ((n % 10 : Nat) : Int)) (48 + n % 10) (by omega) (by omega) hc
      have hq : ((n : Int)).tdiv 10 = ((n / 10 : Nat) : Int) := by rw [Int.tdiv_eq_ediv_of_nonneg (by omega)]; omega
      have hm : ((n : Int)).tmod 10 = ((n % 10 : Nat) : Int) := by rw [Int.tmod_eq_emod_of_nonneg (by omega)]; omega
      have hn : ¬ ((n : Int) < 10) := by omega
      have hq' : ((n : Int)) / 10 = ((n / 10 : Nat) : Int) := by omega
      have hm' : ((n : Int)) % 10 = ((n % 10 : Nat) : Int) := by omega
      have hwq : IntKind.i64.wrap ((n / 10 : Nat) : Int) = ((n / 10 : Nat) : Int) := IntWalk.i64_in _ (by omega)
      have hwr : IntKind.i64.wrap (48 + ((n % 10 : Nat) : Int)) = 48 + ((n % 10 : Nat) : Int) := IntWalk.i64_in _ (by omega)
      have hwu : IntKind.u8.wrap (48 + ((n % 10 : Nat) : Int)) = 48 + ((n % 10 : Nat) : Int) := IntWalk.u8_in _ (by omega)
      have hr : n % 10 < 10 := Nat.mod_lt _ (by decide)
      have hq2 : n / 10 ≤ 1000000000 := by omega
      have hdl : ¬ (9223372036854775807 < (Lib.decDigits (n / 10)).toArray.size + 1) := by
        have := dec_len (n / 10)
        rw [List.size_toArray]; omega
      unfold oneByte at kc kc2
      unfold numText at HI
      clear ih
      generalize numText n = res at *
      generalize UInt8.ofNat (48 + n % 10) = yb at *
      generalize n % 10 = rm at *
      generalize n / 10 = qn at *
      generalize (Lib.decDigits qn).toArray = dq at *
      go_enter Tryz.func80, Tryz.ntmps80
      go_wp2_with fail
      go_region_law (first | (go_simp; go_at_call 80; refine (HI.out _).mono ?_; rintro e w9 hr9; obtain ⟨r9, rfl, rfl, e9⟩ := ret_ext hr9; clear hr9; (try ((have hcc : w9.cell? ⟨w.heap.size, 0, none⟩ = some (.int .u8 (48 + (rm : Int))) := ?_; have kc3 := kc2 w9 w.heap.size hcc; rotate_left; focus (refine e9.cell ?_; simp; done)))); have e99 : Ext w w9 := (by repeat (first | exact Ext.refl _ | assumption | (refine Ext.trans ?_ (Ext.alloc _ _)) | (refine Ext.trans ?_ (Ext.drew _)) | (refine Ext.trans ?_ (by assumption))))) | fail)
      all_goals go_wp2_with fail
      all_goals go_ret
      all_goals exact ⟨_, rfl, by rw [h1.out]; rfl, by repeat (first | assumption | exact Ext.refl _ | (refine Ext.trans ?_ (Ext.alloc _ _)))⟩
end Go.Proofs.YtpcgbfogkcbddaaGreatDoor
