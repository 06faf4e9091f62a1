/- Proved: strings.Count and strings.HasSuffix, laid. -/
import Derived.Test.YtejaobbdcnnknaaChecked
import Derived.Shelf.Strings.Count
import Derived.Shelf.Strings.Prefix
import Derived.Ground.NamesProg
import Derived.Test.YtejaobbdcnnknaaUBase
namespace Go.Proofs.Ytejaobbdcnnknaa
open Go.ChangeShapes Go.WideShapes Go.ChangeAt Go.RowKit
set_option linter.unusedVariables false
open Go.Shelf

def Try.strCount_ren : Go.Shelf.Ren := ⟨fun | 138 => 8 | 195 => 11 | 218 => 12 | 143 => 13 | 219 => 15 | 217 => 16 | 225 => 17 | 224 => 18 | 267 => 19 | 266 => 20 | 314 => 21 | n => n, fun | 9 => 9 | 3 => 3 | 4 => 4 | 5 => 5 | 0 => 0 | 46 => 35 | 146 => 37 | 51 => 36 | n => n, fun | 1 => 0 | n => n⟩
theorem Try.strCount : Go.Proofs.Lays.n138 Try.prog Try.strCount_ren := {
  mixed := by kernel_rfl
  f138 := Try.func8.trans (congrArg some (by kernel_rfl))
  f143 := Try.func13.trans (congrArg some (by kernel_rfl))
  f195 := Try.func11.trans (congrArg some (by kernel_rfl))
  f217 := Try.func16.trans (congrArg some (by kernel_rfl))
  f218 := Try.func12.trans (congrArg some (by kernel_rfl))
  f219 := Try.func15.trans (congrArg some (by kernel_rfl))
  f224 := Try.func18.trans (congrArg some (by kernel_rfl))
  f225 := Try.func17.trans (congrArg some (by kernel_rfl))
  f266 := Try.func20.trans (congrArg some (by kernel_rfl))
  f267 := Try.func19.trans (congrArg some (by kernel_rfl))
  f314 := Try.func21.trans (congrArg some (by kernel_rfl))
  t0 := Try.underlying0
  a0 := Try.isAgg0
  z0 := Try.sizeOf0
  v0 := Try.zeroValue0
  t3 := Try.underlying3
  a3 := Try.isAgg3
  z3 := Try.sizeOf3
  v3 := Try.zeroValue3
  t4 := Try.underlying4
  a4 := Try.isAgg4
  z4 := Try.sizeOf4
  v4 := Try.zeroValue4
  t5 := Try.underlying5
  a5 := Try.isAgg5
  z5 := Try.sizeOf5
  v5 := Try.zeroValue5
  t9 := Try.underlying9
  a9 := Try.isAgg9
  z9 := Try.sizeOf9
  v9 := Try.zeroValue9
  t46 := Try.underlying35
  a46 := Try.isAgg35
  z46 := Try.sizeOf35
  v46 := Try.zeroValue35
  t51 := Try.underlying36
  a51 := Try.isAgg36
  z51 := Try.sizeOf36
  v51 := Try.zeroValue36
  t146 := Try.underlying37
  a146 := Try.isAgg37
  z146 := Try.sizeOf37
  v146 := Try.zeroValue37
  g1 := by kernel_rfl }
def Try.strSuffix_ren : Go.Shelf.Ren := ⟨fun | 100 => 10 | 207 => 14 | n => n, fun | 9 => 9 | 4 => 4 | 3 => 3 | n => n, fun | n => n⟩
theorem Try.strSuffix : Go.Proofs.Lays.n100 Try.prog Try.strSuffix_ren := {
  mixed := by kernel_rfl
  f100 := Try.func10.trans (congrArg some (by kernel_rfl))
  f207 := Try.func14.trans (congrArg some (by kernel_rfl))
  t3 := Try.underlying3
  a3 := Try.isAgg3
  z3 := Try.sizeOf3
  v3 := Try.zeroValue3
  t4 := Try.underlying4
  a4 := Try.isAgg4
  z4 := Try.sizeOf4
  v4 := Try.zeroValue4
  t9 := Try.underlying9
  a9 := Try.isAgg9
  z9 := Try.sizeOf9
  v9 := Try.zeroValue9 }
theorem count_c (w : World) (s : ByteArray) : Calls Try.prog 8 #[.string s, .string ⟨#[10]⟩] w (fun e w' => e = .returned (.int .i64 (Lib.countByte s.data.toList 10)) ∧ w' = w) := Go.Proofs.Any.strings_Count_one Try.strCount s 10 w
theorem suffix_c (w : World) (s : ByteArray) (hs : s.size ≤ 9223372036854775807) : Calls Try.prog 10 #[.string s, .string ⟨#[10]⟩] w (fun e w' => e = .returned (.bool (Lib.hasSuffix s.data.toList [10])) ∧ w' = w) := Go.Proofs.Any.strings_HasSuffix Try.strSuffix s ⟨#[10]⟩ w hs
end Go.Proofs.Ytejaobbdcnnknaa
