/- Proved: strconv.ParseInt, laid; the number behind a text, the program; strings.Split and strings.CutPrefix, laid; strings.Split at one byte, the program; a region that draws its order, walked step by step; the maker behind a first line and the key behind a text, the program; the number, the maker and the cuts behind a text, the reference; the maker behind a first line, the reference. -/
import Derived.Test.YtkeikjedbfomnaaGreatDoorChecked
import Derived.Shelf.Strconv.ErrVarParseInt
import Derived.Shelf.LaysM
import Derived.Ground.NamesProg
import Derived.Deep.RegionHeld3
import Derived.Lib.ParseIntBTie
import Derived.Shelf.Strings.Split
import Derived.Shelf.Small.Wraps
import Derived.Lib.SplitLaws
import Derived.Test.YtkeikjedbfomnaaGreatDoorUPkA
import Derived.Test.YtkeikjedbfomnaaGreatDoorUPkT1
import Derived.Test.YtkeikjedbfomnaaGreatDoorUPkRdA
import Derived.Test.YtkeikjedbfomnaaGreatDoorUPkB
namespace Go.Proofs.YtkeikjedbfomnaaGreatDoor
open Go.ChangeShapes Go.WideShapes Go.ChangeAt Go.RowKit
set_option linter.unusedVariables false
open Go.Shelf

def Tryz.parseInt_ren : Go.Shelf.Ren := ⟨fun | 174 => 118 | 247 => 148 | 245 => 149 | 287 => 163 | 279 => 164 | 280 => 165 | 281 => 166 | 282 => 167 | 321 => 188 | 322 => 189 | 316 => 190 | 171 => 192 | 205 => 191 | 243 => 204 | 246 => 152 | 283 => 179 | 284 => 180 | 285 => 181 | 286 => 182 | 129 => 178 | 317 => 199 | 318 => 200 | 319 => 201 | 320 => 202 | 337 => 206 | 338 => 207 | n => n, fun | 9 => 9 | 3 => 3 | 2 => 2 | 75 => 107 | 85 => 131 | 4 => 4 | 167 => 172 | 5 => 5 | 53 => 173 | 175 => 174 | 46 => 150 | 168 => 176 | 37 => 34 | 0 => 0 | 210 => 202 | 21 => 21 | 127 => 139 | 145 => 218 | 143 => 216 | 171 => 191 | 173 => 193 | 212 => 212 | 51 => 169 | 20 => 20 | 213 => 213 | 232 => 222 | 233 => 223 | 80 => 110 | n => n, fun | 15 => 3 | 16 => 4 | 17 => 5 | 18 => 6 | 19 => 7 | n => n⟩
theorem Tryz.parseInt : Go.Proofs.LaysC.n174 Tryz.prog Tryz.parseInt_ren := {
  mixed := by kernel_rfl
  f129 := Tryz.func178.trans (congrArg some (by kernel_rfl))
  f171 := Tryz.func192.trans (congrArg some (by kernel_rfl))
  f174 := Tryz.func118.trans (congrArg some (by kernel_rfl))
  f205 := Tryz.func191.trans (congrArg some (by kernel_rfl))
  f243 := Tryz.func204.trans (congrArg some (by kernel_rfl))
  f245 := Tryz.func149.trans (congrArg some (by kernel_rfl))
  f246 := Tryz.func152.trans (congrArg some (by kernel_rfl))
  f247 := Tryz.func148.trans (congrArg some (by kernel_rfl))
  f279 := Tryz.func164.trans (congrArg some (by kernel_rfl))
  f280 := Tryz.func165.trans (congrArg some (by kernel_rfl))
  f281 := Tryz.func166.trans (congrArg some (by kernel_rfl))
  f282 := Tryz.func167.trans (congrArg some (by kernel_rfl))
  f283 := Tryz.func179.trans (congrArg some (by kernel_rfl))
  f284 := Tryz.func180.trans (congrArg some (by kernel_rfl))
  f285 := Tryz.func181.trans (congrArg some (by kernel_rfl))
  f286 := Tryz.func182.trans (congrArg some (by kernel_rfl))
  f287 := Tryz.func163.trans (congrArg some (by kernel_rfl))
  f316 := Tryz.func190.trans (congrArg some (by kernel_rfl))
  f317 := Tryz.func199.trans (congrArg some (by kernel_rfl))
  f318 := Tryz.func200.trans (congrArg some (by kernel_rfl))
  f319 := Tryz.func201.trans (congrArg some (by kernel_rfl))
  f320 := Tryz.func202.trans (congrArg some (by kernel_rfl))
  f321 := Tryz.func188.trans (congrArg some (by kernel_rfl))
  f322 := Tryz.func189.trans (congrArg some (by kernel_rfl))
  f337 := Tryz.func206.trans (congrArg some (by kernel_rfl))
  f338 := Tryz.func207.trans (congrArg some (by kernel_rfl))
  t0 := Tryz.underlying0
  a0 := Tryz.isAgg0
  z0 := Tryz.sizeOf0
  v0 := Tryz.zeroValue0
  t2 := Tryz.underlying2
  a2 := Tryz.isAgg2
  z2 := Tryz.sizeOf2
  v2 := Tryz.zeroValue2
  t3 := Tryz.underlying3
  a3 := Tryz.isAgg3
  z3 := Tryz.sizeOf3
  v3 := Tryz.zeroValue3
  t4 := Tryz.underlying4
  a4 := Tryz.isAgg4
  z4 := Tryz.sizeOf4
  v4 := Tryz.zeroValue4
  t5 := Tryz.underlying5
  a5 := Tryz.isAgg5
  z5 := Tryz.sizeOf5
  v5 := Tryz.zeroValue5
  t9 := Tryz.underlying9
  a9 := Tryz.isAgg9
  z9 := Tryz.sizeOf9
  v9 := Tryz.zeroValue9
  t20 := Tryz.underlying20
  a20 := Tryz.isAgg20
  z20 := Tryz.sizeOf20
  v20 := Tryz.zeroValue20
  t21 := Tryz.underlying21
  a21 := Tryz.isAgg21
  z21 := Tryz.sizeOf21
  v21 := Tryz.zeroValue21
  t37 := Tryz.underlying34
  a37 := Tryz.isAgg34
  z37 := Tryz.sizeOf34
  v37 := Tryz.zeroValue34
  t46 := Tryz.underlying150
  a46 := Tryz.isAgg150
  z46 := Tryz.sizeOf150
  v46 := Tryz.zeroValue150
  t51 := Tryz.underlying169
  a51 := Tryz.isAgg169
  z51 := Tryz.sizeOf169
  v51 := Tryz.zeroValue169
  t53 := Tryz.underlying173
  a53 := Tryz.isAgg173
  z53 := Tryz.sizeOf173
  v53 := Tryz.zeroValue173
  t75 := Tryz.underlying107
  a75 := Tryz.isAgg107
  z75 := Tryz.sizeOf107
  v75 := Tryz.zeroValue107
  t85 := Tryz.underlying131
  a85 := Tryz.isAgg131
  z85 := Tryz.sizeOf131
  v85 := Tryz.zeroValue131
  t127 := Tryz.underlying139
  a127 := Tryz.isAgg139
  z127 := Tryz.sizeOf139
  v127 := Tryz.zeroValue139
  t143 := Tryz.underlying216
  a143 := Tryz.isAgg216
  z143 := Tryz.sizeOf216
  v143 := Tryz.zeroValue216
  t145 := Tryz.underlying218
  a145 := Tryz.isAgg218
  z145 := Tryz.sizeOf218
  v145 := Tryz.zeroValue218
  t167 := Tryz.underlying172
  a167 := Tryz.isAgg172
  z167 := Tryz.sizeOf172
  v167 := Tryz.zeroValue172
  t168 := Tryz.underlying176
  a168 := Tryz.isAgg176
  z168 := Tryz.sizeOf176
  v168 := Tryz.zeroValue176
  t171 := Tryz.underlying191
  a171 := Tryz.isAgg191
  z171 := Tryz.sizeOf191
  v171 := Tryz.zeroValue191
  t173 := Tryz.underlying193
  a173 := Tryz.isAgg193
  z173 := Tryz.sizeOf193
  v173 := Tryz.zeroValue193
  t175 := Tryz.underlying174
  a175 := Tryz.isAgg174
  z175 := Tryz.sizeOf174
  v175 := Tryz.zeroValue174
  t210 := Tryz.underlying202
  a210 := Tryz.isAgg202
  z210 := Tryz.sizeOf202
  v210 := Tryz.zeroValue202
  t212 := Tryz.underlying212
  a212 := Tryz.isAgg212
  z212 := Tryz.sizeOf212
  v212 := Tryz.zeroValue212
  t213 := Tryz.underlying213
  a213 := Tryz.isAgg213
  z213 := Tryz.sizeOf213
  t232 := Tryz.underlying222
  a232 := Tryz.isAgg222
  z232 := Tryz.sizeOf222
  v232 := Tryz.zeroValue222
  t233 := Tryz.underlying223
  a233 := Tryz.isAgg223
  z233 := Tryz.sizeOf223
  v233 := Tryz.zeroValue223
  g15 := by kernel_rfl
  g16 := by kernel_rfl
  g17 := by kernel_rfl
  g18 := by kernel_rfl
  g19 := by kernel_rfl
  t80 := Tryz.underlying110
  a80 := Tryz.isAgg110
  z80 := Tryz.sizeOf110
  v80 := Tryz.zeroValue110
  i0 := by kernel_rfl
  i2 := by kernel_rfl
  i3 := by kernel_rfl
  i4 := by kernel_rfl
  i5 := by kernel_rfl
  i9 := by kernel_rfl
  i20 := by kernel_rfl
  i21 := by kernel_rfl
  i37 := by kernel_rfl
  i46 := by kernel_rfl
  i51 := by kernel_rfl
  i53 := by kernel_rfl
  i75 := by kernel_rfl
  i80 := by kernel_rfl
  i85 := by kernel_rfl
  i127 := by kernel_rfl
  i143 := by kernel_rfl
  i145 := by kernel_rfl
  i167 := by kernel_rfl
  i168 := by kernel_rfl
  i171 := by kernel_rfl
  i173 := by kernel_rfl
  i175 := by kernel_rfl
  i210 := by kernel_rfl
  i212 := by kernel_rfl
  i232 := by kernel_rfl
  i233 := by kernel_rfl
  m15 := by kernel_rfl
  m16 := by kernel_rfl
  m17 := by kernel_rfl
  m18 := by kernel_rfl
  m19 := by kernel_rfl
  c0 := by kernel_rfl
  c2 := by kernel_rfl
  c3 := by kernel_rfl
  c4 := by kernel_rfl
  c5 := by kernel_rfl
  c9 := by kernel_rfl
  c20 := by kernel_rfl
  c21 := by kernel_rfl
  c37 := by kernel_rfl
  c46 := by kernel_rfl
  c51 := by kernel_rfl
  c53 := by kernel_rfl
  c75 := by kernel_rfl
  c80 := by kernel_rfl
  c85 := by kernel_rfl
  c127 := by kernel_rfl
  c143 := by kernel_rfl
  c145 := by kernel_rfl
  c167 := by kernel_rfl
  c168 := by kernel_rfl
  c171 := by kernel_rfl
  c173 := by kernel_rfl
  c175 := by kernel_rfl
  c210 := by kernel_rfl
  c212 := by kernel_rfl
  c213 := by kernel_rfl
  c232 := by kernel_rfl
  c233 := by kernel_rfl }

open Go.ChangeShapes Go.WideShapes Go.ChangeAt Go.RowKit
set_option linter.unusedVariables false

/-- a variable of the library that holds an error -/
def ErrVar (w : World) (n : String) : Prop := ∃ tp p, w.var? Tryz.prog n = some #[.iface tp p]
theorem ErrVar.ext {w w' : World} {n : String} (h : ErrVar w n) (e : Ext w w') : ErrVar w' n := by
  obtain ⟨tp, p, h⟩ := h
  refine ⟨tp, p, ?_⟩
  unfold World.var? at *
  cases hg : Tryz.prog.globalNamed n with
  | none => simp [hg] at h
  | some g =>
    simp only [hg, Option.bind_some] at h ⊢
    have hlt : g < w.heap.size := by
      rcases Nat.lt_or_ge g w.heap.size with h' | h'
      · exact h'
      · rw [Array.getElem?_eq_none h'] at h; simp at h
    rw [Below.block e g hlt]
    exact h
/-- the two errors of a text that is no number -/
def ParseErr (w : World) : Prop := ErrVar w "strconv.ErrSyntax" ∧ ErrVar w "strconv.ErrRange"
theorem ParseErr.ext {w w' : World} (h : ParseErr w) (e : Ext w w') : ParseErr w' := ⟨h.1.ext e, h.2.ext e⟩

set_option maxRecDepth 20000 in
theorem text_any (w : World) (hT : Pow10 w) (n : Int) (h : I64 n) : Calls Tryz.prog 86 #[.int .i64 n] w (Ret w fun r _ => r = .string (strOf (Lib.itoa n))) := by
  have HF : Hid (Calls Tryz.prog 125 #[.int .i64 n, .int .i64 10] w (Ret w fun r _ => r = .string (strOf (Lib.itoa n)))) :=
    (Go.Proofs.Any.strconv_FormatInt_10 Tryz.fmtInt n h.1 h.2 w hT).mono (by
      rintro e w' ⟨rfl, k, os, rfl⟩
      exact ⟨_, rfl, rfl, grow_ext (Ext.drewN _ _) os⟩)
  generalize strOf (Lib.itoa n) = r at *
  clear hT
  go_enter Tryz.func86, Tryz.ntmps86
  go_wp2_with fail
  refine Calls.mono HF.out ?_
  rintro e w1 hr
  obtain ⟨r, rfl, rfl, e1⟩ := ret_ext hr
  clear hr
  go_wp2_with fail
  go_ret
  exact ⟨_, rfl, rfl, e1⟩
theorem itoa_digit {x : Int} (h : 0 ≤ x ∧ x < 10) : Lib.itoa x = numD x := by unfold Lib.itoa numD; rw [if_neg (by omega)]
theorem parse_digit {x : Int} (h : 0 ≤ x ∧ x < 10) : Lib.parseIntB 64 (numD x) = .ok x := by
  rw [numD_digit h]
  have : x = 0 ∨ x = 1 ∨ x = 2 ∨ x = 3 ∨ x = 4 ∨ x = 5 ∨ x = 6 ∨ x = 7 ∨ x = 8 ∨ x = 9 := by omega
  rcases this with rfl | rfl | rfl | rfl | rfl | rfl | rfl | rfl | rfl | rfl <;> rfl
theorem bytes_ext (w : World) (t : TypeId) (s : ByteArray) : Ext w (Lib.bytesWorld w t s) := Lib.bytesWorld_below w t s
/-- what the number behind a text may be: a digit's text gives that digit -/
def NumOk (l : List UInt8) (n : Int) (b : Bool) : Prop := ∀ x : Int, 0 ≤ x → x < 10 → l = numD x → n = x ∧ b = true

set_option maxRecDepth 20000 in
set_option maxHeartbeats 1000000 in
theorem number_c (w : World) (hT : Pow10 w) (hE : ParseErr w) (s : ByteArray) (hs : s.size ≤ 100000) :
    Calls Tryz.prog 80 #[.string s] w (Ret w fun r _ => ∃ n b, r = .tuple #[.int .i64 n, .bool b] ∧ I64 n ∧ NumOk s.data.toList n b) := by
  have HP : Hid ((∃ n, I64 n ∧ (Calls Tryz.prog 118 #[.string s, .int .i64 10, .int .i64 64] w (Ret w fun r _ => r = .tuple #[.int .i64 n, .nilIface])) ∧ (∀ x : Int, 0 ≤ x → x < 10 → s.data.toList = numD x → n = x)) ∨ (∃ n tp, I64 n ∧ (Calls Tryz.prog 118 #[.string s, .int .i64 10, .int .i64 64] w (Ret w fun r _ => ∃ g, r = .tuple #[.int .i64 n, .iface tp (.pointer (some ⟨g, 0, none⟩))])) ∧ (∀ x : Int, 0 ≤ x → x < 10 → s.data.toList = numD x → False))) := by
    show _ ∨ _
    cases hp : Lib.parseIntB 64 s.data.toList with
    | ok v =>
      have hv := Lib.parseIntB_bounds hp
      refine .inl ⟨v, ⟨by have := hv.1; omega, by have := hv.2; omega⟩, ?_, fun x h0 h1 hx => ?_⟩
      · refine (Go.Proofs.Any.strconv_ParseInt_10_at64_ok Tryz.parseInt s (by omega) v hp w).mono ?_
        rintro e w' ⟨rfl, rfl | ⟨t, rfl⟩⟩
        · exact ⟨_, rfl, rfl, Ext.refl _⟩
        · exact ⟨_, rfl, rfl, bytes_ext _ _ _⟩
      · rw [hx, parse_digit ⟨h0, h1⟩] at hp
        injection hp with hp
        exact hp.symm
    | range =>
      obtain ⟨tp, p, hv⟩ := hE.2
      refine .inr ⟨Lib.intSat 64 s.data.toList, Tryz.parseInt_ren.t 168, by unfold Lib.intSat I64; split <;> omega, ?_, fun x h0 h1 hx => ?_⟩
      · refine (Go.Proofs.Any.strconv_ParseInt_10_at64_range_var Tryz.parseInt s (by omega) hp tp p w hv).mono ?_
        rintro e w' ⟨N, rfl, -, -, hb⟩
        exact ⟨_, rfl, ⟨N, rfl⟩, hb⟩
      · rw [hx, parse_digit ⟨h0, h1⟩] at hp
        cases hp
    | _ =>
      obtain ⟨tp, p, hv⟩ := hE.1
      refine .inr ⟨0, Tryz.parseInt_ren.t 168, by unfold I64; omega, ?_, fun x h0 h1 hx => ?_⟩
      · refine (Go.Proofs.Any.strconv_ParseInt_10_at64_syntax_var Tryz.parseInt s (by omega) hp tp p w hv).mono ?_
        rintro e w' ⟨N, rfl, -, -, hb⟩
        exact ⟨_, rfl, ⟨N, rfl⟩, hb⟩
      · rw [hx, parse_digit ⟨h0, h1⟩] at hp
        cases hp
  clear hE
  rcases HP.out with ⟨n, hn, hc, hx⟩ | ⟨n, tp, hn, hc, hx⟩
  · have HTx := Lib.hid (fun (w' : World) (e : Ext w w') => text_any w' (hT.ext e) n hn)
    have HN := Lib.hid hn
    have HX := Lib.hid hx
    clear HP hn hx hT hs
    have HD : Hid (∀ x : Int, 0 ≤ x → x < 10 → s.data.toList = numD x → (strOf (Lib.itoa x)).toList == s.toList) := fun x h0 h1 e => by
      rw [itoa_digit ⟨h0, h1⟩, ← e]
      rw [strOf_data]
      exact beq_self_eq_true _
    go_enter Tryz.func80, Tryz.ntmps80
    go_wp2_with fail
    refine Calls.mono hc ?_
    rintro e w1 hr
    obtain ⟨r, rfl, rfl, e1⟩ := ret_ext hr
    clear hr hc
    have hcall := HTx.out w1 e1
    generalize hst : strOf (Lib.itoa n) = st at *
    go_wp2_with fail
    refine Calls.mono hcall ?_
    rintro e w2 hr
    obtain ⟨r, rfl, rfl, e2⟩ := ret_ext hr
    clear hr hcall
    go_wp2_with fail
    go_ret2
    refine ⟨_, rfl, ⟨n, _, rfl, HN.out, fun x h0 h1 hxe => ?_⟩, e1.trans e2⟩
    have hnx := HX.out x h0 h1 hxe
    subst hnx
    refine ⟨rfl, ?_⟩
    rw [← hst]
    exact HD.out n h0 h1 hxe
  · have HN := Lib.hid hn
    have HX := Lib.hid hx
    clear HP hn hx hT hs
    go_enter Tryz.func80, Tryz.ntmps80
    go_wp2_with fail
    refine Calls.mono hc ?_
    rintro e w1 hr
    obtain ⟨r, rfl, ⟨g, rfl⟩, e1⟩ := ret_ext hr
    clear hr hc
    go_wp2_with fail
    go_ret2
    exact ⟨_, rfl, ⟨n, _, rfl, HN.out, fun x h0 h1 hxe => (HX.out x h0 h1 hxe).elim⟩, e1⟩

open Go.ChangeShapes Go.WideShapes Go.ChangeAt Go.RowKit
set_option linter.unusedVariables false
open Go.Shelf

def Tryz.splitSep_ren : Go.Shelf.Ren := ⟨fun | 146 => 26 | 221 => 48 | 268 => 76 | 138 => 77 | 143 => 78 | 195 => 113 | 197 => 114 | 218 => 115 | 219 => 116 | 260 => 143 | 217 => 144 | 225 => 145 | 224 => 146 | 267 => 147 | 266 => 161 | 314 => 162 | n => n, fun | 9 => 9 | 31 => 42 | 3 => 3 | 4 => 4 | 0 => 0 | 105 => 127 | 21 => 21 | 5 => 5 | 46 => 150 | 119 => 165 | 139 => 168 | 138 => 167 | 146 => 170 | 51 => 169 | n => n, fun | 1 => 0 | 3 => 1 | 4 => 2 | n => n⟩
theorem Tryz.splitSep : Go.Proofs.Lays.n146 Tryz.prog Tryz.splitSep_ren := {
  mixed := by kernel_rfl
  f138 := Tryz.func77.trans (congrArg some (by kernel_rfl))
  f143 := Tryz.func78.trans (congrArg some (by kernel_rfl))
  f146 := Tryz.func26.trans (congrArg some (by kernel_rfl))
  f195 := Tryz.func113.trans (congrArg some (by kernel_rfl))
  f197 := Tryz.func114.trans (congrArg some (by kernel_rfl))
  f217 := Tryz.func144.trans (congrArg some (by kernel_rfl))
  f218 := Tryz.func115.trans (congrArg some (by kernel_rfl))
  f219 := Tryz.func116.trans (congrArg some (by kernel_rfl))
  f221 := Tryz.func48.trans (congrArg some (by kernel_rfl))
  f224 := Tryz.func146.trans (congrArg some (by kernel_rfl))
  f225 := Tryz.func145.trans (congrArg some (by kernel_rfl))
  f260 := Tryz.func143.trans (congrArg some (by kernel_rfl))
  f266 := Tryz.func161.trans (congrArg some (by kernel_rfl))
  f267 := Tryz.func147.trans (congrArg some (by kernel_rfl))
  f268 := Tryz.func76.trans (congrArg some (by kernel_rfl))
  f314 := Tryz.func162.trans (congrArg some (by kernel_rfl))
  t0 := Tryz.underlying0
  a0 := Tryz.isAgg0
  z0 := Tryz.sizeOf0
  v0 := Tryz.zeroValue0
  t3 := Tryz.underlying3
  a3 := Tryz.isAgg3
  z3 := Tryz.sizeOf3
  v3 := Tryz.zeroValue3
  t4 := Tryz.underlying4
  a4 := Tryz.isAgg4
  z4 := Tryz.sizeOf4
  v4 := Tryz.zeroValue4
  t5 := Tryz.underlying5
  a5 := Tryz.isAgg5
  z5 := Tryz.sizeOf5
  v5 := Tryz.zeroValue5
  t9 := Tryz.underlying9
  a9 := Tryz.isAgg9
  z9 := Tryz.sizeOf9
  v9 := Tryz.zeroValue9
  t21 := Tryz.underlying21
  a21 := Tryz.isAgg21
  z21 := Tryz.sizeOf21
  v21 := Tryz.zeroValue21
  t31 := Tryz.underlying42
  a31 := Tryz.isAgg42
  z31 := Tryz.sizeOf42
  v31 := Tryz.zeroValue42
  t46 := Tryz.underlying150
  a46 := Tryz.isAgg150
  z46 := Tryz.sizeOf150
  v46 := Tryz.zeroValue150
  t51 := Tryz.underlying169
  a51 := Tryz.isAgg169
  z51 := Tryz.sizeOf169
  v51 := Tryz.zeroValue169
  t105 := Tryz.underlying127
  a105 := Tryz.isAgg127
  z105 := Tryz.sizeOf127
  v105 := Tryz.zeroValue127
  t119 := Tryz.underlying165
  a119 := Tryz.isAgg165
  z119 := Tryz.sizeOf165
  t138 := Tryz.underlying167
  a138 := Tryz.isAgg167
  z138 := Tryz.sizeOf167
  v138 := Tryz.zeroValue167
  t139 := Tryz.underlying168
  a139 := Tryz.isAgg168
  z139 := Tryz.sizeOf168
  v139 := Tryz.zeroValue168
  t146 := Tryz.underlying170
  a146 := Tryz.isAgg170
  z146 := Tryz.sizeOf170
  v146 := Tryz.zeroValue170
  g1 := by kernel_rfl
  g3 := by kernel_rfl
  g4 := by kernel_rfl }
def Tryz.cutPre_ren : Go.Shelf.Ren := ⟨fun | 103 => 49 | 210 => 79 | 206 => 117 | n => n, fun | 9 => 9 | 4 => 4 | 24 => 66 | 3 => 3 | n => n, fun | n => n⟩
theorem Tryz.cutPre : Go.Proofs.Lays.n103 Tryz.prog Tryz.cutPre_ren := {
  mixed := by kernel_rfl
  f103 := Tryz.func49.trans (congrArg some (by kernel_rfl))
  f206 := Tryz.func117.trans (congrArg some (by kernel_rfl))
  f210 := Tryz.func79.trans (congrArg some (by kernel_rfl))
  t3 := Tryz.underlying3
  a3 := Tryz.isAgg3
  z3 := Tryz.sizeOf3
  v3 := Tryz.zeroValue3
  t4 := Tryz.underlying4
  a4 := Tryz.isAgg4
  z4 := Tryz.sizeOf4
  v4 := Tryz.zeroValue4
  t9 := Tryz.underlying9
  a9 := Tryz.isAgg9
  z9 := Tryz.sizeOf9
  v9 := Tryz.zeroValue9
  t24 := Tryz.underlying66
  a24 := Tryz.isAgg66
  z24 := Tryz.sizeOf66
  v24 := Tryz.zeroValue66 }

open Go.ChangeShapes Go.WideShapes Go.ChangeAt Go.RowKit
set_option linter.unusedVariables false

theorem sep_clean (b : UInt8) (l : List UInt8) : (∀ d ∈ (linesTo b l).1, b ∉ d) ∧ b ∉ (linesTo b l).2 := by
  induction l using list_snoc_ind with
  | h0 => simp [linesTo]
  | h1 l c ih =>
    rw [linesTo_snoc]
    unfold lineStep
    by_cases h : c = b
    · rw [if_pos h]
      refine ⟨fun d hd => ?_, by simp⟩
      rcases List.mem_append.1 hd with q | q
      · exact ih.1 d q
      · rw [List.mem_singleton.1 q]; exact ih.2
    · rw [if_neg h]
      refine ⟨ih.1, fun q => ?_⟩
      rcases List.mem_append.1 q with q | q
      · exact ih.2 q
      · exact h (List.mem_singleton.1 q).symm
theorem sep_index (b : UInt8) (d r : List UInt8) (h : b ∉ d) : Lib.index (d ++ b :: r) [b] = (d.length : Int) := by
  refine Lib.index_first (by simp) ?_ (fun j hj => ?_)
  · unfold Lib.occAt
    rw [List.drop_left]
    simp [List.isPrefixOf]
  · unfold Lib.occAt
    rw [List.drop_append_of_le_length (by omega)]
    obtain ⟨x, t, e, hx⟩ : ∃ x t, d.drop j = x :: t ∧ x ∈ d := ⟨d[j], d.drop (j + 1), (List.getElem_cons_drop hj).symm, List.getElem_mem hj⟩
    rw [e]
    have hne : b ≠ x := fun q => h (q ▸ hx)
    rw [List.cons_append]
    show ((b == x) && List.isPrefixOf [] _) = false
    rw [beq_eq_false_iff_ne.2 hne]
    rfl
theorem splitK_parts (b : UInt8) : ∀ (D : List (List UInt8)) (r : List UInt8), (∀ d ∈ D, b ∉ d) → Lib.splitK [b] 0 D.length (joinL b D ++ r) = D ++ [r]
  | [], r, _ => rfl
  | d :: D, r, h => by
    have e : joinL b (d :: D) ++ r = d ++ b :: (joinL b D ++ r) := by unfold joinL; simp
    have hi := sep_index b d (joinL b D ++ r) (h d (List.mem_cons_self ..))
    rw [e, List.length_cons, Lib.splitK, hi]
    have hm : ((d.length : Int) == -1) = false := by rw [beq_eq_false_iff_ne]; omega
    rw [hm]
    simp only [Bool.false_eq_true, if_false, Int.toNat_natCast, List.length_singleton, List.cons_append, Nat.add_zero]
    congr 1
    · rw [List.take_left]
    · have e2 : d ++ b :: (joinL b D ++ r) = (d ++ [b]) ++ (joinL b D ++ r) := by simp
      have e3 : d.length + 1 = (d ++ [b]).length := by simp
      rw [e2, e3, List.drop_left]
      exact splitK_parts b D r (fun x hx => h x (List.mem_cons_of_mem _ hx))
theorem strOf_dataS (s : ByteArray) : strOf s.data.toList = s := by unfold strOf; rw [Array.toArray_toList]
theorem count_sep (b : UInt8) (s : ByteArray) : Lib.countB s ⟨#[b]⟩ = s.data.toList.count b := by
  show Lib.count s.data.toList [b] = _
  exact Lib.count_one b _
theorem splitB_parts (b : UInt8) (s : ByteArray) : Lib.splitB ⟨#[b]⟩ 0 (Lib.countB s ⟨#[b]⟩) s = (splitL b s.data.toList).map strOf := by
  have h1 := Lib.splitB_data ⟨#[b]⟩ 0 (Lib.countB s ⟨#[b]⟩) s
  have h2 : Lib.splitK [b] 0 (Lib.countB s ⟨#[b]⟩) s.data.toList = splitL b s.data.toList := by
    have h3 := splitK_parts b (linesTo b s.data.toList).1 (linesTo b s.data.toList).2 (sep_clean b _).1
    have h4 : joinL b (linesTo b s.data.toList).1 ++ (linesTo b s.data.toList).2 = s.data.toList := (linesTo_join b _).symm
    rw [h4] at h3
    rw [count_sep, ← linesTo_count]
    exact h3
  have h5 : (Lib.splitB ⟨#[b]⟩ 0 (Lib.countB s ⟨#[b]⟩) s).map (·.data.toList) = splitL b s.data.toList := h1.trans h2
  have h6 := congrArg (List.map strOf) h5
  rw [List.map_map] at h6
  have h7 : (strOf ∘ fun x : ByteArray => x.data.toList) = id := funext fun x => strOf_dataS x
  rw [h7, List.map_id] at h6
  exact h6
theorem splitL_count (b : UInt8) (l : List UInt8) : (splitL b l).length = l.count b + 1 := by unfold splitL; rw [List.length_append, List.length_singleton, linesTo_count]
/-- the cell that the library's search for a text reads -/
def SepCell (w : World) : Prop := ∃ m, w.cell? ⟨Tryz.splitSep_ren.g 1, 0, none⟩ = some (.int .i64 m)
theorem SepCell.ext {w w' : World} (h : SepCell w) (e : Ext w w') : SepCell w' := by obtain ⟨m, h⟩ := h; exact ⟨m, e.cell h⟩
theorem sepCell_of (w : World) (h : w.ShapedOpen Tryz.prog) : SepCell w :=
  Go.Proofs.cell_of_shapedOpen_int (zero := #[.int .i64 0]) (t := 3) h (of_decide_eq_true (by kernel_rfl)) (by kernel_rfl) rfl (by kernel_rfl) (by kernel_rfl) Tryz.underlying3
theorem split_c (w : World) (hm : SepCell w) (s : ByteArray) (hs : s.size ≤ 100000) (b : UInt8) :
    Calls Tryz.prog 26 #[.string s, .string ⟨#[b]⟩] w (Ret w fun r w' => OwnP Value.string 9 w.heap.size w' r ((splitL b s.data.toList).map strOf)) := by
  obtain ⟨m, hm⟩ := hm
  have h1 := Go.Proofs.Any.strings_Split Tryz.splitSep (by kernel_rfl) s ⟨#[b]⟩ m w (by omega) hm (Nat.le_refl _)
  rw [splitB_parts] at h1
  have hl : Lib.countB s ⟨#[b]⟩ + 1 = ((splitL b s.data.toList).map strOf).length := by rw [List.length_map, splitL_count, count_sep]
  have hcl : s.data.toList.count b ≤ s.size := by rw [← len_str]; exact List.count_le_length
  rw [hl] at h1
  refine h1.mono ?_
  rintro e w' ⟨rfl, rfl⟩
  refine ⟨_, rfl, OwnP.lit (Nat.le_refl _) _ _ (by simp) ?_, Ext.alloc _ _⟩
  rw [List.length_map, splitL_count]
  unfold maxLen
  omega

open Go.ChangeShapes Go.WideShapes Go.ChangeAt Go.RowKit
set_option linter.unusedVariables false

section
variable {P : Program} {ops : Array Oper} {Q : Exit → Act → World → Prop} {md : Region.Mode} {S : World → Prop}
/-- operation i is taken first; its value goes to slot d -/
theorem take_at (i d : Nat) {oi : Oper} {v : Value} {fuel : Nat} {listed : Array Bool} {a : Act} {w : World} (hi : ops[i]? = some oi) (hd : oi.dst = some d)
    (hs : Region.noSelect ops = true) (hf : Region.free md ops listed i = true) (hr : (Region.ready md ops listed).contains i = true)
    (hQ : ∀ c a w, Q (.panic c) (a.put (some d) v) w → Q (.panic c) a w) (hw : Region.wanted oi (yielded ops a.tmps) = true) (hy : ∀ w, S w → (execOp a.eval oi).run P w = .ok (.value v) w) (hS : S w)
    (h : wpAnyH P md ops Q S fuel (listed.setIfInBounds i true) (a.put (some d) v) w) : wpAnyH P md ops Q S (fuel + 1) listed a w := by
  rw [← hd] at hQ h
  exact wpAnyH_take hi hs hf hr hQ (Or.inl ⟨hw, hy⟩) hS h
/-- operation i is not wanted -/
theorem skip_at (i d : Nat) {oi : Oper} {fuel : Nat} {listed : Array Bool} {a : Act} {w : World} (hi : ops[i]? = some oi) (hd : oi.dst = some d)
    (hs : Region.noSelect ops = true) (hf : Region.free md ops listed i = true) (hr : (Region.ready md ops listed).contains i = true)
    (hQ : ∀ c a w, Q (.panic c) (a.put (some d) undef) w → Q (.panic c) a w) (hw : Region.wanted oi (yielded ops a.tmps) = false) (hS : S w)
    (h : wpAnyH P md ops Q S fuel (listed.setIfInBounds i true) (a.put (some d) undef) w) : wpAnyH P md ops Q S (fuel + 1) listed a w := by
  rw [← hd] at hQ h
  exact wpAnyH_take hi hs hf hr hQ (Or.inr ⟨hw, rfl⟩) hS h
end

open Go.ChangeShapes Go.WideShapes Go.ChangeAt Go.RowKit
set_option linter.unusedVariables false

theorem parts_le (b : UInt8) (l : List UInt8) : (∀ d ∈ (linesTo b l).1, d.length ≤ l.length) ∧ (linesTo b l).2.length ≤ l.length := by
  induction l using list_snoc_ind with
  | h0 => simp [linesTo]
  | h1 l c ih =>
    rw [linesTo_snoc]
    unfold lineStep
    rw [List.length_append, List.length_singleton]
    by_cases h : c = b
    · rw [if_pos h]
      refine ⟨fun d hd => ?_, by simp⟩
      rcases List.mem_append.1 hd with q | q
      · exact Nat.le_succ_of_le (ih.1 d q)
      · rw [List.mem_singleton.1 q]; exact Nat.le_succ_of_le ih.2
    · rw [if_neg h]
      refine ⟨fun d hd => Nat.le_succ_of_le (ih.1 d hd), ?_⟩
      simp only [List.length_append, List.length_singleton]
      exact Nat.succ_le_succ ih.2
theorem splitL_le (b : UInt8) (l : List UInt8) : ∀ d ∈ splitL b l, d.length ≤ l.length := by
  intro d hd
  unfold splitL at hd
  rcases List.mem_append.1 hd with q | q
  · exact (parts_le b l).1 d q
  · rw [List.mem_singleton.1 q]; exact (parts_le b l).2
/-- numbers read one behind the other -/
def NumsOk (ls : List (List UInt8)) (ns : List Int) (b : Bool) : Prop := ∀ xs : List Int, (∀ x ∈ xs, 0 ≤ x ∧ x < 10) → ls = xs.map numD → ns = xs ∧ b = true
/-- the numbers so far -/
def NumsTo (ls : List (List UInt8)) (ns : List Int) (i : Nat) : Prop := ∀ xs : List Int, (∀ x ∈ xs, 0 ≤ x ∧ x < 10) → ls = xs.map numD → ns = xs.take i
theorem numsTo_zero (ls : List (List UInt8)) : NumsTo ls [] 0 := fun xs _ _ => by simp
theorem numsTo_succ {ls : List (List UInt8)} {ns : List Int} {i : Nat} {n : Int} (h : NumsTo ls ns i) (hi : i < ls.length) (hn : NumOk ls[i] n true) : NumsTo ls (ns ++ [n]) (i + 1) := fun xs hx e => by
  subst e
  have hi2 : i < xs.length := by simpa using hi
  have h1 := h xs hx rfl
  have h2 := (hn xs[i] (hx _ (List.getElem_mem hi2)).1 (hx _ (List.getElem_mem hi2)).2 (by simp)).1
  rw [h1, h2, List.take_succ_eq_append_getElem hi2]
theorem numsTo_bad {ls : List (List UInt8)} {i : Nat} {n : Int} (hi : i < ls.length) (hn : NumOk ls[i] n false) (ns : List Int) : NumsOk ls ns false := fun xs hx e => by
  subst e
  have hi2 : i < xs.length := by simpa using hi
  have h2 := (hn xs[i] (hx _ (List.getElem_mem hi2)).1 (hx _ (List.getElem_mem hi2)).2 (by simp)).2
  cases h2
theorem numsTo_all {ls : List (List UInt8)} {ns : List Int} (h : NumsTo ls ns ls.length) : NumsOk ls ns true := fun xs hx e => by
  have := h xs hx e
  subst e
  rw [this]
  simp

set_option maxRecDepth 20000 in
set_option maxHeartbeats 1000000 in
theorem parted_c (w : World) (hT : Pow10 w) (hE : ParseErr w) (hS : SepCell w) (s : ByteArray) (hs : s.size ≤ 100000) (b : UInt8) :
    Calls Tryz.prog 50 #[.string s, .string ⟨#[b]⟩] w (Ret w fun r w' => ∃ u ns q, r = .tuple #[u, .bool q] ∧ OwnP (Value.int .i64) 2 w.heap.size w' u ns ∧ (∀ x ∈ ns, I64 x) ∧ NumsOk (splitL b s.data.toList) ns q) := by
  have HSp := Lib.hid (fun (w' : World) (e : Ext w w') => split_c w' (hS.ext e) s hs b)
  have HNu := Lib.hid (fun (w' : World) (e : Ext w w') (t : ByteArray) (ht : t.size ≤ 100000) => number_c w' (hT.ext e) (hE.ext e) t ht)
  have Hsz : Hid (∀ i (h : i < (splitL b s.data.toList).length), (strOf (splitL b s.data.toList)[i]).size ≤ 100000) := fun i h => by
    rw [strOf_size]
    exact Nat.le_trans (splitL_le b s.data.toList _ (List.getElem_mem h)) (by rw [len_str]; exact hs)
  have HszM : Hid (∀ x ∈ (splitL b s.data.toList).map strOf, x.size ≤ maxLen) := fun x hx => by
    obtain ⟨l, hl, rfl⟩ := List.mem_map.1 hx
    rw [strOf_size]
    have := splitL_le b s.data.toList l hl
    rw [len_str] at this
    unfold maxLen; omega
  have Hln : Hid ((splitL b s.data.toList).length ≤ 100001) := by
    show _ ≤ _
    rw [splitL_count]
    have : s.data.toList.count b ≤ s.size := by rw [← len_str]; exact List.count_le_length
    omega
  generalize splitL b s.data.toList = ls at *
  clear hT hE hS hs
  go_enter Tryz.func50, Tryz.ntmps50
  go_wp2_with fail
  have oi : OwnP (Value.int .i64) 2 w.heap.size (w.alloc (.cells #[] 2)) (.slice (some ⟨w.heap.size, 0, none⟩) 0 0) [] := OwnP.empty (Nat.le_refl _)
  have ei : Ext w (w.alloc (.cells #[] 2)) := Ext.alloc _ _
  have hsi : (w.alloc (.cells #[] 2)).heap.size = w.heap.size + 1 := by simp
  generalize w.alloc (.cells #[] 2) = w0 at *
  refine Calls.mono (HSp.out w0 ei) ?_
  rintro e w1 hr
  obtain ⟨r, rfl, o1, e1⟩ := ret_ext hr
  clear hr HSp
  have hst := OwnP.reads o1 (E := StrR) (fun _ x hx => ⟨rfl, HszM.out x hx⟩) (Nat.le_refl w0.heap.size) (Nat.le_refl _)
  obtain ⟨a1, n1, k1, rfl, hn1, -⟩ := OwnP.shape o1
  rw [List.length_map] at hn1
  have Hn1 := Lib.hid hn1
  have hn5 : n1 ≤ 100001 := by have := Hln.out; omega
  have Hst := Lib.hid hst
  have oi1 := Lib.hid (oi.ext e1)
  have ei1 := Lib.hid (ei.trans e1)
  have hs01 := e1.size
  clear o1 hn1 oi hst ei e1
  go_wp2_with fail
  go_loopw [6, 8, 9, 10, 16] (fun s6 _ _ _ s16 wr => ∃ (i : Nat) (ns : List Int), i ≤ n1 ∧ s16 = .int .i64 i ∧ OwnP (Value.int .i64) 2 w.heap.size wr s6 ns ∧ ns.length = i ∧ (∀ x ∈ ns, I64 x) ∧ NumsTo ls ns i ∧ Below w.heap.size w wr ∧ StrsR ⟨w0.heap.size, w1.heap.size, true⟩ wr (.slice a1 n1 k1) (ls.map strOf) ∧ w1.heap.size ≤ wr.heap.size ∧ (∀ k, s6.ownBlock = some k → k < w0.heap.size ∨ w1.heap.size ≤ k)) (fun _ _ _ _ s16 _ => n1 - (intOf s16).toNat)
  case atStart => exact ⟨0, [], Nat.zero_le _, rfl, oi1.out, rfl, by simp, numsTo_zero ls, ei1.out, Hst.out, Nat.le_refl _, fun k hk => .inl (by injection hk with hk; simp only at hk; omega)⟩
  case round =>
    clear oi1 ei1 Hst
    obtain ⟨i, ns, hi, rfl, ho, hnl, hI, hN, hb, hst, hs1, hat⟩ := hrel
    have HO := Lib.hid ho
    have HI := Lib.hid hI
    have HN := Lib.hid hN
    have HB := Lib.hid hb
    have HSt := Lib.hid hst
    have HAt := Lib.hid hat
    have Hnl := Lib.hid hnl
    have hnl5 : ns.length ≤ 100001 := by omega
    have hbs := hb.size
    by_cases hlt : i < n1
    · have hil : i < ls.length := by rw [← Hn1.out]; exact hlt
      obtain ⟨a', n', k', he', -, -, -, -, -, hel⟩ := SliceR.shape hst
      injection he' with q1 q2 q3
      obtain ⟨bb, oo, hae, hz, hbl, -, u, y, hc, -, -, hE⟩ := hel i (by rw [List.length_map]; exact hil)
      rw [← q1] at hae
      subst hae
      obtain ⟨rfl, -⟩ := hE
      rw [List.getElem_map] at hc
      have hnum := HNu.out wr HB.out (strOf ls[i]) (Hsz.out i hil)
      rw [data_strOf] at hnum
      have Hbad := Lib.hid (fun (n : Int) (hn : NumOk ls[i] n false) => numsTo_bad hil hn [])
      have Hgood := Lib.hid (fun (n : Int) (hn : NumOk ls[i] n true) => numsTo_succ HN.out hil hn)
      generalize NumOk ls[i] = NO at *
      generalize strOf ls[i] = word at *
      obtain ⟨a6, n6, k6, rfl, -⟩ := OwnP.shape ho
      clear ho hI hN hb hst hat hel hil hnl q1 q2 q3 hz hbl
      go_wp2_with fail
      refine Calls.mono hnum ?_
      rintro e w2 hr
      obtain ⟨r, rfl, ⟨n, q, rfl, hn, hno⟩, e2⟩ := ret_ext hr
      clear hr hnum hc
      have HNo := Lib.hid hno
      have Hn := Lib.hid hn
      clear hno hn
      have hB2 : Hid (Below w.heap.size w w2) := HB.out.trans (Below.mono e2 hbs)
      have hs2 := e2.size
      cases q with
      | false =>
        have HQ := Lib.hid (Hbad.out n HNo.out)
        go_wp2_with fail
        go_ret2
        exact ⟨_, rfl, ⟨_, [], false, rfl, OwnP.none, by simp, HQ.out⟩, hB2.out⟩
      | true =>
        have HQ := Lib.hid (Hgood.out n HNo.out)
        have own := HO.out.ext e2
        have st2 := Lib.hid (stable_strs.keep HSt.out (fun j hj hl => Below.block e2 j hl))
        have hB3 : w.heap.size ≤ w2.heap.size := by omega
        clear e2
        go_wp2_with (at_builtin; (refine wpList_append1X (f := Value.int .i64) (e := 2) (B := w.heap.size) (xs := ns) rfl _ _ 46 rfl 0 8 Tryz.underlying46 Tryz.infoI64 rfl (fun _ => rfl) rfl own n rfl (by omega) (by omega) hB3 ?_); intro v6 w6 hown6 hg6 hb6 hat6)
        have st6 : Hid (StrsR ⟨w0.heap.size, w1.heap.size, true⟩ w6 (.slice (some ⟨bb, oo, none⟩) n1 k1) (ls.map strOf)) := stable_strs.keep st2.out (fun j hj hl => hg6.block j hl (fun e => by
          have h1 := hj.1
          have h2 := hj.2
          simp only at h1 h2
          rcases HAt.out j e.symm with h | h <;> omega))
        have H6 : Hid (w1.heap.size ≤ w6.heap.size ∧ ∀ k, v6.ownBlock = some k → k < w0.heap.size ∨ w1.heap.size ≤ k) := ⟨by have := hb6.size; omega, fun k hk => by
          rcases hat6 k hk with h | h
          · exact HAt.out k h
          · exact .inr (by omega)⟩
        have HB6 : Hid (Below w.heap.size w w6) := hB2.out.trans hb6
        have HO6 := Lib.hid hown6
        clear hown6 hg6 hb6 hat6 own
        go_roundw
        case rel => exact ⟨i + 1, ns ++ [n], by omega, by go_num, HO6.out, by rw [List.length_append, List.length_singleton, Hnl.out], ints_snoc HI.out Hn.out, HQ.out, HB6.out, st6.out, H6.out.1, H6.out.2⟩
        case measure => simp [intOf]; omega
    · have hin : i = ls.length := by have := Hn1.out; omega
      have HQ : Hid (NumsOk ls ns true) := numsTo_all (hin ▸ HN.out)
      obtain ⟨a6, n6, k6, rfl, -⟩ := OwnP.shape ho
      clear ho hI hN hb hst hat hnl hin
      go_wp2_with fail
      go_ret2
      exact ⟨_, rfl, ⟨_, ns, true, rfl, HO.out, HI.out, HQ.out⟩, HB.out⟩

theorem byteGet {s : ByteArray} {i : Nat} (h : i < s.size) : s[i].toNat = (s.data.toList.getD i 0).toNat := by
  have h2 : i < s.data.toList.length := by rw [len_str]; exact h
  rw [List.getD_eq_getElem?_getD, List.getElem?_eq_getElem h2]
  rfl
theorem digsBack_len (l : List UInt8) : (digsBack l).length = l.length := by unfold digsBack; rw [List.length_map]
theorem digsBack_snoc {l : List UInt8} {i : Nat} (h : i < l.length) : digsBack (l.take (i + 1)) = digsBack (l.take i) ++ [((l.getD i 0).toNat : Int) - 48] := by
  unfold digsBack
  rw [List.take_succ_eq_append_getElem h, List.map_append]
  simp [h]
theorem digsBack_mem (l : List UInt8) : ∀ x ∈ digsBack l, I64 x := fun x hx => by
  unfold digsBack at hx
  obtain ⟨b, hb, rfl⟩ := List.mem_map.1 hx
  have := b.toNat_lt
  unfold I64
  omega
theorem byteLt (l : List UInt8) (i : Nat) : (l.getD i 0).toNat < 256 := (l.getD i 0).toNat_lt

set_option maxRecDepth 20000 in
set_option maxHeartbeats 1000000 in
theorem readKey_c (w : World) (mk : MK) (hm : isMaker mk = true) (s : ByteArray) (hs : s.size ≤ 100000) :
    Calls Tryz.prog 28 #[mk.v, .string s] w (Ret w fun r w' => ∃ u, r = .tuple #[u, .bool (isKeyB mk (digsBack s.data.toList))] ∧ OwnP (Value.int .i64) 2 w.heap.size w' u (digsBack s.data.toList)) := by
  have hmi := isMaker_iff.1 hm
  have HK := Lib.hid (fun (w' : World) (v : Value) (z : Zone) (g : IntsR z w' v (digsBack s.data.toList)) => isKey_c w' mk (by omega) (by omega) v z _ g)
  have hl : s.data.toList.length = s.size := len_str s
  have HB := fun (i : Nat) (h : i < s.size) => byteGet h
  have HBl := Lib.hid (fun i => byteLt s.data.toList i)
  have HSn := Lib.hid (fun (i : Nat) (h : i < s.size) => digsBack_snoc (l := s.data.toList) (i := i) (by rw [hl]; exact h))
  have HAll : Hid (digsBack (s.data.toList.take s.size) = digsBack s.data.toList) := by show _ = _; rw [← hl, List.take_length]
  have HLn : Hid (∀ i, i ≤ s.size → (digsBack (s.data.toList.take i)).length = i) := fun i hi => by rw [digsBack_len, List.length_take, hl]; omega
  have HMm := Lib.hid (digsBack_mem s.data.toList)
  generalize isKeyB mk (digsBack s.data.toList) = q at *
  generalize hdb : (fun i => digsBack (s.data.toList.take i)) = D at *
  have HD : ∀ i, digsBack (s.data.toList.take i) = D i := fun i => by rw [← hdb]
  have HD0 : Hid (D 0 = []) := by show _ = _; rw [← HD]; rfl
  simp only [HD] at HSn HAll HLn
  generalize digsBack s.data.toList = res at *
  generalize hbb : (fun i => (s.data.toList.getD i 0).toNat) = B at *
  have HBB : ∀ i, (s.data.toList.getD i 0).toNat = B i := fun i => by rw [← hbb]
  simp only [HBB] at HB HBl HSn
  clear hdb HD hbb HBB hl hmi hm
  obtain ⟨mc, md, ms, mm, ml⟩ := mk
  unfold MK.v at *
  simp only at HK ⊢
  go_enter Tryz.func28, Tryz.ntmps28
  go_wp2_with fail
  generalize hw0 : World.alloc w _ = w0
  obtain ⟨e0, S0⟩ := mk_box (mk := ⟨mc, md, ms, mm, ml⟩) hw0
  have hz0 : w0.heap.size = w.heap.size + 1 := by rw [← hw0]; simp
  clear hw0
  have HS := Lib.hid S0
  have oi : OwnP (Value.int .i64) 2 w0.heap.size (w0.alloc (.cells #[] 2)) (.slice (some ⟨w.heap.size + 1, 0, none⟩) 0 0) [] := by rw [← hz0]; exact OwnP.empty (Nat.le_refl _)
  have ei : Ext w0 (w0.alloc (.cells #[] 2)) := Ext.alloc _ _
  clear S0
  go_wp2_with fail
  generalize w0.alloc (.cells #[] 2) = w1 at *
  go_loopw [6, 7, 11] (fun s6 _ s11 wr => ∃ i : Nat, i ≤ s.size ∧ s11 = .int .i64 (i : Int) ∧ OwnP (Value.int .i64) 2 w0.heap.size wr s6 (D i) ∧ Ext w0 wr) (fun _ _ s11 _ => s.size - (intOf s11).toNat)
  case atStart => exact ⟨0, Nat.zero_le _, rfl, by rw [HD0.out]; exact oi, ei⟩
  case round =>
    clear oi ei
    obtain ⟨i, hi, rfl, ho, ew⟩ := hrel
    have HE := Lib.hid ew
    have hsw := ew.size
    have hll := HLn.out i hi
    by_cases hlt : i < s.size
    · have hSn := HSn.out i hlt
      have HSi := Lib.hid hSn
      have hbi := HBl.out i
      have hw1 : IntKind.i64.wrap (B i : Int) = (B i : Int) := IntWalk.i64_in _ (by omega)
      have hw2 : IntKind.i64.wrap ((B i : Int) - 48) = (B i : Int) - 48 := IntWalk.i64_in _ (by omega)
      obtain ⟨a6, n6, k6, rfl, -⟩ := OwnP.shape ho
      generalize D i = Di at *
      clear hSn ew
      go_wp2_with (at_builtin; (refine wpList_append1X (f := Value.int .i64) (e := 2) (B := w0.heap.size) (xs := Di) rfl _ _ 46 rfl 0 8 Tryz.underlying46 Tryz.infoI64 rfl (fun _ => rfl) rfl ho ((B i : Int) - 48) rfl (by omega) (by omega) hsw ?_); intro v6 w6 hown6 hg6 hb6 hat6)
      go_roundw
      case rel => exact ⟨i + 1, by omega, by go_num, by rw [HSi.out]; exact hown6, Below.trans HE.out hb6⟩
      case measure => simp [intOf]; omega
    · have hin : i = s.size := by omega
      subst hin
      rw [HAll.out] at ho
      have HO := Lib.hid ho
      have hI := OwnP.ints ho HMm.out (Nat.le_refl _)
      have hk := HK.out wr _ _ hI
      obtain ⟨a6, n6, k6, rfl, -⟩ := OwnP.shape ho
      obtain ⟨c0, c1, c2, c3, c4⟩ := HS.out.ext ew
      clear ho ew hll hI
      go_wp2_with fail
      refine Calls.mono hk ?_
      rintro e w3 hr
      obtain ⟨r, rfl, rfl, e3⟩ := ret_ext hr
      clear hr hk c0 c1 c2 c3 c4
      have HO3 := Lib.hid (OwnP.lower (B' := w.heap.size) (HO.out.ext e3) e0.size)
      have HE3 := Lib.hid (e0.trans (HE.out.trans e3))
      go_wp2_with fail
      go_ret2
      exact ⟨_, rfl, ⟨_, rfl, HO3.out⟩, HE3.out⟩

/-- the result's cell for a maker -/
def BoxM (b : Nat) (mk : MK) (w : World) : Prop := MkAt w b mk ∧ ∀ i, w.frozen? ⟨b, i, none⟩ = false
theorem BoxM.new (w : World) (mk : MK) (t : TypeId) : BoxM w.heap.size mk (w.alloc (.cells #[.int .i64 mk.c, .int .i64 mk.d, .int .i64 mk.s, .int .i64 mk.m, .int .i64 mk.l] t)) :=
  ⟨(mk_box rfl).2, fun i => frozen_of_row _ _ _ _ t (heap_alloc_new w _)⟩
theorem BoxM.lt {b : Nat} {mk : MK} {w : World} (h : BoxM b mk w) : b < w.heap.size := by
  obtain ⟨⟨c0, c1, c2, c3, c4⟩, f⟩ := h
  exact World.block_lt_of_cell? _ _ c0
theorem BoxM.ext {b : Nat} {mk : MK} {w w' : World} (h : BoxM b mk w) (e : Ext w w') : BoxM b mk w' := by
  have hlt := h.lt
  obtain ⟨⟨c0, c1, c2, c3, c4⟩, f⟩ := h
  exact ⟨⟨e.cell c0, e.cell c1, e.cell c2, e.cell c3, e.cell c4⟩, fun i => (World.frozen?_of_block (Below.block e _ hlt)).trans (f i)⟩
theorem BoxM.out {b : Nat} {mk : MK} {w : World} (h : BoxM b mk w) : (w.cell? ⟨b, 0, none⟩ = some (.int .i64 mk.c) ∧ w.cell? ⟨b, 1, none⟩ = some (.int .i64 mk.d) ∧ w.cell? ⟨b, 2, none⟩ = some (.int .i64 mk.s) ∧ w.cell? ⟨b, 3, none⟩ = some (.int .i64 mk.m) ∧ w.cell? ⟨b, 4, none⟩ = some (.int .i64 mk.l)) ∧
    w.frozen? ⟨b, 0, none⟩ = false ∧ w.frozen? ⟨b, 1, none⟩ = false ∧ w.frozen? ⟨b, 2, none⟩ = false ∧ w.frozen? ⟨b, 3, none⟩ = false ∧ w.frozen? ⟨b, 4, none⟩ = false := ⟨h.1, h.2 0, h.2 1, h.2 2, h.2 3, h.2 4⟩
theorem BoxM.put {b : Nat} {mk : MK} {w : World} (h : BoxM b mk w) (mk' : MK) : BoxM b mk' (((((w.setCell ⟨b, 0, none⟩ (.int .i64 mk'.c)).setCell ⟨b, 1, none⟩ (.int .i64 mk'.d)).setCell ⟨b, 2, none⟩ (.int .i64 mk'.s)).setCell ⟨b, 3, none⟩ (.int .i64 mk'.m)).setCell ⟨b, 4, none⟩ (.int .i64 mk'.l)) := by
  obtain ⟨⟨c0, c1, c2, c3, c4⟩, f⟩ := h
  refine ⟨⟨?_, ?_, ?_, ?_, ?_⟩, fun i => ?_⟩
  all_goals (try simp only [World.frozen?_setCell])
  all_goals first | exact f i | (go_simp; done)
theorem putM_other {w : World} {B k : Nat} (hk : k ≠ B) (u0 u1 u2 u3 u4 : Value) : (((((w.setCell ⟨B, 0, none⟩ u0).setCell ⟨B, 1, none⟩ u1).setCell ⟨B, 2, none⟩ u2).setCell ⟨B, 3, none⟩ u3).setCell ⟨B, 4, none⟩ u4).heap[k]? = w.heap[k]? := by
  rw [Below.heap_setCell _ _ _ _ hk, Below.heap_setCell _ _ _ _ hk, Below.heap_setCell _ _ _ _ hk, Below.heap_setCell _ _ _ _ hk, Below.heap_setCell _ _ _ _ hk]
theorem ext_putM {w w' : World} {B : Nat} (h : Ext w w') (hB : w.heap.size ≤ B) (u0 u1 u2 u3 u4 : Value) : Ext w (((((w'.setCell ⟨B, 0, none⟩ u0).setCell ⟨B, 1, none⟩ u1).setCell ⟨B, 2, none⟩ u2).setCell ⟨B, 3, none⟩ u3).setCell ⟨B, 4, none⟩ u4) :=
  Below.setCell (Below.setCell (Below.setCell (Below.setCell (Below.setCell h (p := ⟨B, 0, none⟩) hB _) (p := ⟨B, 1, none⟩) hB _) (p := ⟨B, 2, none⟩) hB _) (p := ⟨B, 3, none⟩) hB _) (p := ⟨B, 4, none⟩) hB _
/-- what stands behind a first line's first word -/
def mkPre : List UInt8 := [109, 97, 107, 101, 114, 32]
theorem maker_rest (mk : MK) : Lib.hasPrefix (makerV mk).data.toList mkPre = true ∧ Lib.trimPrefix (makerV mk).data.toList mkPre = joinI [mk.c, mk.d, mk.s, mk.m, mk.l] [32] := by
  have e : (makerV mk).data.toList = mkPre ++ joinI [mk.c, mk.d, mk.s, mk.m, mk.l] [32] := by
    unfold makerV
    simp only [data_app, data_strOf]
    rfl
  have h : Lib.hasPrefix (makerV mk).data.toList mkPre = true := by
    unfold Lib.hasPrefix
    rw [e]
    simp [mkPre, List.isPrefixOf]
  refine ⟨h, ?_⟩
  unfold Lib.trimPrefix
  rw [if_pos h, e]
  exact List.drop_left
theorem maker_nums {mk : MK} {l : List UInt8} {ns : List Int} {q : Bool} (hm : isMaker mk = true) (hl : l = (makerV mk).data.toList) (h : NumsOk (splitL 32 (Lib.trimPrefix l mkPre)) ns q) : Lib.hasPrefix l mkPre = true ∧ q = true ∧ ns = [mk.c, mk.d, mk.s, mk.m, mk.l] := by
  subst hl
  obtain ⟨h1, h2⟩ := maker_rest mk
  rw [h2] at h
  have h3 := h [mk.c, mk.d, mk.s, mk.m, mk.l] (makerDigs hm) (by
    unfold joinI
    rw [List.map_cons, splitL_join 32 _ _ (fun y hy => by
      obtain ⟨x, -, rfl⟩ := List.mem_map.1 (show y ∈ [mk.c, mk.d, mk.s, mk.m, mk.l].map numD from hy)
      exact hi_not (hi_dec _) (by decide))])
  exact ⟨h1, h3.2, h3.1⟩
theorem lineOk_five {ll : List UInt8} {p q : Prop} {x0 x1 x2 x3 x4 : Int} (h : ∀ mk, isMaker mk = true → ll = (makerV mk).data.toList → p ∧ q ∧ [x0, x1, x2, x3, x4] = [mk.c, mk.d, mk.s, mk.m, mk.l]) : LineOk ll ⟨x0, x1, x2, x3, x4⟩ (isMaker ⟨x0, x1, x2, x3, x4⟩) := fun mk hm hl => by
  obtain ⟨-, -, h3⟩ := h mk hm hl
  simp only [List.cons.injEq, and_true] at h3
  obtain ⟨rfl, rfl, rfl, rfl, rfl⟩ := h3
  exact ⟨hm, rfl⟩
theorem trim_le (l p : List UInt8) : (Lib.trimPrefix l p).length ≤ l.length := by
  unfold Lib.trimPrefix
  split
  · rw [List.length_drop]; omega
  · exact Nat.le_refl _

set_option maxRecDepth 20000 in
set_option maxHeartbeats 2000000 in
theorem readMaker_c (w : World) (hT : Pow10 w) (hE : ParseErr w) (hS : SepCell w) (s : ByteArray) (hs : s.size ≤ 100000) :
    Calls Tryz.prog 27 #[.string s] w (Ret w fun r _ => ∃ mk' b, r = .tuple #[mk'.v, .bool b] ∧ LineOk s.data.toList mk' b ∧ (b = true → isMaker mk' = true)) := by
  have hsz : (strOf (Lib.trimPrefix s.data.toList mkPre)).size ≤ 100000 := by
    rw [strOf_size]
    have := trim_le s.data.toList mkPre
    rw [len_str] at this
    omega
  have HC : Hid (∀ w', Calls Tryz.prog 49 #[.string s, .string ⟨#[109, 97, 107, 101, 114, 32]⟩] w' (Ret w' fun r _ => r = .tuple #[.string (strOf (Lib.trimPrefix s.data.toList mkPre)), .bool (Lib.hasPrefix s.data.toList mkPre)])) := fun w' => (Go.Proofs.Any.strings_CutPrefix Tryz.cutPre s ⟨#[109, 97, 107, 101, 114, 32]⟩ w').mono (by
    rintro e w'' ⟨rfl, rfl⟩
    exact ⟨_, rfl, rfl, Ext.refl _⟩)
  have HPt := Lib.hid (fun (w' : World) (e : Ext w w') => parted_c w' (hT.ext e) (hE.ext e) (hS.ext e) (strOf (Lib.trimPrefix s.data.toList mkPre)) hsz 32)
  rw [data_strOf] at HPt
  have HF : Hid (∀ ns q, NumsOk (splitL 32 (Lib.trimPrefix s.data.toList mkPre)) ns q → ∀ mk, isMaker mk = true → s.data.toList = (makerV mk).data.toList → Lib.hasPrefix s.data.toList mkPre = true ∧ q = true ∧ ns = [mk.c, mk.d, mk.s, mk.m, mk.l]) := fun ns q h mk hm hl => maker_nums hm hl h
  have HM := Lib.hid (fun (w' : World) (mk : MK) => IsMaker_c w' mk)
  have R0 := BoxM.new w ⟨0, 0, 0, 0, 0⟩ 23
  have e0 : Ext w (w.alloc (.cells #[.int .i64 0, .int .i64 0, .int .i64 0, .int .i64 0, .int .i64 0] 23)) := Ext.alloc _ _
  generalize hll : s.data.toList = ll at *
  generalize Lib.hasPrefix ll mkPre = found at *
  generalize strOf (Lib.trimPrefix ll mkPre) = rest at *
  generalize splitL 32 (Lib.trimPrefix ll mkPre) = words at *
  clear hT hE hS hs hsz hll
  go_enter Tryz.func27, Tryz.ntmps27
  go_wp2_with fail
  generalize w.alloc (.cells #[.int .i64 0, .int .i64 0, .int .i64 0, .int .i64 0, .int .i64 0] 23) = w0 at *
  refine Calls.mono (HC.out w0) ?_
  rintro e w1 hr
  obtain ⟨r, rfl, rfl, e1⟩ := ret_ext hr
  clear hr
  have et1 := e0.trans e1
  go_wp2_with fail
  refine Calls.mono (HPt.out w1 et1) ?_
  rintro e w2 hr
  obtain ⟨r, rfl, ⟨u, ns, q, rfl, o2, hI2, hq⟩, e2⟩ := ret_ext hr
  clear hr HC HPt
  have HFn := Lib.hid (HF.out ns q hq)
  have HO := Lib.hid o2
  have HI := Lib.hid hI2
  obtain ⟨a2, n2, k2, rfl, hn2, -⟩ := OwnP.shape o2
  have Hn2 := Lib.hid hn2
  have HE2 := Lib.hid (et1.trans e2)
  have HR2 := Lib.hid (R0.ext (e1.trans e2))
  clear o2 hI2 hq hn2 R0 e0 e1 e2 et1 HF
  by_cases hgood : (found = true ∧ q = true) ∧ n2 = 5
  · obtain ⟨⟨rfl, rfl⟩, rfl⟩ := hgood
    obtain ⟨x0, x1, x2, x3, x4, rfl⟩ : ∃ x0 x1 x2 x3 x4, ns = [x0, x1, x2, x3, x4] := by
      have h5 := Hn2.out
      match ns, h5 with
      | [x0, x1, x2, x3, x4], _ => exact ⟨_, _, _, _, _, rfl⟩
    obtain ⟨g2, rfl, -, -, d0, -⟩ := OwnP.elem HO.out 0 0 (by omega)
    obtain ⟨g2', hg2, -, -, d1, -⟩ := OwnP.elem HO.out 0 1 (by omega)
    injection hg2 with hg2; injection hg2 with hg2 _ _; subst hg2
    obtain ⟨g2', hg2, -, -, d2, -⟩ := OwnP.elem HO.out 0 2 (by omega)
    injection hg2 with hg2; injection hg2 with hg2 _ _; subst hg2
    obtain ⟨g2', hg2, -, -, d3, -⟩ := OwnP.elem HO.out 0 3 (by omega)
    injection hg2 with hg2; injection hg2 with hg2 _ _; subst hg2
    obtain ⟨g2', hg2, -, -, d4, -⟩ := OwnP.elem HO.out 0 4 (by omega)
    injection hg2 with hg2; injection hg2 with hg2 _ _; subst hg2
    simp only [List.getD_cons_zero, List.getD_cons_succ] at d0 d1 d2 d3 d4
    have HD : Hid (∀ w', Ext w2 w' → w'.cell? ⟨g2, 0, none⟩ = some (.int .i64 x0) ∧ w'.cell? ⟨g2, 1, none⟩ = some (.int .i64 x1) ∧ w'.cell? ⟨g2, 2, none⟩ = some (.int .i64 x2) ∧ w'.cell? ⟨g2, 3, none⟩ = some (.int .i64 x3) ∧ w'.cell? ⟨g2, 4, none⟩ = some (.int .i64 x4)) := fun w' e => ⟨e.cell d0, e.cell d1, e.cell d2, e.cell d3, e.cell d4⟩
    clear d0 d1 d2 d3 d4
    go_wp2_with fail
    refine wp_region_noPanic ?_
    refine wp_region_held_drew (S := (fun w' => w'.cell? ⟨g2, 0, none⟩ = some (.int .i64 x0) ∧ w'.cell? ⟨g2, 1, none⟩ = some (.int .i64 x1) ∧ w'.cell? ⟨g2, 2, none⟩ = some (.int .i64 x2) ∧ w'.cell? ⟨g2, 3, none⟩ = some (.int .i64 x3) ∧ w'.cell? ⟨g2, 4, none⟩ = some (.int .i64 x4))) (by kernel_rfl) (HD.out _ (Ext.drew _)) (fun hHeld => ?_)
    (refine take_at 0 31 (v := ?_) rfl rfl (by kernel_rfl) (by kernel_rfl) (by kernel_rfl) (fun _ _ _ h => h) (by rfl) ?_ (by assumption) ?_; rotate_left; focus (intro w999 hSw; (try dsimp only at hSw); go_simp <;> with_reducible rfl); (try simp only [Act.put, List.setIfInBounds_toArray, List.set_cons_zero, List.set_cons_succ]))
    (refine take_at 1 32 (v := ?_) rfl rfl (by kernel_rfl) (by kernel_rfl) (by kernel_rfl) (fun _ _ _ h => h) (by rfl) ?_ (by assumption) ?_; rotate_left; focus (intro w999 hSw; (try dsimp only at hSw); go_simp <;> with_reducible rfl); (try simp only [Act.put, List.setIfInBounds_toArray, List.set_cons_zero, List.set_cons_succ]))
    (refine take_at 2 33 (v := ?_) rfl rfl (by kernel_rfl) (by kernel_rfl) (by kernel_rfl) (fun _ _ _ h => h) (by rfl) ?_ (by assumption) ?_; rotate_left; focus (intro w999 hSw; (try dsimp only at hSw); go_simp <;> with_reducible rfl); (try simp only [Act.put, List.setIfInBounds_toArray, List.set_cons_zero, List.set_cons_succ]))
    (refine take_at 3 34 (v := ?_) rfl rfl (by kernel_rfl) (by kernel_rfl) (by kernel_rfl) (fun _ _ _ h => h) (by rfl) ?_ (by assumption) ?_; rotate_left; focus (intro w999 hSw; (try dsimp only at hSw); go_simp <;> with_reducible rfl); (try simp only [Act.put, List.setIfInBounds_toArray, List.set_cons_zero, List.set_cons_succ]))
    (refine take_at 4 35 (v := ?_) rfl rfl (by kernel_rfl) (by kernel_rfl) (by kernel_rfl) (fun _ _ _ h => h) (by rfl) ?_ (by assumption) ?_; rotate_left; focus (intro w999 hSw; (try dsimp only at hSw); go_simp <;> with_reducible rfl); (try simp only [Act.put, List.setIfInBounds_toArray, List.set_cons_zero, List.set_cons_succ]))
    (refine take_at 5 36 (v := ?_) rfl rfl (by kernel_rfl) (by kernel_rfl) (by kernel_rfl) (fun _ _ _ h => h) (by rfl) ?_ (by assumption) ?_; rotate_left; focus (intro w999 hSw; (try dsimp only at hSw); go_simp <;> with_reducible rfl); (try simp only [Act.put, List.setIfInBounds_toArray, List.set_cons_zero, List.set_cons_succ]))
    (refine take_at 6 37 (v := ?_) rfl rfl (by kernel_rfl) (by kernel_rfl) (by kernel_rfl) (fun _ _ _ h => h) (by rfl) ?_ (by assumption) ?_; rotate_left; focus (intro w999 hSw; (try dsimp only at hSw); go_simp <;> with_reducible rfl); (try simp only [Act.put, List.setIfInBounds_toArray, List.set_cons_zero, List.set_cons_succ]))
    (refine take_at 7 38 (v := ?_) rfl rfl (by kernel_rfl) (by kernel_rfl) (by kernel_rfl) (fun _ _ _ h => h) (by rfl) ?_ (by assumption) ?_; rotate_left; focus (intro w999 hSw; (try dsimp only at hSw); go_simp <;> with_reducible rfl); (try simp only [Act.put, List.setIfInBounds_toArray, List.set_cons_zero, List.set_cons_succ]))
    (refine take_at 8 39 (v := ?_) rfl rfl (by kernel_rfl) (by kernel_rfl) (by kernel_rfl) (fun _ _ _ h => h) (by rfl) ?_ (by assumption) ?_; rotate_left; focus (intro w999 hSw; (try dsimp only at hSw); go_simp <;> with_reducible rfl); (try simp only [Act.put, List.setIfInBounds_toArray, List.set_cons_zero, List.set_cons_succ]))
    (refine take_at 9 40 (v := ?_) rfl rfl (by kernel_rfl) (by kernel_rfl) (by kernel_rfl) (fun _ _ _ h => h) (by rfl) ?_ (by assumption) ?_; rotate_left; focus (intro w999 hSw; (try dsimp only at hSw); go_simp <;> with_reducible rfl); (try simp only [Act.put, List.setIfInBounds_toArray, List.set_cons_zero, List.set_cons_succ]))
    (refine take_at 10 41 (v := ?_) rfl rfl (by kernel_rfl) (by kernel_rfl) (by kernel_rfl) (fun _ _ _ h => h) (by rfl) ?_ (by assumption) ?_; rotate_left; focus (intro w999 hSw; (try dsimp only at hSw); go_simp <;> with_reducible rfl); (try simp only [Act.put, List.setIfInBounds_toArray, List.set_cons_zero, List.set_cons_succ]))
    (refine take_at 11 42 (v := ?_) rfl rfl (by kernel_rfl) (by kernel_rfl) (by kernel_rfl) (fun _ _ _ h => h) (by rfl) ?_ (by assumption) ?_; rotate_left; focus (intro w999 hSw; (try dsimp only at hSw); go_simp <;> with_reducible rfl); (try simp only [Act.put, List.setIfInBounds_toArray, List.set_cons_zero, List.set_cons_succ]))
    (refine take_at 12 43 (v := ?_) rfl rfl (by kernel_rfl) (by kernel_rfl) (by kernel_rfl) (fun _ _ _ h => h) (by rfl) ?_ (by assumption) ?_; rotate_left; focus (intro w999 hSw; (try dsimp only at hSw); go_simp <;> with_reducible rfl); (try simp only [Act.put, List.setIfInBounds_toArray, List.set_cons_zero, List.set_cons_succ]))
    (refine take_at 13 44 (v := ?_) rfl rfl (by kernel_rfl) (by kernel_rfl) (by kernel_rfl) (fun _ _ _ h => h) (by rfl) ?_ (by assumption) ?_; rotate_left; focus (intro w999 hSw; (try dsimp only at hSw); go_simp <;> with_reducible rfl); (try simp only [Act.put, List.setIfInBounds_toArray, List.set_cons_zero, List.set_cons_succ]))
    (refine take_at 14 45 (v := ?_) rfl rfl (by kernel_rfl) (by kernel_rfl) (by kernel_rfl) (fun _ _ _ h => h) (by rfl) ?_ (by assumption) ?_; rotate_left; focus (intro w999 hSw; (try dsimp only at hSw); go_simp <;> with_reducible rfl); (try simp only [Act.put, List.setIfInBounds_toArray, List.set_cons_zero, List.set_cons_succ]))
    (refine take_at 15 46 (v := ?_) rfl rfl (by kernel_rfl) (by kernel_rfl) (by kernel_rfl) (fun _ _ _ h => h) (by rfl) ?_ (by assumption) ?_; rotate_left; focus (intro w999 hSw; (try dsimp only at hSw); go_simp <;> with_reducible rfl); (try simp only [Act.put, List.setIfInBounds_toArray, List.set_cons_zero, List.set_cons_succ]))
    (refine wpAnyH_ready (rs := [16]) (by kernel_rfl) (by simp) ?_; refine AllReadyH.cons rfl (fun K hK => ?_) AllReadyH.nil; go_simp)
    have eA : Ext w2 (w2.alloc (.cells #[.int .i64 0, .int .i64 0, .int .i64 0, .int .i64 0, .int .i64 0] 23)).drew := (Ext.alloc _ _).trans (Ext.drew _)
    have RA := (BoxM.new w2 ⟨0, 0, 0, 0, 0⟩ 23).ext (Ext.drew _)
    have hlt2 := HR2.out.lt
    simp only at RA
    generalize (w2.alloc (.cells #[.int .i64 0, .int .i64 0, .int .i64 0, .int .i64 0, .int .i64 0] 23)).drew = wA at *
    obtain ⟨b8, hb8⟩ : ∃ b8, w2.heap.size = b8 := ⟨_, rfl⟩
    have h28 : w2.heap.size ≤ b8 := Nat.le_of_eq hb8
    rw [hb8] at RA hlt2
    try rw [hb8]
    clear hb8
    (refine hK.out _ _ ?_ (fun hHeld => ?_))
    · exact HD.out _ eA
    (clear hK K; try simp only [Act.put, List.setIfInBounds_toArray, List.set_cons_zero, List.set_cons_succ])
    obtain ⟨⟨c0, c1, c2, c3, c4⟩, f0, f1, f2, f3, f4⟩ := RA.out
    simp only at c0 c1 c2 c3 c4
    have HEp := Lib.hid (ext_putM eA h28 (.int .i64 x0) (.int .i64 x1) (.int .i64 x2) (.int .i64 x3) (.int .i64 x4))
    have HPp := Lib.hid (BoxM.put RA ⟨x0, x1, x2, x3, x4⟩)
    clear RA
    (refine wpAnyH_ready (rs := [17]) (by kernel_rfl) (by simp) ?_; refine AllReadyH.cons rfl (fun K hK => ?_) AllReadyH.nil; go_simp)
    (refine hK.out _ _ ?_ (fun hHeld => ?_))
    · exact HD.out _ HEp.out
    (clear hK K; try dsimp only)
    refine wpAnyH_done (by kernel_rfl) ?_ _
    refine NoPanic.normal ?_
    simp only at HPp
    clear c0 c1 c2 c3 c4 f0 f1 f2 f3 f4
    generalize (((((wA.setCell ⟨b8, 0, none⟩ (.int .i64 x0)).setCell ⟨b8, 1, none⟩ (.int .i64 x1)).setCell ⟨b8, 2, none⟩ (.int .i64 x2)).setCell ⟨b8, 3, none⟩ (.int .i64 x3)).setCell ⟨b8, 4, none⟩ (.int .i64 x4)) = w3 at *
    have hne : w.heap.size ≠ b8 := Nat.ne_of_lt hlt2
    have HR3 := Lib.hid (HR2.out.ext HEp.out)
    have HB : Hid (∀ w', Ext w3 w' → w'.cell? ⟨b8, 0, none⟩ = some (.int .i64 x0) ∧ w'.cell? ⟨b8, 1, none⟩ = some (.int .i64 x1) ∧ w'.cell? ⟨b8, 2, none⟩ = some (.int .i64 x2) ∧ w'.cell? ⟨b8, 3, none⟩ = some (.int .i64 x3) ∧ w'.cell? ⟨b8, 4, none⟩ = some (.int .i64 x4)) := fun w' e => (HPp.out.ext e).1
    go_wp2_with fail
    refine wp_region_noPanic ?_
    refine wp_region_held_drew (S := (fun w' => w'.cell? ⟨b8, 0, none⟩ = some (.int .i64 x0) ∧ w'.cell? ⟨b8, 1, none⟩ = some (.int .i64 x1) ∧ w'.cell? ⟨b8, 2, none⟩ = some (.int .i64 x2) ∧ w'.cell? ⟨b8, 3, none⟩ = some (.int .i64 x3) ∧ w'.cell? ⟨b8, 4, none⟩ = some (.int .i64 x4))) (by kernel_rfl) (HB.out _ (Ext.drew _)) (fun hHeld => ?_)
    (refine take_at 0 47 (v := ?_) rfl rfl (by kernel_rfl) (by kernel_rfl) (by kernel_rfl) (fun _ _ _ h => h) (by rfl) ?_ (by assumption) ?_; rotate_left; focus (intro w999 hSw; (try dsimp only at hSw); go_simp <;> with_reducible rfl); (try simp only [Act.put, List.setIfInBounds_toArray, List.set_cons_zero, List.set_cons_succ]))
    (refine take_at 1 48 (v := ?_) rfl rfl (by kernel_rfl) (by kernel_rfl) (by kernel_rfl) (fun _ _ _ h => h) (by rfl) ?_ (by assumption) ?_; rotate_left; focus (intro w999 hSw; (try dsimp only at hSw); go_simp <;> with_reducible rfl); (try simp only [Act.put, List.setIfInBounds_toArray, List.set_cons_zero, List.set_cons_succ]))
    (refine wpAnyH_ready (rs := [2]) (by kernel_rfl) (by simp) ?_; refine AllReadyH.cons rfl (fun K hK => ?_) AllReadyH.nil; go_simp)
    have hcall := HM.out w3.drew ⟨x0, x1, x2, x3, x4⟩
    unfold MK.v at hcall
    refine hcall.mono ?_
    rintro e w4 hr
    obtain ⟨_, rfl, rfl, e4⟩ := ret_ext hr
    have e34 : Ext w3 w4 := (Ext.drew _).trans e4
    clear hr hcall
    (refine hK.out _ _ ?_ (fun hHeld => ?_))
    · exact HB.out _ e34
    (clear hK K; try dsimp only)
    have RB := HR3.out.ext e34
    obtain ⟨⟨c0, c1, c2, c3, c4⟩, f0, f1, f2, f3, f4⟩ := RB.out
    simp only at c0 c1 c2 c3 c4
    have HEq : Hid (Below w.heap.size w (((((w4.setCell ⟨w.heap.size, 0, none⟩ (.int .i64 x0)).setCell ⟨w.heap.size, 1, none⟩ (.int .i64 x1)).setCell ⟨w.heap.size, 2, none⟩ (.int .i64 x2)).setCell ⟨w.heap.size, 3, none⟩ (.int .i64 x3)).setCell ⟨w.heap.size, 4, none⟩ (.int .i64 x4))) := ext_putM ((HE2.out.trans HEp.out).trans e34) (Nat.le_refl _) _ _ _ _ _
    have HPq := Lib.hid (BoxM.put RB ⟨x0, x1, x2, x3, x4⟩)
    have HBq : Hid ((((((w4.setCell ⟨w.heap.size, 0, none⟩ (.int .i64 x0)).setCell ⟨w.heap.size, 1, none⟩ (.int .i64 x1)).setCell ⟨w.heap.size, 2, none⟩ (.int .i64 x2)).setCell ⟨w.heap.size, 3, none⟩ (.int .i64 x3)).setCell ⟨w.heap.size, 4, none⟩ (.int .i64 x4)).cell? ⟨b8, 0, none⟩ = some (.int .i64 x0) ∧ (((((w4.setCell ⟨w.heap.size, 0, none⟩ (.int .i64 x0)).setCell ⟨w.heap.size, 1, none⟩ (.int .i64 x1)).setCell ⟨w.heap.size, 2, none⟩ (.int .i64 x2)).setCell ⟨w.heap.size, 3, none⟩ (.int .i64 x3)).setCell ⟨w.heap.size, 4, none⟩ (.int .i64 x4)).cell? ⟨b8, 1, none⟩ = some (.int .i64 x1) ∧ (((((w4.setCell ⟨w.heap.size, 0, none⟩ (.int .i64 x0)).setCell ⟨w.heap.size, 1, none⟩ (.int .i64 x1)).setCell ⟨w.heap.size, 2, none⟩ (.int .i64 x2)).setCell ⟨w.heap.size, 3, none⟩ (.int .i64 x3)).setCell ⟨w.heap.size, 4, none⟩ (.int .i64 x4)).cell? ⟨b8, 2, none⟩ = some (.int .i64 x2) ∧ (((((w4.setCell ⟨w.heap.size, 0, none⟩ (.int .i64 x0)).setCell ⟨w.heap.size, 1, none⟩ (.int .i64 x1)).setCell ⟨w.heap.size, 2, none⟩ (.int .i64 x2)).setCell ⟨w.heap.size, 3, none⟩ (.int .i64 x3)).setCell ⟨w.heap.size, 4, none⟩ (.int .i64 x4)).cell? ⟨b8, 3, none⟩ = some (.int .i64 x3) ∧ (((((w4.setCell ⟨w.heap.size, 0, none⟩ (.int .i64 x0)).setCell ⟨w.heap.size, 1, none⟩ (.int .i64 x1)).setCell ⟨w.heap.size, 2, none⟩ (.int .i64 x2)).setCell ⟨w.heap.size, 3, none⟩ (.int .i64 x3)).setCell ⟨w.heap.size, 4, none⟩ (.int .i64 x4)).cell? ⟨b8, 4, none⟩ = some (.int .i64 x4)) := by
      have q := HB.out _ e34
      have e := putM_other (w := w4) (B := w.heap.size) (k := b8) hne.symm (.int .i64 x0) (.int .i64 x1) (.int .i64 x2) (.int .i64 x3) (.int .i64 x4)
      obtain ⟨p0, p1, p2, p3, p4⟩ := q
      exact ⟨(World.cell?_of_block (a := ⟨b8, 0, none⟩) e).trans p0, (World.cell?_of_block (a := ⟨b8, 1, none⟩) e).trans p1, (World.cell?_of_block (a := ⟨b8, 2, none⟩) e).trans p2, (World.cell?_of_block (a := ⟨b8, 3, none⟩) e).trans p3, (World.cell?_of_block (a := ⟨b8, 4, none⟩) e).trans p4⟩
    clear RB
    (refine wpAnyH_ready (rs := [3]) (by kernel_rfl) (by simp) ?_; refine AllReadyH.cons rfl (fun K hK => ?_) AllReadyH.nil; go_simp)
    (refine hK.out _ _ ?_ (fun hHeld => ?_))
    · exact HBq.out
    (clear hK K; try dsimp only)
    (refine take_at 4 3 (v := ?_) rfl rfl (by kernel_rfl) (by kernel_rfl) (by kernel_rfl) (fun _ _ _ h => h) (by rfl) ?_ (by assumption) ?_; rotate_left; focus (intro w999 hSw; (try dsimp only at hSw); go_simp <;> with_reducible rfl); (try simp only [Act.put, List.setIfInBounds_toArray, List.set_cons_zero, List.set_cons_succ]))
    refine wpAnyH_done (by kernel_rfl) ?_ _
    refine NoPanic.normal ?_
    have HLn := Lib.hid (lineOk_five HFn.out)
    obtain ⟨g0, g1, g2', g3, g4⟩ := HPq.out.1
    simp only at g0 g1 g2' g3 g4
    clear c0 c1 c2 c3 c4 f0 f1 f2 f3 f4
    generalize (((((w4.setCell ⟨w.heap.size, 0, none⟩ (.int .i64 x0)).setCell ⟨w.heap.size, 1, none⟩ (.int .i64 x1)).setCell ⟨w.heap.size, 2, none⟩ (.int .i64 x2)).setCell ⟨w.heap.size, 3, none⟩ (.int .i64 x3)).setCell ⟨w.heap.size, 4, none⟩ (.int .i64 x4)) = wz at *
    go_wp2_with fail
    refine bodyPost_ret (v := .tuple #[.agg #[.int .i64 x0, .int .i64 x1, .int .i64 x2, .int .i64 x3, .int .i64 x4], .bool (isMaker ⟨x0, x1, x2, x3, x4⟩)]) (by simp [results, Tryz.results27, go_sem, g0, g1, g2', g3, g4]) rfl ⟨_, rfl, ⟨⟨x0, x1, x2, x3, x4⟩, _, rfl, HLn.out, fun h => h⟩, HEq.out⟩
  · -- no maker
    have HLn : Hid (LineOk ll ⟨0, 0, 0, 0, 0⟩ false) := fun mk hm hl => by
      obtain ⟨h1, h2, h3⟩ := HFn.out mk hm hl
      have h4 := Hn2.out
      rw [h3] at h4
      exact (hgood ⟨⟨h1, h2⟩, h4⟩).elim
    have HEnd : Hid (Below w.heap.size w (((((w2.setCell ⟨w.heap.size, 0, none⟩ (.int .i64 0)).setCell ⟨w.heap.size, 1, none⟩ (.int .i64 0)).setCell ⟨w.heap.size, 2, none⟩ (.int .i64 0)).setCell ⟨w.heap.size, 3, none⟩ (.int .i64 0)).setCell ⟨w.heap.size, 4, none⟩ (.int .i64 0))) := ext_putM HE2.out (Nat.le_refl _) _ _ _ _ _
    obtain ⟨⟨g0, g1, g2, g3, g4⟩, f0, f1, f2, f3, f4⟩ := HR2.out.out
    simp only at g0 g1 g2 g3 g4
    have HEz : Hid (∃ mk' b, Value.tuple #[.agg #[.int .i64 0, .int .i64 0, .int .i64 0, .int .i64 0, .int .i64 0], .bool false] = .tuple #[MK.v mk', .bool b] ∧ LineOk ll mk' b ∧ (b = true → isMaker mk' = true)) := ⟨⟨0, 0, 0, 0, 0⟩, false, rfl, HLn.out, fun h => by cases h⟩
    have hn5 : (found = true ∧ q = true) → ((n2 : Int) != 5) = true := fun h => by rw [bne_iff_ne]; intro e; exact hgood ⟨h, by omega⟩
    have hn5' : (found = true ∧ q = true) → ((n2 : Int) == 5) = false := fun h => by rw [beq_eq_false_iff_ne]; intro e; exact hgood ⟨h, by omega⟩
    clear hgood HLn
    cases found with
    | false =>
      clear hn5 hn5'
      go_wp2_with fail
      refine bodyPost_ret (v := .tuple #[.agg #[.int .i64 0, .int .i64 0, .int .i64 0, .int .i64 0, .int .i64 0], .bool false]) (by simp [results, Tryz.results27, go_sem, g0, g1, g2, g3, g4]) rfl ⟨_, rfl, HEz.out, HEnd.out⟩
    | true =>
      cases q with
      | false =>
        clear hn5 hn5'
        go_wp2_with fail
        refine bodyPost_ret (v := .tuple #[.agg #[.int .i64 0, .int .i64 0, .int .i64 0, .int .i64 0, .int .i64 0], .bool false]) (by simp [results, Tryz.results27, go_sem, g0, g1, g2, g3, g4]) rfl ⟨_, rfl, HEz.out, HEnd.out⟩
      | true =>
        have hb5 := hn5 ⟨rfl, rfl⟩
        have hb5' := hn5' ⟨rfl, rfl⟩
        clear hn5 hn5'
        go_wp2_with fail
        refine bodyPost_ret (v := .tuple #[.agg #[.int .i64 0, .int .i64 0, .int .i64 0, .int .i64 0, .int .i64 0], .bool false]) (by simp [results, Tryz.results27, go_sem, g0, g1, g2, g3, g4]) rfl ⟨_, rfl, HEz.out, HEnd.out⟩

open Go.ChangeShapes Go.WideShapes Go.ChangeAt Go.RowKit
set_option linter.unusedVariables false

set_option maxRecDepth 20000 in
set_option maxHeartbeats 2000000 in
theorem l01Dec_big (n : Nat) : ∀ (w : World) (h : n ≤ 1000000000000000), Calls Tryz.prog 67 #[.int .i64 (n : Nat)] w (Ret w fun r _ => r = numText n) := by
  induction n using Nat.strongRecOn with
  | _ n ih =>
    intro w h
    by_cases h10 : n < 10
    · have h1 := Lib.hid (num_one h10)
      have kc := conv_new w (48 + (n : Int)) (48 + n) (by omega) (by omega)
      unfold oneByte at kc h1
      clear ih
      generalize numText n = res at *
      generalize UInt8.ofNat (48 + n) = yb at *
      go_enter Tryz.func67, Tryz.ntmps67
      go_wp2_with fail
      go_ret
      exact ⟨_, rfl, by rw [h1.out]; rfl, Ext.alloc _ _⟩
    · have h1 := Lib.hid (num_more h10)
      have HI := Lib.hid (fun (w' : World) => ih (n / 10) (by omega) w' (by omega))
      have kc := fun (w' : World) => conv_new w' (48 + ((n % 10 : Nat) : Int)) (48 + n % 10) (by omega) (by omega)
      have kc2 := fun (w' : World) (g : Nat) (hc : w'.cell? ⟨g, 0, none⟩ = some (.int .u8 (48 + ((n % 10 : Nat) : Int)))) => conv_at w' g (48 + ((n % 10 : Nat) : Int)) (48 + n % 10) (by omega) (by omega) hc
      have hq : ((n : Int)).tdiv 10 = ((n / 10 : Nat) : Int) := by rw [Int.tdiv_eq_ediv_of_nonneg (by omega)]; omega
      have hm : ((n : Int)).tmod 10 = ((n % 10 : Nat) : Int) := by rw [Int.tmod_eq_emod_of_nonneg (by omega)]; omega
      have hn : ¬ ((n : Int) < 10) := by omega
      have hq' : ((n : Int)) / 10 = ((n / 10 : Nat) : Int) := by omega
      have hm' : ((n : Int)) % 10 = ((n % 10 : Nat) : Int) := by omega
      have hwq : IntKind.i64.wrap ((n / 10 : Nat) : Int) = ((n / 10 : Nat) : Int) := IntWalk.i64_in _ (by omega)
      have hwr : IntKind.i64.wrap (48 + ((n % 10 : Nat) : Int)) = 48 + ((n % 10 : Nat) : Int) := IntWalk.i64_in _ (by omega)
      have hwu : IntKind.u8.wrap (48 + ((n % 10 : Nat) : Int)) = 48 + ((n % 10 : Nat) : Int) := IntWalk.u8_in _ (by omega)
      have hr : n % 10 < 10 := Nat.mod_lt _ (by decide)
      have hq2 : n / 10 ≤ 1000000000000000 := by omega
      have hdl : ¬ (9223372036854775807 < (Lib.decDigits (n / 10)).toArray.size + 1) := by
        have := dec_len (n / 10)
        rw [List.size_toArray]; omega
      unfold oneByte at kc kc2
      unfold numText at HI
      clear ih
      generalize numText n = res at *
      generalize UInt8.ofNat (48 + n % 10) = yb at *
      generalize n % 10 = rm at *
      generalize n / 10 = qn at *
      generalize (Lib.decDigits qn).toArray = dq at *
      go_enter Tryz.func67, Tryz.ntmps67
      go_wp2_with fail
      go_region_law (first | (go_simp; go_at_call 67; refine (HI.out _).mono ?_; rintro e w9 hr9; obtain ⟨r9, rfl, rfl, e9⟩ := ret_ext hr9; clear hr9; (try ((have hcc : w9.cell? ⟨w.heap.size, 0, none⟩ = some (.int .u8 (48 + (rm : Int))) := ?_; have kc3 := kc2 w9 w.heap.size hcc; rotate_left; focus (refine e9.cell ?_; simp; done)))); have e99 : Ext w w9 := (by repeat (first | exact Ext.refl _ | assumption | (refine Ext.trans ?_ (Ext.alloc _ _)) | (refine Ext.trans ?_ (Ext.drew _)) | (refine Ext.trans ?_ (by assumption))))) | fail)
      all_goals go_wp2_with fail
      all_goals go_ret
      all_goals exact ⟨_, rfl, by rw [h1.out]; rfl, by repeat (first | assumption | exact Ext.refl _ | (refine Ext.trans ?_ (Ext.alloc _ _)))⟩

/-- the number that the first digits give -/
def valTo (B : Nat → Nat) : Nat → Nat
  | 0 => 0
  | i + 1 => 10 * valTo B i + (B i - 48)
def byteOf (l : List UInt8) (i : Nat) : Nat := (l.getD i 0).toNat
theorem valTo_bound {B : Nat → Nat} {i m : Nat} (h : m + 1 ≤ 10 ^ i) (h1 : 48 ≤ B i) (h2 : B i ≤ 57) : 10 * m + (B i - 48) + 1 ≤ 10 ^ (i + 1) := by
  rw [Nat.pow_succ]; omega
theorem pow13 {i : Nat} (h : i ≤ 13) : 10 ^ i ≤ 10000000000000 := by
  have h1 : 10 ^ i ≤ 10 ^ 13 := Nat.pow_le_pow_right (by decide) h
  have h2 : (10 : Nat) ^ 13 = 10000000000000 := by decide
  omega
theorem digit_val {l : List UInt8} {x : Int} (h0 : 0 ≤ x) (h1 : x < 10) (h : l = numD x) : l.length = 1 ∧ ((valTo (byteOf l) 1 : Nat) : Int) = x ∧ (∀ i, i < 1 → 48 ≤ byteOf l i ∧ byteOf l i ≤ 57) := by
  subst h
  rw [numD_digit ⟨h0, h1⟩]
  have e : byteOf [UInt8.ofNat (48 + x.toNat)] 0 = 48 + x.toNat := by
    unfold byteOf
    rw [List.getD_cons_zero, UInt8.toNat_ofNat', Nat.mod_eq_of_lt (by omega)]
  refine ⟨rfl, ?_, fun i hi => ?_⟩
  · show ((10 * 0 + (byteOf _ 0 - 48) : Nat) : Int) = x
    rw [e]; omega
  · have : i = 0 := by omega
    subst this
    rw [e]; omega
theorem numText_str (n : Nat) : numText n = .string (strOf (Lib.decDigits n)) := rfl

set_option maxRecDepth 20000 in
set_option maxHeartbeats 1000000 in
theorem l01Value_c (w : World) (s : ByteArray) (hs : s.size ≤ 100000) :
    Calls Tryz.prog 42 #[.string s] w (Ret w fun r _ => ∃ n b, r = .tuple #[.int .i64 n, .bool b] ∧ I64 n ∧ NumOk s.data.toList n b) := by
  have hl : s.data.toList.length = s.size := len_str s
  have HDg := Lib.hid (fun (x : Int) (h0 : 0 ≤ x) (h1 : x < 10) (h : s.data.toList = numD x) => digit_val h0 h1 h)
  have HB := fun (i : Nat) (h : i < s.size) => (show s[i].toNat = byteOf s.data.toList i from byteGet h)
  have HBl : Hid (∀ i, byteOf s.data.toList i < 256) := fun i => byteLt s.data.toList i
  have HEq : Hid (∀ x : Int, 0 ≤ x → x < 10 → s.data.toList = numD x → ((strOf (Lib.decDigits x.toNat)).toList == s.toList) = true) := fun x h0 h1 h => by
    have e : strOf (Lib.decDigits x.toNat) = s := by
      have : Lib.decDigits x.toNat = s.data.toList := h.symm
      rw [this, strOf_data]
    rw [e]
    exact beq_self_eq_true _
  rw [hl] at HDg
  generalize byteOf s.data.toList = B at *
  by_cases hsz : 1 ≤ s.size ∧ s.size ≤ 13
  · have HDc := Lib.hid (fun (w' : World) (n : Nat) (h : n ≤ 1000000000000000) => l01Dec_big n w' h)
    have hb1 : decide ((s.size : Int) < 1) = false := decide_eq_false (by omega)
    have hb2 : decide ((13 : Int) < (s.size : Int)) = false := decide_eq_false (by omega)
    have Hsz := Lib.hid hsz
    clear hl
    go_enter Tryz.func42, Tryz.ntmps42
    go_wp2_with fail
    go_loopw [4, 5] (fun s4 s5 wr => ∃ i m : Nat, i ≤ s.size ∧ s5 = .int .i64 (i : Int) ∧ s4 = .int .i64 (m : Int) ∧ m = valTo B i ∧ m + 1 ≤ 10 ^ i ∧ (∀ j, j < i → 48 ≤ B j ∧ B j ≤ 57) ∧ Ext w wr) (fun _ s5 _ => s.size - (intOf s5).toNat)
    case atStart => exact ⟨0, 0, Nat.zero_le _, rfl, rfl, rfl, Nat.le_refl _, fun j hj => absurd hj (Nat.not_lt_zero _), Ext.refl _⟩
    case round =>
      obtain ⟨i, m, hi, rfl, rfl, hm, hmb, hdg, ew⟩ := hrel
      have Hm := Lib.hid hm
      have Hmb := Lib.hid hmb
      have Hdg := Lib.hid hdg
      have HE := Lib.hid ew
      have h13 := pow13 (i := i) (by omega)
      have hm13 : m ≤ 10000000000000 := by omega
      by_cases hlt : i < s.size
      · have hbi := HBl.out i
        by_cases h48 : B i < 48
        · have hd48 : decide ((B i : Int) < 48) = true := decide_eq_true (by omega)
          have HQ : Hid (NumOk s.data.toList 0 false) := fun x h0 h1 hx => by
            obtain ⟨q1, q2, q3⟩ := HDg.out x h0 h1 hx
            have := q3 i (by omega)
            omega
          clear hm hmb hdg ew h13
          go_wp2_with fail
          go_ret2
          exact ⟨_, rfl, ⟨0, false, rfl, by unfold I64; omega, HQ.out⟩, HE.out⟩
        · by_cases h57 : 57 < B i
          · have hd48 : decide ((B i : Int) < 48) = false := decide_eq_false (by omega)
            have hd57 : decide ((57 : Int) < (B i : Int)) = true := decide_eq_true (by omega)
            have HQ : Hid (NumOk s.data.toList 0 false) := fun x h0 h1 hx => by
              obtain ⟨q1, q2, q3⟩ := HDg.out x h0 h1 hx
              have := q3 i (by omega)
              omega
            clear hm hmb hdg ew h13
            go_wp2_with fail
            go_ret2
            exact ⟨_, rfl, ⟨0, false, rfl, by unfold I64; omega, HQ.out⟩, HE.out⟩
          · have hd48 : decide ((B i : Int) < 48) = false := decide_eq_false (by omega)
            have hd57 : decide ((57 : Int) < (B i : Int)) = false := decide_eq_false (by omega)
            have hw2 : IntKind.u8.wrap ((B i : Int) - 48) = (B i : Int) - 48 := IntWalk.u8_in _ (by omega)
            have hw2i : IntKind.i64.wrap ((B i : Int) - 48) = (B i : Int) - 48 := IntWalk.i64_in _ (by omega)
            have hw1 : IntKind.i64.wrap (10 * (m : Int)) = 10 * (m : Int) := IntWalk.i64_in _ (by omega)
            have hw3 : IntKind.i64.wrap (10 * (m : Int) + ((B i : Int) - 48)) = 10 * (m : Int) + ((B i : Int) - 48) := IntWalk.i64_in _ (by omega)
            have HV : Hid (10 * m + (B i - 48) = valTo B (i + 1)) := by show _ = _; rw [Hm.out]; rfl
            have HVb := Lib.hid (valTo_bound (B := B) Hmb.out (by omega) (by omega))
            have HDn : Hid (∀ j, j < i + 1 → 48 ≤ B j ∧ B j ≤ 57) := fun j hj => by
              by_cases e : j = i
              · subst e; omega
              · exact Hdg.out j (by omega)
            have hc : 10 * (m : Int) + ((B i : Int) - 48) = ((10 * m + (B i - 48) : Nat) : Int) := by omega
            have HC := Lib.hid hc
            clear hm hmb hdg ew h13 hc
            go_wp2_with fail
            go_roundw
            case rel => exact ⟨i + 1, 10 * m + (B i - 48), by omega, by go_num, by rw [HC.out], HV.out, HVb.out, HDn.out, HE.out⟩
            case measure => simp [intOf]; omega
      · have hin : i = s.size := by omega
        have hcall := HDc.out wr m (by omega)
        rw [numText_str] at hcall
        have HQ : Hid (∀ b, ((strOf (Lib.decDigits m)).toList == s.toList) = b → NumOk s.data.toList (m : Int) b) := fun b hb x h0 h1 hx => by
          obtain ⟨q1, q2, q3⟩ := HDg.out x h0 h1 hx
          have e1 : i = 1 := by omega
          have e2 : (m : Int) = x := by rw [Hm.out, e1]; exact q2
          refine ⟨e2, ?_⟩
          rw [← hb]
          have e3 : x.toNat = m := by omega
          rw [← e3]
          exact HEq.out x h0 h1 hx
        generalize strOf (Lib.decDigits m) = st at *
        clear hm hmb hdg ew h13 hin
        go_wp2_with fail
        refine Calls.mono hcall ?_
        rintro e w3 hr
        obtain ⟨r, rfl, rfl, e3⟩ := ret_ext hr
        clear hr hcall
        go_wp2_with fail
        go_ret2
        exact ⟨_, rfl, ⟨_, _, rfl, by unfold I64; omega, HQ.out _ rfl⟩, HE.out.trans e3⟩
  · have HQ : Hid (NumOk s.data.toList 0 false) := fun x h0 h1 hx => by
      obtain ⟨q1, q2, q3⟩ := HDg.out x h0 h1 hx
      omega
    by_cases h0 : s.size < 1
    · have hb1 : decide ((s.size : Int) < 1) = true := decide_eq_true (by omega)
      clear hl HDg
      go_enter Tryz.func42, Tryz.ntmps42
      go_wp2_with fail
      go_ret2
      exact ⟨_, rfl, ⟨0, false, rfl, by unfold I64; omega, HQ.out⟩, Ext.refl _⟩
    · have hb1 : decide ((s.size : Int) < 1) = false := decide_eq_false (by omega)
      have hb2 : decide ((13 : Int) < (s.size : Int)) = true := decide_eq_true (by omega)
      clear hl HDg
      go_enter Tryz.func42, Tryz.ntmps42
      go_wp2_with fail
      go_ret2
      exact ⟨_, rfl, ⟨0, false, rfl, by unfold I64; omega, HQ.out⟩, Ext.refl _⟩

set_option maxRecDepth 20000 in
set_option maxHeartbeats 1000000 in
theorem l02Read_c (w : World) (s : ByteArray) (hs : s.size ≤ 100000) :
    Calls Tryz.prog 23 #[.string s] w (Ret w fun r w' => ∃ u, r = .tuple #[u, .bool (digB s.data.toList)] ∧ (digB s.data.toList = true → OwnP (Value.int .i64) 2 w.heap.size w' u (digsBack s.data.toList))) := by
  have hl : s.data.toList.length = s.size := len_str s
  have HB := fun (i : Nat) (h : i < s.size) => (show s[i].toNat = byteOf s.data.toList i from byteGet h)
  have HBl : Hid (∀ i, byteOf s.data.toList i < 256) := fun i => byteLt s.data.toList i
  have HSn : Hid (∀ i, i < s.size → digsBack (s.data.toList.take (i + 1)) = digsBack (s.data.toList.take i) ++ [(byteOf s.data.toList i : Int) - 48]) := fun i h => digsBack_snoc (l := s.data.toList) (i := i) (by rw [hl]; exact h)
  have HAll : Hid (digsBack (s.data.toList.take s.size) = digsBack s.data.toList) := by show _ = _; rw [← hl, List.take_length]
  have HLn : Hid (∀ i, i ≤ s.size → (digsBack (s.data.toList.take i)).length = i) := fun i hi => by rw [digsBack_len, List.length_take, hl]; omega
  have HYes : Hid ((∀ j, j < s.size → 48 ≤ byteOf s.data.toList j ∧ byteOf s.data.toList j ≤ 57) → digB s.data.toList = true) := fun h => by
    unfold digB
    rw [List.all_eq_true]
    intro b hb
    obtain ⟨j, hj, rfl⟩ := List.getElem_of_mem hb
    have := h j (by omega)
    unfold byteOf at this
    rw [List.getD_eq_getElem?_getD, List.getElem?_eq_getElem hj, Option.getD_some] at this
    rw [decide_eq_true this.1, decide_eq_true this.2]; rfl
  have HNo : Hid (∀ j, j < s.size → ¬ (48 ≤ byteOf s.data.toList j ∧ byteOf s.data.toList j ≤ 57) → digB s.data.toList = false) := fun j hj hn => by
    cases hd : digB s.data.toList with
    | false => rfl
    | true =>
      unfold digB at hd
      have hjl : j < s.data.toList.length := by omega
      have h1 := List.all_eq_true.1 hd _ (List.getElem_mem hjl)
      obtain ⟨h2, h3⟩ := Bool.and_eq_true_iff.1 h1
      refine absurd ?_ hn
      unfold byteOf
      rw [List.getD_eq_getElem?_getD, List.getElem?_eq_getElem hjl, Option.getD_some]
      exact ⟨of_decide_eq_true h2, of_decide_eq_true h3⟩
  generalize hdb : (fun i => digsBack (s.data.toList.take i)) = D at *
  have HD : ∀ i, digsBack (s.data.toList.take i) = D i := fun i => by rw [← hdb]
  have HD0 : Hid (D 0 = []) := by show _ = _; rw [← HD]; rfl
  simp only [HD] at HSn HAll HLn
  generalize digsBack s.data.toList = res at *
  generalize digB s.data.toList = q at *
  generalize byteOf s.data.toList = B at *
  clear hdb HD hl
  have oi : OwnP (Value.int .i64) 2 w.heap.size (w.alloc (.cells #[] 2)) (.slice (some ⟨w.heap.size, 0, none⟩) 0 0) [] := OwnP.empty (Nat.le_refl _)
  have ei : Ext w (w.alloc (.cells #[] 2)) := Ext.alloc _ _
  go_enter Tryz.func23, Tryz.ntmps23
  go_wp2_with fail
  generalize w.alloc (.cells #[] 2) = w0 at *
  go_loopw [4, 5] (fun s4 s5 wr => ∃ i : Nat, i ≤ s.size ∧ s5 = .int .i64 (i : Int) ∧ OwnP (Value.int .i64) 2 w.heap.size wr s4 (D i) ∧ (∀ j, j < i → 48 ≤ B j ∧ B j ≤ 57) ∧ Ext w wr) (fun _ s5 _ => s.size - (intOf s5).toNat)
  case atStart => exact ⟨0, Nat.zero_le _, rfl, by rw [HD0.out]; exact oi, fun j hj => absurd hj (Nat.not_lt_zero _), ei⟩
  case round =>
    clear oi ei
    obtain ⟨i, hi, rfl, ho, hdg, ew⟩ := hrel
    have HE := Lib.hid ew
    have Hdg := Lib.hid hdg
    have hsw := ew.size
    have hll := HLn.out i hi
    clear hdg
    by_cases hlt : i < s.size
    · have hSn := HSn.out i hlt
      have HSi := Lib.hid hSn
      have hbi := HBl.out i
      clear hSn ew
      by_cases h48 : B i < 48
      · have hd48 : decide ((B i : Int) < 48) = true := decide_eq_true (by omega)
        have HQ := Lib.hid (HNo.out i hlt (by omega))
        go_wp2_with fail
        go_ret2
        exact ⟨_, rfl, ⟨_, by rw [HQ.out]; rfl, fun h => by rw [HQ.out] at h; cases h⟩, HE.out⟩
      · by_cases h57 : 57 < B i
        · have hd48 : decide ((B i : Int) < 48) = false := decide_eq_false (by omega)
          have hd57 : decide ((57 : Int) < (B i : Int)) = true := decide_eq_true (by omega)
          have HQ := Lib.hid (HNo.out i hlt (by omega))
          go_wp2_with fail
          go_ret2
          exact ⟨_, rfl, ⟨_, by rw [HQ.out]; rfl, fun h => by rw [HQ.out] at h; cases h⟩, HE.out⟩
        · have hd48 : decide ((B i : Int) < 48) = false := decide_eq_false (by omega)
          have hd57 : decide ((57 : Int) < (B i : Int)) = false := decide_eq_false (by omega)
          have hw2 : IntKind.u8.wrap ((B i : Int) - 48) = (B i : Int) - 48 := IntWalk.u8_in _ (by omega)
          have hw2i : IntKind.i64.wrap ((B i : Int) - 48) = (B i : Int) - 48 := IntWalk.i64_in _ (by omega)
          have HDn : Hid (∀ j, j < i + 1 → 48 ≤ B j ∧ B j ≤ 57) := fun j hj => by
            by_cases e : j = i
            · subst e; omega
            · exact Hdg.out j (by omega)
          obtain ⟨a6, n6, k6, rfl, -⟩ := OwnP.shape ho
          generalize D i = Di at *
          go_wp2_with (at_builtin; (refine wpList_append1X (f := Value.int .i64) (e := 2) (B := w.heap.size) (xs := Di) rfl _ _ 46 rfl 0 8 Tryz.underlying46 Tryz.infoI64 rfl (fun _ => rfl) rfl ho ((B i : Int) - 48) rfl (by omega) (by omega) hsw ?_); intro v6 w6 hown6 hg6 hb6 hat6)
          go_roundw
          case rel => exact ⟨i + 1, by omega, by go_num, by rw [HSi.out]; exact hown6, HDn.out, Below.trans HE.out hb6⟩
          case measure => simp [intOf]; omega
    · have hin : i = s.size := by omega
      subst hin
      rw [HAll.out] at ho
      have HO := Lib.hid ho
      have HQ := Lib.hid (HYes.out Hdg.out)
      obtain ⟨a6, n6, k6, rfl, -⟩ := OwnP.shape ho
      clear ho ew hll
      go_wp2_with fail
      go_ret2
      exact ⟨_, rfl, ⟨_, by rw [HQ.out]; rfl, fun _ => HO.out⟩, HE.out⟩

open Go.ChangeShapes Go.WideShapes Go.ChangeAt Go.RowKit
set_option linter.unusedVariables false

/-- the word that a first line begins with -/
def mkWord : List UInt8 := [109, 97, 107, 101, 114]
theorem maker_split {mk : MK} {l : List UInt8} (hl : l = (makerV mk).data.toList) : splitL 32 l = mkWord :: [mk.c, mk.d, mk.s, mk.m, mk.l].map numD := by
  subst hl; exact maker_words mk

theorem five_eq {mk : MK} {x0 x1 x2 x3 x4 : Int} (h : [x0, x1, x2, x3, x4] = [mk.c, mk.d, mk.s, mk.m, mk.l]) : true = true ∧ (⟨x0, x1, x2, x3, x4⟩ : MK) = mk := by
  simp only [List.cons.injEq, and_true] at h
  obtain ⟨rfl, rfl, rfl, rfl, rfl⟩ := h
  exact ⟨rfl, rfl⟩
set_option maxRecDepth 20000 in
set_option maxHeartbeats 2000000 in
theorem l27Maker_c (w : World) (s : ByteArray) (hs : s.size ≤ 100000) :
    Calls Tryz.prog 22 #[.string s] w (Ret w fun r _ => ∃ mk' b, r = .tuple #[mk'.v, .bool b] ∧ LineOk s.data.toList mk' b) := by
  have HSp := Lib.hid (fun (w' : World) => l01Split_c w' s (by omega) 32 32 rfl)
  have HV := Lib.hid (fun (w' : World) (t : ByteArray) (ht : t.size ≤ 100000) => l01Value_c w' t ht)
  have HSl : Hid (∀ mk : MK, s.data.toList = (makerV mk).data.toList → splitL 32 s.data.toList = mkWord :: [mk.c, mk.d, mk.s, mk.m, mk.l].map numD) := fun mk h => maker_split h
  have HDig : Hid (∀ mk, isMaker mk = true → ∀ x ∈ [mk.c, mk.d, mk.s, mk.m, mk.l], 0 ≤ x ∧ x < 10) := fun mk h => makerDigs h
  have Hsz : Hid (∀ i (h : i < (splitL 32 s.data.toList).length), (strOf (splitL 32 s.data.toList)[i]).size ≤ 100000) := fun i h => by
    rw [strOf_size]
    exact Nat.le_trans (splitL_le 32 s.data.toList _ (List.getElem_mem h)) (by rw [len_str]; exact hs)
  have HszM : Hid (∀ x ∈ (splitL 32 s.data.toList).map strOf, x.size ≤ maxLen) := fun x hx => by
    obtain ⟨l, hl, rfl⟩ := List.mem_map.1 hx
    rw [strOf_size]
    have := splitL_le 32 s.data.toList l hl
    rw [len_str] at this
    unfold maxLen; omega
  have R0 := BoxM.new w ⟨0, 0, 0, 0, 0⟩ 23
  have e0 : Ext w (w.alloc (.cells #[.int .i64 0, .int .i64 0, .int .i64 0, .int .i64 0, .int .i64 0] 23)) := Ext.alloc _ _
  generalize hll : s.data.toList = ll at *
  generalize splitL 32 ll = ls at *
  clear hs hll
  go_enter Tryz.func22, Tryz.ntmps22
  go_wp2_with fail
  generalize w.alloc (.cells #[.int .i64 0, .int .i64 0, .int .i64 0, .int .i64 0, .int .i64 0] 23) = w0 at *
  refine Calls.mono (HSp.out w0) ?_
  rintro e w1 hr
  obtain ⟨r, rfl, o1, e1⟩ := ret_ext hr
  clear hr HSp
  have hst := OwnP.reads o1 (E := StrR) (fun _ x hx => ⟨rfl, HszM.out x hx⟩) (Nat.le_refl w0.heap.size) (Nat.le_refl _)
  obtain ⟨a1, n1, k1, rfl, hn1, -⟩ := OwnP.shape o1
  rw [List.length_map] at hn1
  have Hn1 := Lib.hid hn1
  have HE1 := Lib.hid (e0.trans e1)
  have HR1 := Lib.hid (R0.ext e1)
  have HEl : Hid (∀ i (h : i < ls.length), ∃ bb oo, a1 = some ⟨bb, oo, none⟩ ∧ ∀ w', Ext w1 w' → w'.cell? ⟨bb, oo + i, none⟩ = some (.string (strOf ls[i]))) := fun i h => by
    obtain ⟨a', n', k', he', -, -, -, -, -, hel⟩ := SliceR.shape hst
    injection he' with q1 q2 q3
    subst q1
    obtain ⟨bb, oo, hae, hz, hbl, -, u, y, hc, -, -, hE⟩ := hel i (by rw [List.length_map]; exact h)
    obtain ⟨rfl, -⟩ := hE
    rw [List.getElem_map] at hc
    exact ⟨bb, oo, hae, fun w' e => e.cell hc⟩
  clear o1 hn1 hst R0 e0 e1 HszM
  by_cases h6 : n1 = 6
  · have Hl6 : Hid (ls.length = 6) := by show _ = _; rw [← Hn1.out]; exact h6
    obtain ⟨bb, oo, rfl, hc0⟩ := HEl.out 0 (by rw [Hl6.out]; decide)
    have hc00 := hc0 w1 (Ext.refl _)
    rw [Nat.add_zero] at hc00
    replace HEl : Hid (∀ i (h : i < ls.length), ∀ w', Ext w1 w' → w'.cell? ⟨bb, oo + i, none⟩ = some (.string (strOf ls[i]))) := fun i h w' e => by
      obtain ⟨b', o', he, hh⟩ := HEl.out i h
      injection he with he; injection he with he1 he2 _
      subst he1; subst he2
      exact hh w' e
    have hb6 : ((n1 : Int) != 6) = false := by rw [h6]; rfl
    have HW0 : Hid (∀ mk : MK, ll = (makerV mk).data.toList → ((strOf (ls[0]'(by rw [Hl6.out]; decide))).toList == [109, 97, 107, 101, 114]) = true) := fun mk h => by
      have e := HSl.out mk h
      subst e
      show ((strOf mkWord).toList == [109, 97, 107, 101, 114]) = true
      unfold strOf mkWord
      rw [ByteArray.toList_mk]
      rfl
    obtain ⟨w00, hw00⟩ : ∃ w00, strOf (ls[0]'(by rw [Hl6.out]; decide)) = w00 := ⟨_, rfl⟩
    rw [hw00] at hc00 HW0
    subst h6
    clear hw00 hc0
    cases hbw : (w00.toList == [109, 97, 107, 101, 114]) with
    | false =>
      have HQ : Hid (LineOk ll ⟨0, 0, 0, 0, 0⟩ false) := fun mk hm hl => by
        have := HW0.out mk hl
        rw [hbw] at this; cases this
      obtain ⟨⟨g0, g1, g2, g3, g4⟩, f0, f1, f2, f3, f4⟩ := (HR1.out.ext (Ext.refl w1)).out
      simp only at g0 g1 g2 g3 g4
      have HEnd : Hid (Below w.heap.size w (((((w1.setCell ⟨w.heap.size, 0, none⟩ (.int .i64 0)).setCell ⟨w.heap.size, 1, none⟩ (.int .i64 0)).setCell ⟨w.heap.size, 2, none⟩ (.int .i64 0)).setCell ⟨w.heap.size, 3, none⟩ (.int .i64 0)).setCell ⟨w.heap.size, 4, none⟩ (.int .i64 0))) := ext_putM (HE1.out.trans (Ext.refl w1)) (Nat.le_refl _) _ _ _ _ _
      have HEz : Hid (∃ mk' b, Value.tuple #[.agg #[.int .i64 0, .int .i64 0, .int .i64 0, .int .i64 0, .int .i64 0], .bool false] = .tuple #[MK.v mk', .bool b] ∧ LineOk ll mk' b) := ⟨⟨0, 0, 0, 0, 0⟩, false, rfl, HQ.out⟩
      go_wp2_with fail
      refine bodyPost_ret (v := .tuple #[.agg #[.int .i64 0, .int .i64 0, .int .i64 0, .int .i64 0, .int .i64 0], .bool false]) (by simp [results, Tryz.results22, go_sem, g0, g1, g2, g3, g4]) rfl ⟨_, rfl, HEz.out, HEnd.out⟩
    | true =>
      have oi : OwnP (Value.int .i64) 2 w1.heap.size (w1.alloc (.cells #[] 2)) (.slice (some ⟨w1.heap.size, 0, none⟩) 0 0) [] := OwnP.empty (Nat.le_refl _)
      have ei : Ext w1 (w1.alloc (.cells #[] 2)) := Ext.alloc _ _
      clear HW0
      go_wp2_with fail
      clear hc00 hbw hb6
      generalize w1.alloc (.cells #[] 2) = w2 at *
      go_loopw [5, 6, 7, 8] (fun s5 s6 _ _ wr => ∃ (i : Nat) (ns : List Int), i ≤ 5 ∧ s6 = .int .i64 ((i : Int) + 1) ∧ OwnP (Value.int .i64) 2 w1.heap.size wr s5 ns ∧ ns.length = i ∧ (∀ x ∈ ns, I64 x) ∧ NumsTo (ls.drop 1) ns i ∧ Ext w1 wr) (fun _ s6 _ _ _ => 7 - (intOf s6).toNat)
      case atStart => exact ⟨0, [], Nat.zero_le _, rfl, oi, rfl, by simp, numsTo_zero _, ei⟩
      case round =>
        clear oi ei
        obtain ⟨i, ns, hi, rfl, ho, hnl, hI, hN, ew⟩ := hrel
        have HO := Lib.hid ho
        have HI := Lib.hid hI
        have HN := Lib.hid hN
        have HE := Lib.hid ew
        have Hnl := Lib.hid hnl
        have hsw := ew.size
        have hnl5 : ns.length ≤ 5 := by omega
        by_cases hlt : i < 5
        · have hil : i + 1 < ls.length := by rw [Hl6.out]; omega
          have hc := HEl.out (i + 1) hil wr HE.out
          have hdr : i < (ls.drop 1).length := by rw [List.length_drop]; omega
          have hget : (ls.drop 1)[i] = ls[i + 1] := by rw [List.getElem_drop]; congr 1; omega
          have hnum := HV.out wr (strOf ls[i + 1]) (Hsz.out (i + 1) hil)
          rw [data_strOf] at hnum
          have Hbad : Hid (∀ n, NumOk ls[i + 1] n false → LineOk ll ⟨0, 0, 0, 0, 0⟩ false) := fun n hn mk hm hl => by
            have h1 := HSl.out mk hl
            have h2 := numsTo_bad hdr (n := n) (hget ▸ hn) [] [mk.c, mk.d, mk.s, mk.m, mk.l] (HDig.out mk hm) (by rw [h1]; rfl)
            cases h2.2
          have Hgood : Hid (∀ n, NumOk ls[i + 1] n true → NumsTo (ls.drop 1) (ns ++ [n]) (i + 1)) := fun n hn => numsTo_succ HN.out hdr (hget ▸ hn)
          generalize NumOk ls[i + 1] = NO at *
          generalize strOf ls[i + 1] = word at *
          obtain ⟨a6, n6, k6, rfl, -⟩ := OwnP.shape ho
          have hi1 : (i : Int) + 1 < 6 := by omega
          have hi1' : ((i + 1 : Nat) : Int) = (i : Int) + 1 := by omega
          have hwi : IntKind.i64.wrap ((i : Int) + 1 + 1) = (i : Int) + 1 + 1 := IntWalk.i64_in _ (by omega)
          clear ho hI hN hnl hil hdr hget ew
          go_wp2_with fail
          refine Calls.mono hnum ?_
          rintro e w3 hr
          obtain ⟨r, rfl, ⟨n, q, rfl, hn, hno⟩, e3⟩ := ret_ext hr
          clear hr hnum hc
          have HNo := Lib.hid hno
          have Hn := Lib.hid hn
          have HE3 := Lib.hid (HE.out.trans e3)
          have own := HO.out.ext e3
          clear hno hn e3
          cases q with
          | false =>
            have HQ := Lib.hid (Hbad.out n HNo.out)
            clear own
            obtain ⟨⟨g0, g1, g2, g3, g4⟩, f0, f1, f2, f3, f4⟩ := (HR1.out.ext HE3.out).out
            simp only at g0 g1 g2 g3 g4
            have HEnd : Hid (Below w.heap.size w (((((w3.setCell ⟨w.heap.size, 0, none⟩ (.int .i64 0)).setCell ⟨w.heap.size, 1, none⟩ (.int .i64 0)).setCell ⟨w.heap.size, 2, none⟩ (.int .i64 0)).setCell ⟨w.heap.size, 3, none⟩ (.int .i64 0)).setCell ⟨w.heap.size, 4, none⟩ (.int .i64 0))) := ext_putM (HE1.out.trans HE3.out) (Nat.le_refl _) _ _ _ _ _
            have HEz : Hid (∃ mk' b, Value.tuple #[.agg #[.int .i64 0, .int .i64 0, .int .i64 0, .int .i64 0, .int .i64 0], .bool false] = .tuple #[MK.v mk', .bool b] ∧ LineOk ll mk' b) := ⟨⟨0, 0, 0, 0, 0⟩, false, rfl, HQ.out⟩
            go_wp2_with fail
            refine bodyPost_ret (v := .tuple #[.agg #[.int .i64 0, .int .i64 0, .int .i64 0, .int .i64 0, .int .i64 0], .bool false]) (by simp [results, Tryz.results22, go_sem, g0, g1, g2, g3, g4]) rfl ⟨_, rfl, HEz.out, HEnd.out⟩
          | true =>
            have HQ := Lib.hid (Hgood.out n HNo.out)
            have hs3 := HE3.out.size
            go_wp2_with (at_builtin; (refine wpList_append1X (f := Value.int .i64) (e := 2) (B := w1.heap.size) (xs := ns) rfl _ _ 46 rfl 0 8 Tryz.underlying46 Tryz.infoI64 rfl (fun _ => rfl) rfl own n rfl (by omega) (by omega) hs3 ?_); intro v6 w6 hown6 hg6 hb6 hat6)
            have HO6 := Lib.hid hown6
            have HE6 : Hid (Ext w1 w6) := Below.trans HE3.out hb6
            clear hown6 hg6 hb6 hat6 own
            go_roundw
            case rel => exact ⟨i + 1, ns ++ [n], by omega, by go_num, HO6.out, by rw [List.length_append, List.length_singleton, Hnl.out], ints_snoc HI.out Hn.out, HQ.out, HE6.out⟩
            case measure => simp [intOf]; omega
        · have hi5 : i = 5 := by omega
          subst hi5
          obtain ⟨x0, x1, x2, x3, x4, rfl⟩ : ∃ x0 x1 x2 x3 x4, ns = [x0, x1, x2, x3, x4] := by
            have h5 := Hnl.out
            match ns, h5 with
            | [x0, x1, x2, x3, x4], _ => exact ⟨_, _, _, _, _, rfl⟩
          have HNs : Hid (NumsOk (ls.drop 1) [x0, x1, x2, x3, x4] true) := numsTo_all (by rw [List.length_drop, Hl6.out]; exact HN.out)
          have HLn : Hid (LineOk ll ⟨x0, x1, x2, x3, x4⟩ true) := fun mk hm hl => by
            have h1 := HSl.out mk hl
            have h2 := (HNs.out [mk.c, mk.d, mk.s, mk.m, mk.l] (HDig.out mk hm) (by rw [h1]; rfl)).1
            exact five_eq h2
          obtain ⟨a6, n6, k6, rfl, hn6, -⟩ := OwnP.shape ho
          have hn65 : n6 = 5 := hn6
          subst hn65
          obtain ⟨g2, rfl, -, -, d0, -⟩ := OwnP.elem HO.out 0 0 (by omega)
          obtain ⟨g2', hg2, -, -, d1, -⟩ := OwnP.elem HO.out 0 1 (by omega)
          injection hg2 with hg2; injection hg2 with hg2 _ _; subst hg2
          obtain ⟨g2', hg2, -, -, d2, -⟩ := OwnP.elem HO.out 0 2 (by omega)
          injection hg2 with hg2; injection hg2 with hg2 _ _; subst hg2
          obtain ⟨g2', hg2, -, -, d3, -⟩ := OwnP.elem HO.out 0 3 (by omega)
          injection hg2 with hg2; injection hg2 with hg2 _ _; subst hg2
          obtain ⟨g2', hg2, -, -, d4, -⟩ := OwnP.elem HO.out 0 4 (by omega)
          injection hg2 with hg2; injection hg2 with hg2 _ _; subst hg2
          simp only [List.getD_cons_zero, List.getD_cons_succ] at d0 d1 d2 d3 d4
          have HD : Hid (∀ w', Ext wr w' → w'.cell? ⟨g2, 0, none⟩ = some (.int .i64 x0) ∧ w'.cell? ⟨g2, 1, none⟩ = some (.int .i64 x1) ∧ w'.cell? ⟨g2, 2, none⟩ = some (.int .i64 x2) ∧ w'.cell? ⟨g2, 3, none⟩ = some (.int .i64 x3) ∧ w'.cell? ⟨g2, 4, none⟩ = some (.int .i64 x4)) := fun w' e => ⟨e.cell d0, e.cell d1, e.cell d2, e.cell d3, e.cell d4⟩
          have hlt2 : g2 ≠ w.heap.size := by
            have h1 := (HO.out.block g2 rfl).1
            have h2 := HR1.out.lt
            omega
          have RB := HR1.out.ext (HE.out.trans (Ext.drew _))
          have HEq : Hid (Below w.heap.size w (((((wr.drew.setCell ⟨w.heap.size, 0, none⟩ (.int .i64 x0)).setCell ⟨w.heap.size, 1, none⟩ (.int .i64 x1)).setCell ⟨w.heap.size, 2, none⟩ (.int .i64 x2)).setCell ⟨w.heap.size, 3, none⟩ (.int .i64 x3)).setCell ⟨w.heap.size, 4, none⟩ (.int .i64 x4))) := ext_putM (HE1.out.trans (HE.out.trans (Ext.drew _))) (Nat.le_refl _) _ _ _ _ _
          have HPq := Lib.hid (BoxM.put RB ⟨x0, x1, x2, x3, x4⟩)
          have HDq : Hid ((((((wr.drew.setCell ⟨w.heap.size, 0, none⟩ (.int .i64 x0)).setCell ⟨w.heap.size, 1, none⟩ (.int .i64 x1)).setCell ⟨w.heap.size, 2, none⟩ (.int .i64 x2)).setCell ⟨w.heap.size, 3, none⟩ (.int .i64 x3)).setCell ⟨w.heap.size, 4, none⟩ (.int .i64 x4)).cell? ⟨g2, 0, none⟩ = some (.int .i64 x0) ∧ (((((wr.drew.setCell ⟨w.heap.size, 0, none⟩ (.int .i64 x0)).setCell ⟨w.heap.size, 1, none⟩ (.int .i64 x1)).setCell ⟨w.heap.size, 2, none⟩ (.int .i64 x2)).setCell ⟨w.heap.size, 3, none⟩ (.int .i64 x3)).setCell ⟨w.heap.size, 4, none⟩ (.int .i64 x4)).cell? ⟨g2, 1, none⟩ = some (.int .i64 x1) ∧ (((((wr.drew.setCell ⟨w.heap.size, 0, none⟩ (.int .i64 x0)).setCell ⟨w.heap.size, 1, none⟩ (.int .i64 x1)).setCell ⟨w.heap.size, 2, none⟩ (.int .i64 x2)).setCell ⟨w.heap.size, 3, none⟩ (.int .i64 x3)).setCell ⟨w.heap.size, 4, none⟩ (.int .i64 x4)).cell? ⟨g2, 2, none⟩ = some (.int .i64 x2) ∧ (((((wr.drew.setCell ⟨w.heap.size, 0, none⟩ (.int .i64 x0)).setCell ⟨w.heap.size, 1, none⟩ (.int .i64 x1)).setCell ⟨w.heap.size, 2, none⟩ (.int .i64 x2)).setCell ⟨w.heap.size, 3, none⟩ (.int .i64 x3)).setCell ⟨w.heap.size, 4, none⟩ (.int .i64 x4)).cell? ⟨g2, 3, none⟩ = some (.int .i64 x3) ∧ (((((wr.drew.setCell ⟨w.heap.size, 0, none⟩ (.int .i64 x0)).setCell ⟨w.heap.size, 1, none⟩ (.int .i64 x1)).setCell ⟨w.heap.size, 2, none⟩ (.int .i64 x2)).setCell ⟨w.heap.size, 3, none⟩ (.int .i64 x3)).setCell ⟨w.heap.size, 4, none⟩ (.int .i64 x4)).cell? ⟨g2, 4, none⟩ = some (.int .i64 x4)) := by
            have e := putM_other (w := wr.drew) (B := w.heap.size) (k := g2) hlt2 (.int .i64 x0) (.int .i64 x1) (.int .i64 x2) (.int .i64 x3) (.int .i64 x4)
            obtain ⟨p0, p1, p2, p3, p4⟩ := HD.out _ (Ext.drew wr)
            exact ⟨(World.cell?_of_block (a := ⟨g2, 0, none⟩) e).trans p0, (World.cell?_of_block (a := ⟨g2, 1, none⟩) e).trans p1, (World.cell?_of_block (a := ⟨g2, 2, none⟩) e).trans p2, (World.cell?_of_block (a := ⟨g2, 3, none⟩) e).trans p3, (World.cell?_of_block (a := ⟨g2, 4, none⟩) e).trans p4⟩
          have hgt6 : ¬ ((5 : Int) + 1 < 6) := by decide
          clear ho hI hN hnl hn6 ew d0 d1 d2 d3 d4
          go_wp2_with fail
          refine wp_region_noPanic ?_
          refine wp_region_held_drew (S := (fun w' => w'.cell? ⟨g2, 0, none⟩ = some (.int .i64 x0) ∧ w'.cell? ⟨g2, 1, none⟩ = some (.int .i64 x1) ∧ w'.cell? ⟨g2, 2, none⟩ = some (.int .i64 x2) ∧ w'.cell? ⟨g2, 3, none⟩ = some (.int .i64 x3) ∧ w'.cell? ⟨g2, 4, none⟩ = some (.int .i64 x4))) (by kernel_rfl) (HD.out _ (Ext.drew _)) (fun hHeld => ?_)
          (refine take_at 0 41 (v := ?_) rfl rfl (by kernel_rfl) (by kernel_rfl) (by kernel_rfl) (fun _ _ _ h => h) (by rfl) ?_ (by assumption) ?_; rotate_left; focus (intro w999 hSw; (try dsimp only at hSw); go_simp <;> with_reducible rfl); (try simp only [Act.put, List.setIfInBounds_toArray, List.set_cons_zero, List.set_cons_succ]))
          (refine take_at 1 42 (v := ?_) rfl rfl (by kernel_rfl) (by kernel_rfl) (by kernel_rfl) (fun _ _ _ h => h) (by rfl) ?_ (by assumption) ?_; rotate_left; focus (intro w999 hSw; (try dsimp only at hSw); go_simp <;> with_reducible rfl); (try simp only [Act.put, List.setIfInBounds_toArray, List.set_cons_zero, List.set_cons_succ]))
          (refine take_at 2 43 (v := ?_) rfl rfl (by kernel_rfl) (by kernel_rfl) (by kernel_rfl) (fun _ _ _ h => h) (by rfl) ?_ (by assumption) ?_; rotate_left; focus (intro w999 hSw; (try dsimp only at hSw); go_simp <;> with_reducible rfl); (try simp only [Act.put, List.setIfInBounds_toArray, List.set_cons_zero, List.set_cons_succ]))
          (refine take_at 3 44 (v := ?_) rfl rfl (by kernel_rfl) (by kernel_rfl) (by kernel_rfl) (fun _ _ _ h => h) (by rfl) ?_ (by assumption) ?_; rotate_left; focus (intro w999 hSw; (try dsimp only at hSw); go_simp <;> with_reducible rfl); (try simp only [Act.put, List.setIfInBounds_toArray, List.set_cons_zero, List.set_cons_succ]))
          (refine take_at 4 45 (v := ?_) rfl rfl (by kernel_rfl) (by kernel_rfl) (by kernel_rfl) (fun _ _ _ h => h) (by rfl) ?_ (by assumption) ?_; rotate_left; focus (intro w999 hSw; (try dsimp only at hSw); go_simp <;> with_reducible rfl); (try simp only [Act.put, List.setIfInBounds_toArray, List.set_cons_zero, List.set_cons_succ]))
          (refine take_at 5 46 (v := ?_) rfl rfl (by kernel_rfl) (by kernel_rfl) (by kernel_rfl) (fun _ _ _ h => h) (by rfl) ?_ (by assumption) ?_; rotate_left; focus (intro w999 hSw; (try dsimp only at hSw); go_simp <;> with_reducible rfl); (try simp only [Act.put, List.setIfInBounds_toArray, List.set_cons_zero, List.set_cons_succ]))
          (refine take_at 6 47 (v := ?_) rfl rfl (by kernel_rfl) (by kernel_rfl) (by kernel_rfl) (fun _ _ _ h => h) (by rfl) ?_ (by assumption) ?_; rotate_left; focus (intro w999 hSw; (try dsimp only at hSw); go_simp <;> with_reducible rfl); (try simp only [Act.put, List.setIfInBounds_toArray, List.set_cons_zero, List.set_cons_succ]))
          (refine take_at 7 48 (v := ?_) rfl rfl (by kernel_rfl) (by kernel_rfl) (by kernel_rfl) (fun _ _ _ h => h) (by rfl) ?_ (by assumption) ?_; rotate_left; focus (intro w999 hSw; (try dsimp only at hSw); go_simp <;> with_reducible rfl); (try simp only [Act.put, List.setIfInBounds_toArray, List.set_cons_zero, List.set_cons_succ]))
          (refine take_at 8 49 (v := ?_) rfl rfl (by kernel_rfl) (by kernel_rfl) (by kernel_rfl) (fun _ _ _ h => h) (by rfl) ?_ (by assumption) ?_; rotate_left; focus (intro w999 hSw; (try dsimp only at hSw); go_simp <;> with_reducible rfl); (try simp only [Act.put, List.setIfInBounds_toArray, List.set_cons_zero, List.set_cons_succ]))
          (refine take_at 9 50 (v := ?_) rfl rfl (by kernel_rfl) (by kernel_rfl) (by kernel_rfl) (fun _ _ _ h => h) (by rfl) ?_ (by assumption) ?_; rotate_left; focus (intro w999 hSw; (try dsimp only at hSw); go_simp <;> with_reducible rfl); (try simp only [Act.put, List.setIfInBounds_toArray, List.set_cons_zero, List.set_cons_succ]))
          (refine take_at 10 51 (v := ?_) rfl rfl (by kernel_rfl) (by kernel_rfl) (by kernel_rfl) (fun _ _ _ h => h) (by rfl) ?_ (by assumption) ?_; rotate_left; focus (intro w999 hSw; (try dsimp only at hSw); go_simp <;> with_reducible rfl); (try simp only [Act.put, List.setIfInBounds_toArray, List.set_cons_zero, List.set_cons_succ]))
          (refine take_at 11 52 (v := ?_) rfl rfl (by kernel_rfl) (by kernel_rfl) (by kernel_rfl) (fun _ _ _ h => h) (by rfl) ?_ (by assumption) ?_; rotate_left; focus (intro w999 hSw; (try dsimp only at hSw); go_simp <;> with_reducible rfl); (try simp only [Act.put, List.setIfInBounds_toArray, List.set_cons_zero, List.set_cons_succ]))
          (refine take_at 12 53 (v := ?_) rfl rfl (by kernel_rfl) (by kernel_rfl) (by kernel_rfl) (fun _ _ _ h => h) (by rfl) ?_ (by assumption) ?_; rotate_left; focus (intro w999 hSw; (try dsimp only at hSw); go_simp <;> with_reducible rfl); (try simp only [Act.put, List.setIfInBounds_toArray, List.set_cons_zero, List.set_cons_succ]))
          (refine take_at 13 54 (v := ?_) rfl rfl (by kernel_rfl) (by kernel_rfl) (by kernel_rfl) (fun _ _ _ h => h) (by rfl) ?_ (by assumption) ?_; rotate_left; focus (intro w999 hSw; (try dsimp only at hSw); go_simp <;> with_reducible rfl); (try simp only [Act.put, List.setIfInBounds_toArray, List.set_cons_zero, List.set_cons_succ]))
          (refine take_at 14 55 (v := ?_) rfl rfl (by kernel_rfl) (by kernel_rfl) (by kernel_rfl) (fun _ _ _ h => h) (by rfl) ?_ (by assumption) ?_; rotate_left; focus (intro w999 hSw; (try dsimp only at hSw); go_simp <;> with_reducible rfl); (try simp only [Act.put, List.setIfInBounds_toArray, List.set_cons_zero, List.set_cons_succ]))
          (refine take_at 15 56 (v := ?_) rfl rfl (by kernel_rfl) (by kernel_rfl) (by kernel_rfl) (fun _ _ _ h => h) (by rfl) ?_ (by assumption) ?_; rotate_left; focus (intro w999 hSw; (try dsimp only at hSw); go_simp <;> with_reducible rfl); (try simp only [Act.put, List.setIfInBounds_toArray, List.set_cons_zero, List.set_cons_succ]))
          generalize wr.drew = wd at *
          obtain ⟨⟨c0, c1, c2, c3, c4⟩, f0, f1, f2, f3, f4⟩ := RB.out
          simp only at c0 c1 c2 c3 c4
          clear RB
          (refine wpAnyH_ready (rs := [16]) (by kernel_rfl) (by simp) ?_; refine AllReadyH.cons rfl (fun K hK => ?_) AllReadyH.nil; go_simp)
          (refine hK.out _ _ ?_ (fun hHeld => ?_))
          · exact HDq.out
          (clear hK K; try dsimp only)
          (refine take_at 17 3 (v := ?_) rfl rfl (by kernel_rfl) (by kernel_rfl) (by kernel_rfl) (fun _ _ _ h => h) (by rfl) ?_ (by assumption) ?_; rotate_left; focus (intro w999 hSw; (try dsimp only at hSw); go_simp <;> with_reducible rfl); (try simp only [Act.put, List.setIfInBounds_toArray, List.set_cons_zero, List.set_cons_succ]))
          refine wpAnyH_done (by kernel_rfl) ?_ _
          refine NoPanic.normal ?_
          obtain ⟨g0, g1, g2', g3, g4⟩ := HPq.out.1
          simp only at g0 g1 g2' g3 g4
          clear c0 c1 c2 c3 c4 f0 f1 f2 f3 f4
          generalize (((((wd.setCell ⟨w.heap.size, 0, none⟩ (.int .i64 x0)).setCell ⟨w.heap.size, 1, none⟩ (.int .i64 x1)).setCell ⟨w.heap.size, 2, none⟩ (.int .i64 x2)).setCell ⟨w.heap.size, 3, none⟩ (.int .i64 x3)).setCell ⟨w.heap.size, 4, none⟩ (.int .i64 x4)) = wz at *
          go_wp2_with fail
          refine bodyPost_ret (v := .tuple #[.agg #[.int .i64 x0, .int .i64 x1, .int .i64 x2, .int .i64 x3, .int .i64 x4], .bool true]) (by simp [results, Tryz.results22, go_sem, g0, g1, g2', g3, g4]) rfl ⟨_, rfl, ⟨⟨x0, x1, x2, x3, x4⟩, _, rfl, HLn.out⟩, HEq.out⟩
  · have hb6 : ((n1 : Int) != 6) = true := by rw [bne_iff_ne]; omega
    have HQ : Hid (LineOk ll ⟨0, 0, 0, 0, 0⟩ false) := fun mk hm hl => by
      have h1 := HSl.out mk hl
      have h2 := Hn1.out
      rw [h1] at h2
      simp at h2
      exact (h6 h2).elim
    obtain ⟨⟨g0, g1, g2, g3, g4⟩, f0, f1, f2, f3, f4⟩ := (HR1.out.ext (Ext.refl w1)).out
    simp only at g0 g1 g2 g3 g4
    have HEnd : Hid (Below w.heap.size w (((((w1.setCell ⟨w.heap.size, 0, none⟩ (.int .i64 0)).setCell ⟨w.heap.size, 1, none⟩ (.int .i64 0)).setCell ⟨w.heap.size, 2, none⟩ (.int .i64 0)).setCell ⟨w.heap.size, 3, none⟩ (.int .i64 0)).setCell ⟨w.heap.size, 4, none⟩ (.int .i64 0))) := ext_putM (HE1.out.trans (Ext.refl w1)) (Nat.le_refl _) _ _ _ _ _
    have HEz : Hid (∃ mk' b, Value.tuple #[.agg #[.int .i64 0, .int .i64 0, .int .i64 0, .int .i64 0, .int .i64 0], .bool false] = .tuple #[MK.v mk', .bool b] ∧ LineOk ll mk' b) := ⟨⟨0, 0, 0, 0, 0⟩, false, rfl, HQ.out⟩
    go_wp2_with fail
    refine bodyPost_ret (v := .tuple #[.agg #[.int .i64 0, .int .i64 0, .int .i64 0, .int .i64 0, .int .i64 0], .bool false]) (by simp [results, Tryz.results22, go_sem, g0, g1, g2, g3, g4]) rfl ⟨_, rfl, HEz.out, HEnd.out⟩
end Go.Proofs.YtkeikjedbfomnaaGreatDoor
