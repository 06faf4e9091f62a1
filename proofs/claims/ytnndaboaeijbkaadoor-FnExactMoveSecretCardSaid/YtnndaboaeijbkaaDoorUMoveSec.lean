/- Proved: a stamp with another secret, both sides. -/
import Derived.Test.YtnndaboaeijbkaaDoorChecked
import Derived.Test.YtnndaboaeijbkaaDoorUPkSm
namespace Go.Proofs.YtnndaboaeijbkaaDoor
open Go.ChangeShapes Go.WideShapes Go.ChangeAt Go.RowKit
set_option linter.unusedVariables false

def moveM (mk : MK) (l : List UInt8) (f t : Int) : Value :=
  if codeM mk 0 f ≠ 0 then .tuple #[.string ⟨#[]⟩, .int .i64 (codeM mk 0 f)] else if codeM mk 0 t ≠ 0 then .tuple #[.string ⟨#[]⟩, .int .i64 (codeM mk 0 t)] else
  if readB (lenM mk) (countM mk) l = true then .tuple #[stampV (lenM mk) (byteN l 0 - 65) ((numI l (lenM mk) - f + t + (countM mk : Int)) % (countM mk : Int)).toNat, .int .i64 0] else .tuple #[.string ⟨#[]⟩, .int .i64 6]
theorem codeM_is {mk : MK} {ser sec : Int} (hm : isMaker mk = true) (h1 : 0 ≤ ser ∧ ser ≤ 25) (h2 : 0 ≤ sec ∧ sec ≤ (countM mk : Int) - 1) : codeM mk ser sec = 0 := by
  unfold codeM
  rw [if_pos hm, if_pos]
  rw [Bool.and_eq_true, inB_iff, inB_iff]
  exact ⟨h1, h2⟩
theorem move_idx {mk : MK} {l : List UInt8} {f t : Int} (hN : 0 < countM mk) (ht : 0 ≤ t) : (idxM mk l f + t.toNat) % countM mk = ((numI l (lenM mk) - f + t + (countM mk : Int)) % (countM mk : Int)).toNat := by
  unfold idxM
  generalize countM mk = N at *
  generalize numI l (lenM mk) = n
  obtain ⟨tn, rfl⟩ := Int.eq_ofNat_of_zero_le ht
  have h0 := Int.emod_nonneg (n + (N : Int) - f) (show (N : Int) ≠ 0 by omega)
  have h1 := Int.emod_nonneg (n - f + tn + (N : Int)) (show (N : Int) ≠ 0 by omega)
  have e : ((((n + (N : Int) - f) % (N : Int)).toNat + tn) % N : Nat) = (((n + (N : Int) - f) % (N : Int)) + tn) % (N : Int) := by
    rw [Int.natCast_emod, Int.natCast_add, Int.toNat_of_nonneg h0]
  have e2 : (((n + (N : Int) - f) % (N : Int)) + tn) % (N : Int) = (n - f + tn + (N : Int)) % (N : Int) := by
    rw [Int.emod_add_emod]
    congr 1; omega
  have e3 : (Int.ofNat tn).toNat = tn := rfl
  show (((n + (N : Int) - f) % (N : Int)).toNat + tn) % N = _
  omega
theorem move_stamp {mk : MK} {l : List UInt8} {f t : Int} {key : List Int} (hf : codeM mk 0 f = 0) (ht : codeM mk 0 t = 0) (hb : readB (lenM mk) (countM mk) l = true) (hk : (allK mk)[idxM mk l f]? = some key) : stampOfM mk key ((byteN l 0 : Int) - 65) t = moveM mk l f t := by
  obtain ⟨hm, -, -, -⟩ := codeM_zero hf
  obtain ⟨-, -, ht0, ht1⟩ := codeM_zero ht
  obtain ⟨-, h65, h90, -, -, -⟩ := readB_yes hb
  have hmem : key ∈ allK mk := List.mem_of_getElem? hk
  have hkf : keyFault mk key = 0 := of_decide_eq_true (allK_isKey (mkOk hm) hmem)
  have hN : 0 < countM mk := by omega
  unfold stampOfM moveM
  rw [codeM_is hm (show 0 ≤ (byteN l 0 : Int) - 65 ∧ (byteN l 0 : Int) - 65 ≤ 25 by omega) ⟨ht0, ht1⟩, hf, ht, hkf, hb, rank_get hk, move_idx hN ht0, show ((byteN l 0 : Int) - 65).toNat = byteN l 0 - 65 by omega]
  simp

set_option maxRecDepth 20000 in
set_option maxHeartbeats 1000000 in
theorem MoveSecretSpec_c (w : World) (mk : MK) (s : ByteArray) (hs : s.size ≤ maxLen) (f t : Int) :
    Calls Tryd.prog 15 #[mk.v, .string s, .int .i64 f, .int .i64 t] w (Ret w fun r _ => r = moveM mk s.data.toList f t) := by
  have HC1 := Lib.hid (fun (w' : World) => l28Code_c w' mk 0 f)
  have HC2 := Lib.hid (fun (w' : World) => l28Code_c w' mk 0 t)
  have HRd := Lib.hid (fun (w' : World) => ReadStampSpec_c w' mk s hs f)
  unfold ReadOut at HRd
  have HSt := Lib.hid (fun (key : List Int) (hk : ∀ x ∈ key, I64 x) (ser : Int) (w' : World) (u : Value) (o : OwnP (Value.int .i64) 2 w'.heap.size w' u key ∨ ∃ B, OwnP (Value.int .i64) 2 B w' u key) => StampOfSpec_c w' mk u ⟨0, w'.heap.size, true⟩ key (by rcases o with o | ⟨B, o⟩ <;> exact OwnP.ints o hk (Nat.zero_le _)) ser t)
  have HKI : Hid (codeM mk 0 f = 0 → ∀ key : List Int, key ∈ allK mk → ∀ x ∈ key, I64 x) := fun h0 key hk x hx => by
    have h1 := (allK_mem hk).2 x hx
    have h2 := (mkOk (codeM_zero h0).1).d8
    unfold I64; omega
  have HM := Lib.hid (fun (hf : codeM mk 0 f = 0) (ht : codeM mk 0 t = 0) (hb : readB (lenM mk) (countM mk) s.data.toList = true) (key : List Int) (hk : (allK mk)[idxM mk s.data.toList f]? = some key) => move_stamp hf ht hb hk)
  have HMem : Hid (∀ key, (allK mk)[idxM mk s.data.toList f]? = some key → key ∈ allK mk) := fun key h => List.mem_of_getElem? h
  have HR : Hid (moveM mk s.data.toList f t = if codeM mk 0 f ≠ 0 then .tuple #[.string ⟨#[]⟩, .int .i64 (codeM mk 0 f)] else if codeM mk 0 t ≠ 0 then .tuple #[.string ⟨#[]⟩, .int .i64 (codeM mk 0 t)] else
    if readB (lenM mk) (countM mk) s.data.toList = true then .tuple #[stampV (lenM mk) (byteN s.data.toList 0 - 65) ((numI s.data.toList (lenM mk) - f + t + (countM mk : Int)) % (countM mk : Int)).toNat, .int .i64 0] else .tuple #[.string ⟨#[]⟩, .int .i64 6]) := rfl
  have HV : Hid (∀ W a b, ∃ st, stampV W a b = .string st) := fun W a b => ⟨_, rfl⟩
  generalize (numI s.data.toList (lenM mk) - f + t + (countM mk : Int)) % (countM mk : Int) = md at *
  generalize (allK mk)[idxM mk s.data.toList f]? = ok at *
  generalize allK mk = AK at *
  generalize stampOfM mk = sO at *
  generalize moveM mk s.data.toList f t = res at *
  generalize codeM mk 0 f = cf at *
  generalize codeM mk 0 t = ct at *
  generalize readB (lenM mk) (countM mk) s.data.toList = b at *
  generalize (byteN s.data.toList 0 : Int) - 65 = ser at *
  generalize byteN s.data.toList 0 - 65 = sern at *
  generalize lenM mk = W at *
  clear hs
  obtain ⟨mc, mdd, ms, mm, ml⟩ := mk
  unfold MK.v at *
  go_enter Tryd.func15, Tryd.ntmps15
  go_wp2_with fail
  generalize hw2 : World.alloc w _ = w1
  obtain ⟨e1, S1⟩ := mk_box (mk := ⟨mc, mdd, ms, mm, ml⟩) hw2
  clear hw2
  have HS := Lib.hid S1
  obtain ⟨c0, c1, c2, c3, c4⟩ := S1
  go_wp2_with fail
  refine Calls.mono (HC1.out w1) ?_
  rintro e w2 hr
  obtain ⟨r, rfl, rfl, e2⟩ := ret_ext hr
  clear hr c0 c1 c2 c3 c4
  obtain ⟨c0, c1, c2, c3, c4⟩ := HS.out.ext e2
  have et := e1.trans e2
  by_cases hcf : cf = 0
  · have hbf : (cf == 0) = true := by rw [beq_iff_eq]; exact hcf
    have HH : Hid (res = if ct ≠ 0 then .tuple #[.string ⟨#[]⟩, .int .i64 ct] else if b = true then .tuple #[stampV W sern md.toNat, .int .i64 0] else .tuple #[.string ⟨#[]⟩, .int .i64 6]) := by show _ = _; rw [HR.out, if_neg (by simpa using hcf)]
    have HM2 := Lib.hid (HM.out hcf)
    have Hcf := Lib.hid hcf
    have HKI2 := Lib.hid (HKI.out hcf)
    clear HR HM hcf HC1 HKI
    go_wp2_with fail
    refine Calls.mono (HC2.out w2) ?_
    rintro e w3 hr
    obtain ⟨r, rfl, rfl, e3⟩ := ret_ext hr
    clear hr c0 c1 c2 c3 c4
    have et3 := et.trans e3
    obtain ⟨c0, c1, c2, c3, c4⟩ := HS.out.ext (e2.trans e3)
    by_cases hct : ct = 0
    · have hbt : (ct == 0) = true := by rw [beq_iff_eq]; exact hct
      have HH2 : Hid (res = if b = true then .tuple #[stampV W sern md.toNat, .int .i64 0] else .tuple #[.string ⟨#[]⟩, .int .i64 6]) := by show _ = _; rw [HH.out, if_neg (by simpa using hct)]
      have HM3 := Lib.hid (HM2.out hct)
      clear HM2 HH hct HC2
      go_wp2_with fail
      refine Calls.mono (HRd.out w3) ?_
      rintro e w4 hr
      obtain ⟨r, rfl, ⟨-, h1, h2⟩, e4⟩ := ret_ext hr
      replace h1 := h1 Hcf.out
      replace h2 := h2 Hcf.out
      clear hr c0 c1 c2 c3 c4
      have et4 := et3.trans e4
      obtain ⟨c0, c1, c2, c3, c4⟩ := HS.out.ext ((e2.trans e3).trans e4)
      cases b with
      | false =>
        obtain rfl := h1 rfl
        have HH3 : Hid (res = .tuple #[.string ⟨#[]⟩, .int .i64 6]) := HH2.out
        clear h1 h2 HH2 HM3 HRd
        go_wp2_with fail
        go_ret2
        exact ⟨_, rfl, HH3.out.symm, et4⟩
      | true =>
        obtain ⟨u, key, rfl, o4, hk⟩ := h2 rfl
        have HH3 : Hid (sO key ser t = .tuple #[stampV W sern md.toNat, .int .i64 0]) := by show _ = _; rw [HM3.out rfl key hk, HH2.out]; rfl
        have HH4 : Hid (res = .tuple #[stampV W sern md.toNat, .int .i64 0]) := HH2.out
        have HS4 := Lib.hid (HSt.out key (HKI2.out key (HMem.out key hk)) ser w4 u (.inr ⟨_, o4⟩))
        rw [HH3.out] at HS4
        obtain ⟨st, hst⟩ := HV.out W sern md.toNat
        rw [hst] at HS4 HH4
        clear h1 h2 HH2 HM3 HRd HH3 o4 hst
        go_wp2_with fail
        refine Calls.mono HS4.out ?_
        rintro e w5 hr
        obtain ⟨r, rfl, rfl, e5⟩ := ret_ext hr
        clear hr
        go_wp2_with fail
        go_ret2
        exact ⟨_, rfl, HH4.out.symm, et4.trans e5⟩
    · have hbt : (ct == 0) = false := by rw [beq_eq_false_iff_ne]; exact hct
      have HH2 : Hid (res = .tuple #[.string ⟨#[]⟩, .int .i64 ct]) := by show _ = _; rw [HH.out, if_pos hct]
      clear HM2 HH HRd HC2
      go_wp2_with fail
      go_ret2
      exact ⟨_, rfl, HH2.out.symm, et3⟩
  · have hbf : (cf == 0) = false := by rw [beq_eq_false_iff_ne]; exact hcf
    have HH2 : Hid (res = .tuple #[.string ⟨#[]⟩, .int .i64 cf]) := by show _ = _; rw [HR.out, if_pos hcf]
    clear HM HRd HC2 HC1 HR
    go_wp2_with fail
    go_ret2
    exact ⟨_, rfl, HH2.out.symm, et⟩
end Go.Proofs.YtnndaboaeijbkaaDoor
