/- Proved: the closures inside impl.LeastKeysFor. -/
import Derived.Test.YtbkijealdjghgaaChecked
import Derived.Test.YtbkijealdjghgaaULeastKeys
import Derived.Test.YtbkijealdjghgaaUFuncs
import Derived.Test.YtbkijealdjghgaaUOpenForImpl
namespace Go.Proofs.Ytbkijealdjghgaa
open Go.ChangeShapes Go.WideShapes Go.ChangeAt Go.RowKit
set_option linter.unusedVariables false

theorem Try.goesLeastKeys1 : Goes Try.prog 49 := goes_of Try.func49 (by kernel_rfl) (by kernel_rfl)
theorem Try.goesLeastKeys2 : Goes Try.prog 50 := goes_of Try.func50 (by kernel_rfl) (by kernel_rfl)

set_option maxHeartbeats 1000000 in
theorem LeastKeys2_c (w : World) (u : Value) (z : Zone) (t : List (List Int)) (ht : RowsR z w u t) (k d : Int) (a1 a2 : Addr) (h1 : w.cell? a1 = some u) (h2 : w.cell? a2 = some (.int .i64 d)) (hk : 0 ≤ k ∧ k < t.length) (hd : 0 ≤ d ∧ ∀ r ∈ t, d < r.length) :
    Calls Try.prog 50 #[.int .i64 k, .pointer (some a1), .pointer (some a2)] w (RetQ w (.bool (entry t k d == 1))) := by
  obtain ⟨a, nt, ct, rfl, hnt, hmt, hel⟩ := SliceR.elem stable_ints ht
  have hkt : k.toNat < t.length := by omega
  obtain ⟨b, off, rfl, hb0, u, hc, hu⟩ := hel _ hkt
  have d2 := hd.2 _ (List.getElem_mem hkt)
  obtain ⟨a2', n2, c2, rfl, hn2, hm2, -, -, -, he2⟩ := IntsR.shape hu
  obtain ⟨b2, o2, rfl, hx, -, -⟩ := he2 d.toNat (by omega)
  rw [← entry_eq _ hkt] at hx
  generalize entry t k d = x at *
  have g1 : k.toNat < nt := by omega
  have g2 : d.toNat < n2 := by omega
  have g3 : k < (nt : Int) := by omega
  have g4 : d < (n2 : Int) := by omega
  obtain ⟨g5, -⟩ := hk
  obtain ⟨g6, -⟩ := hd
  clear hel he2 hn2 hnt ht hu d2 hkt
  go_enter Try.func50, Try.ntmps50
  go_wp2_with fail
  go_quiet (fail)
  go_wp2_with fail
  go_ret
  exact ⟨rfl, (Drew.refl _).drewN _⟩

set_option maxRecDepth 20000 in
set_option maxHeartbeats 1000000 in
theorem LeastKeys1_c (w : World) (u v : Value) (z y : Zone) (t : List (List Int)) (ht : RowsR z w u t) (keys : List Int) (hk : IntsR y w v keys) (d : Int) (a1 a2 : Addr) (h1 : w.cell? a1 = some v) (h2 : w.cell? a2 = some u) (gk : ∀ k ∈ keys, 0 ≤ k ∧ k < t.length) (hd : 0 ≤ d ∧ ∀ r ∈ t, d < r.length) :
    Calls Try.prog 49 #[.int .i64 d, .pointer (some a1), .pointer (some a2)] w (Ret w fun r _ => r = .bool (!openAny t keys d)) := by
  have hE : Ext w (w.alloc (.cells #[.int .i64 d] 2)) := Ext.alloc _ _
  have k1 := hE.cell h1
  have k2 := hE.cell h2
  have k3 : (w.alloc (.cells #[.int .i64 d] 2)).cell? ⟨w.heap.size, 0, none⟩ = some (.int .i64 d) := by go_simp
  have hcall := ContainsFuncInts_c (w.alloc (.cells #[.int .i64 d] 2)) v y keys (stable_ints.ext hk hE) _ Try.goesLeastKeys2 #[.pointer (some a2), .pointer (some ⟨w.heap.size, 0, none⟩)] (fun x => entry t x d == 1) (fun i hi w5 u5 hb5 hu5 => by
    obtain ⟨rfl, -⟩ := hu5
    exact (LeastKeys2_c w5 _ z t (stable_rows.ext ht (hE.trans (Ext.of hb5))) _ d a2 ⟨w.heap.size, 0, none⟩ ((Ext.of hb5).cell k2) ((Ext.of hb5).cell k3) (gk _ (List.getElem_mem hi)) hd).mono (fun _ _ hq => hq.ret))
  have hcall : Calls Try.prog 42 #[v, .func (.func 50) #[] #[.pointer (some a2), .pointer (some ⟨w.heap.size, 0, none⟩)]] (w.alloc (.cells #[.int .i64 d] 2)) (Ret (w.alloc (.cells #[.int .i64 d] 2)) fun r _ => r = .bool (openAny t keys d)) := hcall
  generalize openAny t keys d = q at *
  obtain ⟨av, nv, cv, rfl, -⟩ := IntsR.shape hk
  have HE := Lib.hid hE
  clear hE h1 h2 k2 k3 ht hk gk hd
  go_enter Try.func49, Try.ntmps49
  go_wp2_with fail
  refine Calls.mono hcall ?_
  rintro e w2 ⟨r, rfl, rfl, hb⟩
  clear hcall
  go_wp2_with fail
  go_ret
  exact ⟨_, rfl, rfl, (HE.out.trans (Ext.of hb)).below⟩
end Go.Proofs.Ytbkijealdjghgaa
