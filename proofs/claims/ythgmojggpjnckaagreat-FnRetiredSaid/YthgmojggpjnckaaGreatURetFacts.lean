/- Proved: a retired row leaves a design, a dropped door too, and a door that is added can be dropped again (plain). -/
import Derived.Test.YthgmojggpjnckaaGreatURetireLaw
import Derived.Test.YthgmojggpjnckaaGreatUAddLaw
import Derived.Test.YthgmojggpjnckaaGreatUCanLaw
namespace Go.Proofs.YthgmojggpjnckaaGreat
open Go.ChangeShapes Go.WideShapes Go.ChangeAt Go.RowKit
set_option linter.unusedVariables false

theorem isTable_of {t : List (List Int)} {m : Nat} (h1 : 1 ≤ t.length ∧ t.length ≤ 10) (hm : 1 ≤ m ∧ m ≤ 12) (hr : ∀ r ∈ t, r.length = m ∧ ∀ x ∈ r, 0 ≤ x ∧ x ≤ 1) : isTable t = true := by
  have h0 : (t.getD 0 []).length = m := by
    have hp : 0 < t.length := by omega
    have e : t.getD 0 [] = t[0] := by simp [hp]
    rw [e]; exact (hr _ (List.getElem_mem _)).1
  unfold isTable
  rw [h0, Bool.and_eq_true, decide_eq_true_iff, List.all_eq_true]
  refine ⟨fun r hx => ?_, h1⟩
  obtain ⟨a, b⟩ := hr r hx
  unfold tabRow
  rw [Bool.and_eq_true, Bool.and_eq_true, decide_eq_true_iff, decide_eq_true_iff]
  refine ⟨a, by omega, ?_⟩
  unfold allB
  rw [List.all_eq_true]
  exact fun x hx => inB_iff.2 (b x hx)
theorem isDesign_of {mk : MK} {t cuts : List (List Int)} (hs : isSystem mk t = true) (hl : cuts.length = t.length) (hk : areKeysB mk cuts = true) (hf : faults mk t cuts = 0) : isDesign mk t cuts = true := by
  unfold isDesign; rw [hs, decide_eq_true hl, hk, decide_eq_true hf]; rfl
theorem design_parts {mk : MK} {t cuts : List (List Int)} (h : designCode mk t cuts = 0) : isSystem mk t = true ∧ cuts.length = t.length ∧ areKeysB mk cuts = true ∧ faults mk t cuts = 0 := by
  have h1 : isDesign mk t cuts = true := by
    unfold designCode at h
    split at h
    · assumption
    · omega
  unfold isDesign at h1
  obtain ⟨h2, h3⟩ := Bool.and_eq_true_iff.1 h1
  obtain ⟨h4, h5⟩ := Bool.and_eq_true_iff.1 h3
  obtain ⟨h6, h7⟩ := Bool.and_eq_true_iff.1 h4
  exact ⟨h2, of_decide_eq_true h6, h7, of_decide_eq_true h5⟩
theorem designCode_of {mk : MK} {t cuts : List (List Int)} (h : isDesign mk t cuts = true) : designCode mk t cuts = 0 := by unfold designCode; rw [if_pos h]
/-- the place that place j has without place k -/
def past (k j : Nat) : Nat := if j < k then j else j + 1
theorem past_lt {k j n : Nat} (hk : k < n) (hj : j < n - 1) : past k j < n := by unfold past; split <;> omega
theorem rmAt_get {k j : Nat} {l : List (List Int)} (hk : k < l.length) (hj : j < l.length - 1) : (rmAt k l).getD j [] = l.getD (past k j) [] := by
  have hl : j < (l.take k ++ l.drop (k + 1)).length := by rw [List.length_append, List.length_take, List.length_drop]; omega
  obtain ⟨h1, h2⟩ := drop_get hl hk
  unfold rmAt past
  rw [List.getD_eq_getElem?_getD, List.getElem?_eq_getElem hl, List.getD_eq_getElem?_getD, List.getElem?_eq_getElem h1]
  exact h2
theorem delAt_len {d : Nat} {r : List Int} (h : d < r.length) : (delAt d r).length = r.length - 1 := by unfold delAt; rw [List.length_append, List.length_take, List.length_drop]; omega
theorem delAt_get {d j : Nat} {r : List Int} (hd : d < r.length) (hj : j < r.length - 1) : (delAt d r).getD j 0 = r.getD (past d j) 0 := by
  have hl : j < (r.take d ++ r.drop (d + 1)).length := by rw [List.length_append, List.length_take, List.length_drop]; omega
  obtain ⟨h1, h2⟩ := drop_get hl hd
  unfold delAt past
  rw [List.getD_eq_getElem?_getD, List.getElem?_eq_getElem hl, List.getD_eq_getElem?_getD, List.getElem?_eq_getElem h1]
  exact h2
theorem delAt_mem {d : Nat} {r : List Int} {x : Int} (h : x ∈ delAt d r) : x ∈ r := by
  unfold delAt at h
  rcases List.mem_append.1 h with q | q
  · exact List.mem_of_mem_take q
  · exact List.mem_of_mem_drop q
theorem rmAt_mem {d : Nat} {l : List (List Int)} {x : List Int} (h : x ∈ rmAt d l) : x ∈ l := by
  unfold rmAt at h
  rcases List.mem_append.1 h with q | q
  · exact List.mem_of_mem_take q
  · exact List.mem_of_mem_drop q
/-- fewer keys open a lock less -/
theorem opens_less {mk : MK} {ks ks' : List (List Int)} {x : List Int} (hx : KeyOk mk x) (hs : ∀ r ∈ ks', r ∈ ks) (h : opensB (hull mk ks') x = true) : opensB (hull mk ks) x = true := by
  have hl := hx.len
  unfold opensB at h ⊢
  rw [List.all_eq_true] at h ⊢
  intro i hi
  have h1 := h i hi
  have hi' := List.mem_range.1 hi
  rw [hull_at (by omega)] at h1 ⊢
  obtain ⟨h2, r, hr, h3⟩ := has_setAt.1 h1
  exact has_setAt.2 ⟨h2, r, hs r hr, h3⟩
theorem retire_facts {mk mk' : MK} {t cuts t' cuts' : List (List Int)} {k : Int} (h : retireKey mk t cuts k = ((mk', t'), (cuts', 0))) : isDesign mk' t' cuts' = true ∧ (cuts'.length : Int) = (cuts.length : Int) - 1 := by
  by_cases hd : designCode mk t cuts = 0
  · cases hb : inB k 0 ((cuts.length : Int) - 1) with
    | false => rw [retire_range hd hb] at h; unfold noRes at h; injection h with _ h; injection h with _ h; cases h
    | true =>
      have hb2 := inB_iff.1 hb
      obtain ⟨n, rfl⟩ : ∃ n : Nat, k = n := ⟨k.toNat, by omega⟩
      cases hsy : isSystem mk (rmAt n t) with
      | false => rw [retire_state hd hb hsy] at h; unfold noRes at h; injection h with _ h; injection h with _ h; cases h
      | true =>
        rw [retire_ok hd hb hsy] at h
        injection h with h1 h2
        injection h1 with h1 h3
        injection h2 with h2 _
        subst h1; subst h2; subst h3
        obtain ⟨p1, p2, p3, p4⟩ := design_parts hd
        have hn : n < cuts.length := by omega
        have ok := sysOk p1
        have ok' := sysOk hsy
        have hlen := rmAt_len hn
        have hlen' := rmAt_len (k := n) (l := t) (by omega)
        have hrow : ∀ j, j < t.length - 1 → (rmAt n t).getD j [] = t.getD (past n j) [] := fun j hj => rmAt_get (by omega) hj
        have hcut : ∀ j, j < cuts.length - 1 → (rmAt n cuts).getD j [] = cuts.getD (past n j) [] := fun j hj => rmAt_get hn hj
        have hdo : doorsOf (rmAt n t) = doorsOf t := by
          have h1 := ok'.len
          show ((rmAt n t).getD 0 []).length = _
          rw [hrow 0 (by omega)]
          exact ok.row _ (past_lt (by omega) (by omega))
        refine ⟨isDesign_of hsy (by omega) ?_ ?_, by omega⟩
        · unfold areKeysB at p3 ⊢
          rw [List.all_eq_true] at p3 ⊢
          exact fun x hx => p3 x (rmAt_mem hx)
        · rw [faults_zero]
          intro j hj d hdd
          rw [hdo] at hdd
          have hj' : j < cuts.length - 1 := by omega
          have hp := past_lt (n := cuts.length) hn hj'
          have hno := (faults_zero.1 p4) (past n j) hp d hdd
          have hmem : cuts.getD (past n j) [] ∈ cuts := by
            rw [List.getD_eq_getElem?_getD, List.getElem?_eq_getElem hp]; exact List.getElem_mem hp
          have hkey : KeyOk mk (cuts.getD (past n j) []) := by
            unfold areKeysB at p3
            exact keyOk ((List.all_eq_true.1 p3) _ hmem)
          unfold faultAt at hno ⊢
          rw [hrow j (by omega), hcut j hj', lock_at (by rw [hdo]; exact hdd)]
          rw [lock_at hdd] at hno
          cases hz : (t.getD (past n j) []).getD d 0 == 0 with
          | false => rfl
          | true =>
            rw [hz, Bool.true_and] at hno
            rw [Bool.true_and]
            cases ho : opensB (hull mk (keysAt (rmAt n t) (rmAt n cuts) d (rmAt n cuts).length)) (cuts.getD (past n j) []) with
            | false => rfl
            | true =>
              have := opens_less (ks := keysAt t cuts d cuts.length) hkey (fun r hr => by
                unfold keysAt at hr
                obtain ⟨i, hi, rfl⟩ := List.mem_map.1 hr
                unfold rowsAt at hi
                obtain ⟨hi1, hi2⟩ := List.mem_filter.1 hi
                have hi1 := List.mem_range.1 hi1
                rw [hcut i (by omega)]
                rw [hrow i (by omega)] at hi2
                unfold keysAt
                refine List.mem_map.2 ⟨past n i, ?_, rfl⟩
                unfold rowsAt
                exact List.mem_filter.2 ⟨List.mem_range.2 (past_lt hn (by omega)), hi2⟩) ho
              rw [this] at hno
              cases hno
  · rw [retire_bad hd] at h
    unfold noRes at h
    injection h with _ h
    injection h with _ h
    exact absurd h hd
theorem mapI_mem {f : Nat → List Int → List Int} {t : List (List Int)} {r : List Int} (h : r ∈ mapI f t t.length) : ∃ k, k < t.length ∧ r = f k (t.getD k []) := by
  unfold mapI at h
  obtain ⟨k, hk, rfl⟩ := List.mem_map.1 h
  exact ⟨k, List.mem_range.1 hk, rfl⟩
theorem drop_facts {mk mk' : MK} {t cuts t' : List (List Int)} {d : Int} (h : dropDoor mk t cuts d = ((mk', t'), 0)) : isDesign mk' t' cuts = true := by
  by_cases hd : designCode mk t cuts = 0
  · cases hb : inB d 0 ((doorsOf t : Int) - 1) with
    | false => rw [dropDoor_range hd hb] at h; injection h with _ h; cases h
    | true =>
      have hb2 := inB_iff.1 hb
      obtain ⟨n, rfl⟩ : ∃ n : Nat, d = n := ⟨d.toNat, by omega⟩
      by_cases h1 : doorsOf t = 1
      · rw [dropDoor_one hd hb h1] at h; injection h with _ h; cases h
      · rw [dropDoor_ok hd hb h1, Int.toNat_natCast] at h
        injection h with h _
        injection h with h2 h3
        subst h2; subst h3
        obtain ⟨p1, p2, p3, p4⟩ := design_parts hd
        have ok := sysOk p1
        have hl := ok.len
        have hdo := ok.doors
        have hat : ∀ k, k < t.length → (mapI (fun _ r => delAt n r) t t.length).getD k [] = delAt n (t.getD k []) := fun k hk => mapI_at _ _ hk
        have hdl : ∀ k, k < t.length → (delAt n (t.getD k [])).length = doorsOf t - 1 := fun k hk => by rw [delAt_len (by rw [ok.row k hk]; omega), ok.row k hk]
        have hdg : ∀ k j, k < t.length → j < doorsOf t - 1 → (delAt n (t.getD k [])).getD j 0 = (t.getD k []).getD (past n j) 0 := fun k j hk hj => delAt_get (by rw [ok.row k hk]; omega) (by rw [ok.row k hk]; exact hj)
        have hlen : (mapI (fun _ r => delAt n r) t t.length).length = t.length := mapI_len _ _ _
        have hdo' : doorsOf (mapI (fun _ r => delAt n r) t t.length) = doorsOf t - 1 := by
          show ((mapI (fun _ r => delAt n r) t t.length).getD 0 []).length = _
          rw [hat 0 (by omega), hdl 0 (by omega)]
        generalize hT : mapI (fun _ r => delAt n r) t t.length = T at *
        have hmk : isMaker mk = true := sysMaker p1
        have htab : isTable T = true := by
          refine isTable_of (m := doorsOf t - 1) (by omega) (by omega) (fun r hr => ?_)
          rw [← hT] at hr
          obtain ⟨k, hk, rfl⟩ := mapI_mem hr
          refine ⟨hdl k hk, fun x hx => ?_⟩
          have hx := delAt_mem hx
          obtain ⟨i, hi, rfl⟩ := List.getElem_of_mem hx
          have := ok.bit k i hk (by rw [ok.row k hk] at hi; exact hi)
          have e : (t.getD k []).getD i 0 = (t.getD k [])[i] := by rw [List.getD_eq_getElem?_getD, List.getElem?_eq_getElem hi]; rfl
          rw [e] at this
          exact this
        have hsys : isSystem mk T = true := by
          unfold isSystem
          rw [hmk, htab, hdo', Bool.true_and, Bool.true_and, List.all_eq_true]
          intro j hj
          have hj := List.mem_range.1 hj
          have p1' := p1
          unfold isSystem at p1'
          obtain ⟨-, q2⟩ := Bool.and_eq_true_iff.1 p1'
          obtain ⟨-, q3⟩ := Bool.and_eq_true_iff.1 q2
          have q4 := List.all_eq_true.1 q3 (past n j) (List.mem_range.2 (past_lt (by omega) hj))
          unfold doorOpen at q4 ⊢
          rw [List.any_eq_true] at q4 ⊢
          obtain ⟨r, hr, hb⟩ := q4
          obtain ⟨k, hk, rfl⟩ := List.getElem_of_mem hr
          have e : t.getD k [] = t[k] := by simp [hk]
          rw [← e, ← hdg k j hk hj, ← hat k hk] at hb
          have hkT : k < T.length := by omega
          have e2 : T.getD k [] = T[k] := by simp [hkT]
          rw [e2] at hb
          exact ⟨_, List.getElem_mem hkT, hb⟩
        have hkeys : ∀ j, j < doorsOf t - 1 → keysAt T cuts j cuts.length = keysAt t cuts (past n j) cuts.length := fun j hj => by
          unfold keysAt rowsAt
          congr 1
          refine List.filter_congr (fun k hk => ?_)
          have hk := List.mem_range.1 hk
          rw [hat k (by omega), hdg k j (by omega) hj]
        refine isDesign_of hsys (by omega) p3 ?_
        rw [faults_zero]
        intro k hk j hj
        rw [hdo'] at hj
        have hp := past_lt (n := doorsOf t) (k := n) (by omega) hj
        have hno := (faults_zero.1 p4) k hk (past n j) hp
        unfold faultAt at hno ⊢
        rw [lock_at (by rw [hdo']; exact hj), hkeys j hj, hat k (by omega), hdg k j (by omega) hj]
        rw [lock_at hp] at hno
        exact hno
  · rw [dropDoor_bad hd] at h
    injection h with _ h
    exact absurd h hd
/-- what is told where a door has been added -/
theorem add_facts {mk mk' : MK} {t cuts t' : List (List Int)} {col : List Int} (h : addDoor mk t cuts col = ((mk', t'), 0)) : isDesign mk' t' cuts = true ∧ dropDoor mk' t' cuts (doorsOf t : Int) = ((mk, t), 0) ∧ 0 < t.length := by
  by_cases hd : designCode mk t cuts = 0
  · cases hb : entB t.length col with
    | false => rw [addDoor_range hd hb] at h; injection h with _ h; cases h
    | true =>
      by_cases h12 : doorsOf t = 12
      · rw [addDoor_most hd hb h12] at h; injection h with _ h; cases h
      · cases hde : isDesign mk (addCol t col) cuts with
        | false => rw [addDoor_state hd hb h12 hde] at h; injection h with _ h; cases h
        | true =>
          rw [addDoor_ok hd hb h12 hde] at h
          injection h with h _
          injection h with h2 h3
          subst h2; subst h3
          obtain ⟨p1, p2, p3, p4⟩ := design_parts hd
          have ok := sysOk p1
          have hl := ok.len
          have hdo := ok.doors
          have hat : ∀ k, k < t.length → (addCol t col).getD k [] = t.getD k [] ++ [col.getD k 0] := fun k hk => mapI_at _ _ hk
          have hlen : (addCol t col).length = t.length := mapI_len _ _ _
          have hdo' : doorsOf (addCol t col) = doorsOf t + 1 := by
            show ((addCol t col).getD 0 []).length = _
            rw [hat 0 (by omega), List.length_append, List.length_singleton, ok.row 0 (by omega)]
          refine ⟨hde, ?_, by omega⟩
          rw [dropDoor_ok (designCode_of hde) (inB_iff.2 ⟨by omega, by rw [hdo']; omega⟩) (by omega), Int.toNat_natCast]
          have e : mapI (fun _ r => delAt (doorsOf t) r) (addCol t col) (addCol t col).length = t := by
            refine List.ext_getElem (by rw [mapI_len, hlen]) (fun k g1 g2 => ?_)
            have h1 := mapI_at (fun _ r => delAt (doorsOf t) r) (addCol t col) (n := (addCol t col).length) (k := k) (by omega)
            have e1 : (mapI (fun _ r => delAt (doorsOf t) r) (addCol t col) (addCol t col).length).getD k [] = (mapI (fun _ r => delAt (doorsOf t) r) (addCol t col) (addCol t col).length)[k] := by
              rw [List.getD_eq_getElem?_getD, List.getElem?_eq_getElem g1]; rfl
            rw [← e1, h1, hat k g2]
            have e2 : t.getD k [] = t[k] := by simp [g2]
            have hr := ok.row k g2
            rw [e2] at hr ⊢
            unfold delAt
            rw [List.take_append_of_le_length (by omega), List.take_of_length_le (by omega), List.drop_eq_nil_of_le (by simp; omega), List.append_nil]
          rw [e]
  · rw [addDoor_bad hd] at h
    injection h with _ h
    exact absurd h hd
end Go.Proofs.YthgmojggpjnckaaGreat
