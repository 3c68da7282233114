/- Statement PartCalls, over numbers and lists: both answer alike. -/
import Derived.Test.YtpcacklmelokiaaPureParts
import Derived.Test.YtpcacklmelokiaaPax7
namespace Go.Proofs.Ytpcacklmelokiaa.Pure
open Go.RowKit Go.Proofs.Ytpcacklmelokiaa.Pa Go.Proofs.YtpcacklmelokiaaW.PrintWords Go.Proofs.YtpcacklmelokiaaW.PrintLast Go.Proofs.Ytpcacklmelokiaa.G
set_option linter.unusedVariables false

theorem pCheck_is (d p : Int) : part_Check.f d p = some (partE d p) := by
  unfold part_Check.f partE
  by_cases h1 : d < 1
  · rw [if_pos h1, if_pos (.inl h1)]
  rw [if_neg h1]
  by_cases h2 : d > 1024
  · rw [if_pos h2, if_pos (.inr (.inl h2))]
  rw [if_neg h2]
  by_cases h3 : p < 1
  · rw [if_pos h3, if_pos (.inr (.inr (.inl h3)))]
  rw [if_neg h3, if_neg (by omega), Int.tmod_eq_emod_of_nonneg (by omega)]
  by_cases h4 : d % p = 0
  · rw [if_pos h4, if_neg]
    rintro (h | h | h | h)
    · exact h1 h
    · exact h2 h
    · exact h3 h
    · exact h h4
  · rw [if_neg h4, if_pos (.inr (.inr (.inr h4)))]
theorem rCheck_is (d p : Int) : wayfinderref14_Check.f d p = some (partE d p) := pCheck_is d p
theorem partE_two {d p : Int} (h : partE d p ≠ 0) : partE d p = 2 := by
  unfold partE at *
  split at h
  · rename_i hc
    rw [if_pos hc]
  · exact absurd rfl h
theorem pWidth_is (d p : Int) : part_Width.f d p = some (partW d p) := by
  unfold part_Width.f partW
  rw [pCheck_is]
  simp only [Option.bind_some]
  by_cases h : partE d p = 0
  · have hb : 1 ≤ d ∧ d ≤ 1024 ∧ 1 ≤ p := by
      unfold partE at h
      split at h
      · omega
      · omega
    obtain ⟨h1, h2, h3⟩ := hb
    have q1 : 0 ≤ d / p := Int.ediv_nonneg (by omega) (by omega)
    have q2 : d / p ≤ d := Int.ediv_le_self _ (by omega)
    rw [if_pos h, if_neg (by omega), Int.tdiv_eq_ediv_of_nonneg (by omega), wrap_in (by omega) (by omega), if_neg (fun hn => hn h)]
  · rw [if_neg h, if_pos h]
theorem rWidth_is (d p : Int) : wayfinderref14_Width.f d p = some (partW d p) := pWidth_is d p
/-- When the parts divide: so many, so wide. -/
theorem cut_ok {v : List Int} {p : Int} (h : cutE v p = 0) : ∃ pn wd : Nat, p = (pn : Int) ∧ 1 ≤ pn ∧ 1 ≤ wd ∧ v.length = pn * wd ∧ v.length ≤ 1024 ∧ partW v.length p = (wd : Int) ∧ cutL v p = (List.range pn).map (pieceL v wd) ∧ v.length / pn = wd ∧ v.length % pn = 0 := by
  obtain ⟨pn, wd, rfl, h1, h2, h3, h4, h5, h6⟩ := part_ok (len := v.length) h
  refine ⟨pn, wd, rfl, h1, h2, h3, h4, h5, ?_, h6, by rw [h3]; exact Nat.mul_mod_right _ _⟩
  unfold cutL
  rw [if_pos h, Int.toNat_natCast, h6]
theorem cut_no {v : List Int} {p : Int} (h : cutE v p ≠ 0) : cutL v p = [] ∧ cutE v p = 2 := ⟨by unfold cutL; rw [if_neg h], partE_two h⟩
theorem piece_is {v : List Int} {wd i : Nat} : ([] : List Int) ++ (v.take (i * wd + wd)).drop (i * wd) = pieceL v wd i := by
  rw [List.nil_append]
  unfold pieceL
  rw [List.drop_take]
  congr 1
  omega
theorem rCut_is (v : List Int) (p : Int) : Ev (fun r => wayfinderref14_Cut.f r v p) (cutL v p, cutE v p) := by
  unfold wayfinderref14_Cut.f
  refine Ev.bindc (rWidth_is v.length p) ?_
  by_cases h : cutE v p = 0
  · rw [h]
    obtain ⟨pn, wd, rfl, hp1, hw1, hln, hl2, hWv, hc, hdv, hmod⟩ := cut_ok h
    rw [hWv, hc]
    have hpn : pn ≤ 1024 := by have := Nat.le_mul_of_pos_right pn hw1; omega
    clear h hc hWv hdv hmod
    refine Ev.neg (by omega) ?_
    refine Ev.for_ (l := fun i r => wayfinderref14_Cut.l0 r v (pn : Int) (wd : Int) ((List.range i).map (pieceL v wd)) (i : Int)) (Nat.zero_le pn) (fun i _ hi r => ?_) (fun r => ?_) (Ev.some_ _)
    · have hin : i * wd + wd ≤ v.length := piece_in hln.symm hi
      have hpc := piece_is (v := v) (wd := wd) (i := i)
      have e0 : (i : Int) * (wd : Int) = ((i * wd : Nat) : Int) := by simp
      have hll : ((List.range i).map (pieceL v wd)).length = i := by simp
      have hrs : (List.range (i + 1)).map (pieceL v wd) = (List.range i).map (pieceL v wd) ++ [pieceL v wd i] := by rw [List.range_succ, List.map_append]; rfl
      rw [hrs]
      generalize (List.range i).map (pieceL v wd) = acc at *
      generalize pieceL v wd i = pc at *
      have hlen2 : ((v.take (i * wd + wd)).drop (i * wd)).length ≤ wd := by rw [List.length_drop, List.length_take]; omega
      clear hln hrs
      generalize i * wd = s at *
      have hwd : wd ≤ 1024 := by omega
      simp only [wayfinderref14_Cut.l0]
      rw [if_pos (by omega), e0, wrap_nat (by omega), ← Int.natCast_add, wrap_nat (by omega)]
      simp only [Option.bind_some]
      rw [if_pos (by omega), if_pos (by omega), if_pos (by omega), Int.toNat_natCast, Int.toNat_natCast, if_pos (by simp only [List.length_nil]; omega), if_pos (by omega), hpc, wrap_succ (by omega)]
    · simp only [wayfinderref14_Cut.l0]
      rw [if_neg (by omega)]
  · obtain ⟨h1, h2⟩ := cut_no h
    rw [h1, h2]
    have hw : partW v.length p = 0 := by unfold partW; rw [if_pos (show partE (v.length : Int) p ≠ 0 from h)]
    rw [hw]
    exact Ev.pos rfl (Ev.some_ _)
theorem Own_is (l : List Int) (h : l.length ≤ 1100) : wayfinderkit_Own_int32.f l = some l := by
  unfold wayfinderkit_Own_int32.f
  simp only [Option.bind_some]
  rw [if_pos (by simp only [List.length_nil]; omega)]
  rfl
theorem OwnLists_is (l : List (List Int)) (h : l.length ≤ 60) (hr : ∀ v ∈ l, v.length ≤ 60) : Ev (fun r => wayfinderkit_OwnLists_int32.f r l) l := by
  unfold wayfinderkit_OwnLists_int32.f
  refine Ev.for_ (l := fun i r => wayfinderkit_OwnLists_int32.l0 r l (l.take i) (i : Int)) (g := fun _ => some l) (Nat.zero_le l.length) (fun i _ hi r => ?_) (fun r => ?_) (Ev.some_ _)
  · have hx := hr _ (List.getElem_mem hi)
    simp only [wayfinderkit_OwnLists_int32.l0]
    rw [if_pos (by omega), if_pos (by omega), rd_L1_get hi, Own_is _ (by omega)]
    simp only [Option.bind_some]
    rw [if_pos (by rw [List.length_take]; omega), wrap_succ (by omega), List.take_succ_eq_append_getElem hi]
  · simp only [wayfinderkit_OwnLists_int32.l0]
    rw [if_neg (by omega), List.take_length]
def lightL (l : List (List Int)) : Prop := l.length ≤ 60 ∧ ∀ v ∈ l, v.length ≤ 60
instance (l : List (List Int)) : Decidable (lightL l) := inferInstanceAs (Decidable (_ ∧ _))
theorem Light_is (l : List (List Int)) : Ev (fun r => wayfinderkit_Light_int32.f r l 60 60) (decide (lightL l)) := by
  unfold wayfinderkit_Light_int32.f
  by_cases h1 : (l.length : Int) > 60
  · rw [decide_eq_false (fun h => by have := h.1; omega)]
    exact Ev.pos h1 (Ev.some_ _)
  refine Ev.neg h1 ?_
  by_cases h2 : ∀ v ∈ l, v.length ≤ 60
  · rw [decide_eq_true ⟨by omega, h2⟩]
    refine Ev.for_ (l := fun i r => wayfinderkit_Light_int32.l0 r l 60 (i : Int)) (g := fun _ => some true) (Nat.zero_le l.length) (fun i _ hi r => ?_) (fun r => ?_) (Ev.some_ _)
    · have hx := h2 _ (List.getElem_mem hi)
      simp only [wayfinderkit_Light_int32.l0]
      rw [if_pos (by omega), if_pos (by omega), rd_L1_get hi, if_neg (by omega), wrap_succ (by omega)]
    · simp only [wayfinderkit_Light_int32.l0]
      rw [if_neg (by omega)]
  · rw [decide_eq_false (fun h => h2 h.2)]
    have hex : ∃ i, i < l.length ∧ 60 < (rd_L1 l (i : Int)).length := by
      refine Classical.byContradiction fun hn => h2 fun v hv => ?_
      obtain ⟨i, hi, rfl⟩ := List.mem_iff_getElem.1 hv
      refine Nat.le_of_not_lt fun hlt => hn ⟨i, hi, ?_⟩
      rw [rd_L1_get hi]
      exact hlt
    obtain ⟨n, ⟨hn, hne⟩, hmin⟩ := least hex
    refine Ev.for_ (l := fun i r => wayfinderkit_Light_int32.l0 r l 60 (i : Int)) (g := fun _ => some false) (Nat.zero_le n) (fun i _ hi r => ?_) (fun r => ?_) (Ev.some_ _)
    · have hx : ¬ 60 < (rd_L1 l (i : Int)).length := fun h => hmin i hi ⟨by omega, h⟩
      simp only [wayfinderkit_Light_int32.l0]
      rw [if_pos (by omega), if_pos (by omega), if_neg (by omega), wrap_succ (by omega)]
    · simp only [wayfinderkit_Light_int32.l0]
      rw [if_pos (by omega), if_pos (by omega), if_pos (by omega)]

theorem flat_same : ∀ (l : List (List Int)) (m : Nat), (∀ v ∈ l, v.length = m) → l.flatten.length = l.length * m
  | [], m, _ => by simp
  | v :: l, m, h => by
    rw [List.flatten_cons, List.length_append, flat_same l m (fun x hx => h x (List.mem_cons_of_mem _ hx)), h v List.mem_cons_self, List.length_cons, Nat.add_mul, Nat.one_mul, Nat.add_comm]
theorem flat_lim : ∀ (l : List (List Int)), (∀ v ∈ l, v.length ≤ 60) → l.flatten.length ≤ l.length * 60
  | [], _ => by simp
  | v :: l, h => by
    have h1 := flat_lim l (fun x hx => h x (List.mem_cons_of_mem _ hx))
    have h2 := h v List.mem_cons_self
    rw [List.flatten_cons, List.length_append, List.length_cons, Nat.add_mul, Nat.one_mul]
    omega
theorem getD_zero {l : List (List Int)} (h : 0 < l.length) : l.getD 0 [] = l[0] := by simp [h]
theorem differs {l : List (List Int)} (h : ¬ ∀ v ∈ l, v.length = (l.getD 0 []).length) : ∃ n, (n < l.length ∧ (rd_L1 l (n : Int)).length ≠ (l.getD 0 []).length) ∧ ∀ i, i < n → ¬ (i < l.length ∧ (rd_L1 l (i : Int)).length ≠ (l.getD 0 []).length) := by
  refine least (Classical.byContradiction fun hn => h fun v hv => ?_)
  obtain ⟨i, hi, rfl⟩ := List.mem_iff_getElem.1 hv
  refine Classical.byContradiction fun hne => hn ⟨i, hi, ?_⟩
  rw [rd_L1_get hi]
  exact hne
theorem rd_zero {l : List (List Int)} : rd_L1 l 0 = l.getD 0 [] := by simp [rd_L1]
theorem rJoin_is (l : List (List Int)) (h : lightL l) : Ev (fun r => wayfinderref14_Join.f r l) (if joinOk l then l.flatten else [], if joinOk l then 0 else 2) := by
  obtain ⟨h60, hr⟩ := h
  unfold wayfinderref14_Join.f
  by_cases hs : ∀ v ∈ l, v.length = (l.getD 0 []).length
  · have hfl := flat_same l _ hs
    refine Ev.for_ (l := fun i r => wayfinderref14_Join.l0 r l (l.take i).flatten (i : Int)) (g := fun _ => if (l.flatten.length : Int) < 1 then some ([], 2) else if (l.flatten.length : Int) > 1024 then some ([], 2) else some (l.flatten, 0)) (Nat.zero_le l.length) (fun i _ hi r => ?_) (fun r => ?_) ?_
    · have hx := hs _ (List.getElem_mem hi)
      have hy := hr _ (List.getElem_mem hi)
      have hz := flat_lim (l.take i) (fun v hv => hr v (List.mem_of_mem_take hv))
      rw [List.length_take] at hz
      have hk : min i l.length * 60 ≤ 3600 := Nat.mul_le_mul_right 60 (show min i l.length ≤ 60 by omega)
      simp only [wayfinderref14_Join.l0]
      rw [if_pos (by omega), if_pos (by omega), if_pos (by omega), rd_zero, rd_L1_get hi, if_pos (by rw [hx]), if_pos (by omega), wrap_succ (by omega), List.take_succ_eq_append_getElem hi, List.flatten_append]
      simp
    · simp only [wayfinderref14_Join.l0]
      rw [if_neg (by omega), List.take_length]
    · have hq : joinOk l ↔ 1 ≤ l.flatten.length ∧ l.flatten.length ≤ 1024 := by
        unfold joinOk
        rw [hfl]
        constructor
        · rintro ⟨a, b, c, d, _⟩
          exact ⟨Nat.mul_pos a b, d⟩
        · rintro ⟨a, b⟩
          have h1 : 0 < l.length := Nat.pos_of_ne_zero fun e => by rw [e] at a; omega
          have h2 : 0 < (l.getD 0 []).length := Nat.pos_of_ne_zero fun e => by rw [e] at a; omega
          exact ⟨h1, h2, by omega, b, hs⟩
      by_cases a : (l.flatten.length : Int) < 1
      · rw [if_pos a, if_neg (fun h => by have := hq.1 h; omega), if_neg (fun h => by have := hq.1 h; omega)]
        exact Ev.some_ _
      · by_cases b : (l.flatten.length : Int) > 1024
        · rw [if_neg a, if_pos b, if_neg (fun h => by have := hq.1 h; omega), if_neg (fun h => by have := hq.1 h; omega)]
          exact Ev.some_ _
        · have hj : joinOk l := hq.2 ⟨by omega, by omega⟩
          rw [if_neg a, if_neg b, if_pos hj, if_pos hj]
          exact Ev.some_ _
  · have hj : ¬ joinOk l := fun h => hs h.2.2.2.2
    rw [if_neg hj, if_neg hj]
    obtain ⟨n, ⟨hn, hne⟩, hmin⟩ := differs hs
    refine Ev.for_ (l := fun i r => wayfinderref14_Join.l0 r l (l.take i).flatten (i : Int)) (g := fun _ => some ([], 2)) (Nat.zero_le n) (fun i _ hi r => ?_) (fun r => ?_) (Ev.some_ _)
    · have hil : i < l.length := by omega
      have hx : (rd_L1 l (i : Int)).length = (l.getD 0 []).length := Classical.byContradiction fun h => hmin i hi ⟨hil, h⟩
      have hy := hr _ (List.getElem_mem hil)
      have hz := flat_lim (l.take i) (fun v hv => hr v (List.mem_of_mem_take hv))
      rw [List.length_take] at hz
      have hk : min i l.length * 60 ≤ 3600 := Nat.mul_le_mul_right 60 (show min i l.length ≤ 60 by omega)
      rw [rd_L1_get hil] at hx
      simp only [wayfinderref14_Join.l0]
      rw [if_pos (by omega), if_pos (by omega), if_pos (by omega), rd_zero, rd_L1_get hil, if_pos (by rw [hx]), if_pos (by omega), wrap_succ (by omega), List.take_succ_eq_append_getElem hil, List.flatten_append]
      simp
    · simp only [wayfinderref14_Join.l0]
      rw [if_pos (by omega), if_pos (by omega), if_pos (by omega), rd_zero, if_neg (fun h => hne (Int.ofNat_inj.1 h))]

/-- A row that stops Column. -/
def colBad (l : List (List Int)) (p : Int) (i : Nat) : Prop := i < l.length ∧ (cutE (rd_L1 l (i : Int)) p ≠ 0 ∨ (rd_L1 l (i : Int)).length ≠ (l.getD 0 []).length)
theorem colE_ok {l : List (List Int)} {p n : Int} (h : lightL l) (hn : ¬ n < 0) (hp : ¬ n ≥ p) (hb : ∀ i, ¬ colBad l p i) : colE l p n = 0 := by
  unfold colE
  rw [if_neg (by omega)]
  by_cases h0 : l.length = 0
  · rw [if_pos h0]
  rw [if_neg h0, if_neg]
  rintro (h1 | h1)
  · refine hb 0 ⟨by omega, .inl ?_⟩
    rw [show ((0 : Nat) : Int) = 0 from rfl, rd_zero]
    exact h1
  · obtain ⟨i, ⟨hi, hne⟩, _⟩ := differs h1
    exact hb i ⟨hi, .inr hne⟩
theorem colE_no {l : List (List Int)} {p n : Int} {i : Nat} (hn : ¬ n < 0) (hp : ¬ n ≥ p) (hb : colBad l p i) : colE l p n = 2 := by
  obtain ⟨hi, hb⟩ := hb
  unfold colE
  rw [if_neg (by omega), if_neg (by omega), if_pos]
  by_cases hs : ∀ v ∈ l, v.length = (l.getD 0 []).length
  · left
    have hx : (rd_L1 l (i : Int)).length = (l.getD 0 []).length := by rw [rd_L1_get hi]; exact hs _ (List.getElem_mem hi)
    rcases hb with hb | hb
    · unfold cutE at hb
      rw [hx] at hb
      exact hb
    · exact absurd hx hb
  · exact .inr hs
theorem rColumn_is (l : List (List Int)) (p n : Int) (h : lightL l) : Ev (fun r => wayfinderref14_Column.f r l p n) (colL l p n, colE l p n) := by
  unfold wayfinderref14_Column.f
  by_cases h1 : n < 0
  · have e1 : colE l p n = 2 := by unfold colE; rw [if_pos (.inl h1)]
    have e2 : colL l p n = [] := by unfold colL; rw [if_neg (by rw [e1]; decide)]
    rw [e1, e2]
    exact Ev.pos h1 (Ev.step (f := fun _ => some ([], 2)) (fun r => by simp only [wayfinderref14_Column.j0]; rw [if_pos trivial]) (Ev.some_ _))
  refine Ev.neg h1 ?_
  by_cases h2 : n ≥ p
  · have e1 : colE l p n = 2 := by unfold colE; rw [if_pos (.inr h2)]
    have e2 : colL l p n = [] := by unfold colL; rw [if_neg (by rw [e1]; decide)]
    rw [e1, e2, decide_eq_true h2]
    exact Ev.step (f := fun _ => some ([], 2)) (fun r => by simp only [wayfinderref14_Column.j0]; rw [if_pos trivial]) (Ev.some_ _)
  rw [decide_eq_false h2]
  refine Ev.step (f := fun r => wayfinderref14_Column.l0 r l p n [] 0) (fun r => by simp only [wayfinderref14_Column.j0]; rw [if_neg (by simp)]) ?_
  obtain ⟨h60, hr⟩ := h
  obtain ⟨k, rfl⟩ : ∃ k : Nat, n = (k : Int) := ⟨n.toNat, by omega⟩
  -- what a good round does
  have hgood : ∀ i, i < l.length → ¬ colBad l p i → ∀ (acc : List (List Int)) (q : List (List Int) × Int), acc.length ≤ 60 → Ev (fun r => wayfinderref14_Column.l0 r l p (k : Int) (acc ++ [pieceL (rd_L1 l (i : Int)) ((l.getD 0 []).length / p.toNat) k]) ((i + 1 : Nat) : Int)) q → Ev (fun r => wayfinderref14_Column.l0 r l p (k : Int) acc (i : Int)) q := by
    intro i hi hb acc q hacc hq
    have hc0 : cutE (rd_L1 l (i : Int)) p = 0 := Classical.byContradiction fun h => hb ⟨hi, .inl h⟩
    have hx : (rd_L1 l (i : Int)).length = (l.getD 0 []).length := Classical.byContradiction fun h => hb ⟨hi, .inr h⟩
    obtain ⟨pn, wd, hpn, hp1, hw1, hln, hl2, hWv, hc, hdv, hmod⟩ := cut_ok hc0
    subst hpn
    have hkp : k < pn := by omega
    have hcl : (cutL (rd_L1 l (i : Int)) (pn : Int)).length = pn := by rw [hc]; simp
    have hpc : rd_L1 (cutL (rd_L1 l (i : Int)) (pn : Int)) (k : Int) = pieceL (rd_L1 l (i : Int)) ((l.getD 0 []).length / ((pn : Int)).toNat) k := by
      rw [rd_L1_get (by omega), Int.toNat_natCast, ← hx, hdv]
      simp [hc]
    refine Ev.step (f := fun r => (wayfinderref14_Cut.f r (rd_L1 l (i : Int)) (pn : Int)).bind fun bt339 => (if bt339.2 = 0 then (if 0 < (l.length : Int) then (if ((rd_L1 l (i : Int)).length : Int) = ((rd_L1 l 0).length : Int) then (if 0 ≤ (k : Int) then (if (k : Int) < (bt339.1.length : Int) then (if acc.length < 5864062014805 then (wayfinderref14_Column.l0 r l (pn : Int) (k : Int) (acc ++ [rd_L1 bt339.1 (k : Int)]) (wrap64 ((i : Int) + 1))) else (none)) else (none)) else (none)) else (some (([] : List (List Int)), 2))) else (none)) else (some (([] : List (List Int)), 2)))) (fun r => by
      simp only [wayfinderref14_Column.l0]
      rw [if_pos (by omega), if_pos (by omega)]) ?_
    refine Ev.bind (rCut_is _ _) (Ev.pos hc0 (Ev.pos (by omega) (Ev.pos (by rw [rd_zero, hx]) (Ev.pos (by omega) (Ev.pos (by simp only []; omega) (Ev.pos (by omega) ?_))))))
    simp only []
    rw [hpc, wrap_succ (by omega)]
    exact hq
  by_cases hb : ∃ i, colBad l p i
  · obtain ⟨m, hm, hmin⟩ := least hb
    have e1 := colE_no h1 h2 hm
    have e2 : colL l p (k : Int) = [] := by unfold colL; rw [if_neg (by rw [e1]; decide)]
    rw [e1, e2]
    obtain ⟨hml, hm⟩ := hm
    refine Ev.forE (l := fun i r => wayfinderref14_Column.l0 r l p (k : Int) ((List.range i).map fun j => pieceL (rd_L1 l ((j : Nat) : Int)) ((l.getD 0 []).length / p.toNat) k) (i : Int)) (Nat.zero_le m) (fun i _ hi hnext => ?_) ?_
    · refine hgood i (by omega) (hmin i hi) _ _ (by rw [List.length_map, List.length_range]; omega) ?_
      rw [List.range_succ, List.map_append] at hnext
      exact hnext
    · generalize (List.range m).map _ = acc
      refine Ev.step (f := fun r => (wayfinderref14_Cut.f r (rd_L1 l (m : Int)) p).bind fun bt339 => (if bt339.2 = 0 then (if 0 < (l.length : Int) then (if ((rd_L1 l (m : Int)).length : Int) = ((rd_L1 l 0).length : Int) then (if 0 ≤ (k : Int) then (if (k : Int) < (bt339.1.length : Int) then (if acc.length < 5864062014805 then (wayfinderref14_Column.l0 r l p (k : Int) (acc ++ [rd_L1 bt339.1 (k : Int)]) (wrap64 ((m : Int) + 1))) else (none)) else (none)) else (none)) else (some (([] : List (List Int)), 2))) else (none)) else (some (([] : List (List Int)), 2)))) (fun r => by
        simp only [wayfinderref14_Column.l0]
        rw [if_pos (by omega), if_pos (by omega)]) ?_
      refine Ev.bind (rCut_is _ _) ?_
      by_cases hc : cutE (rd_L1 l (m : Int)) p = 0
      · refine Ev.pos hc (Ev.pos (by omega) (Ev.neg (fun h => ?_) (Ev.some_ _)))
        rw [rd_zero] at h
        rcases hm with hm | hm
        · exact hm hc
        · exact hm (Int.ofNat_inj.1 h)
      · exact Ev.neg hc (Ev.some_ _)
  · have hno : ∀ i, ¬ colBad l p i := fun i hi => hb ⟨i, hi⟩
    have e1 := colE_ok ⟨h60, hr⟩ h1 h2 hno
    have e2 : colL l p (k : Int) = (List.range l.length).map fun j => pieceL (rd_L1 l ((j : Nat) : Int)) ((l.getD 0 []).length / p.toNat) k := by
      unfold colL
      rw [if_pos e1, Int.toNat_natCast]
      apply List.ext_getElem
      · simp
      · intro i a b
        have hi : i < l.length := by simpa using a
        simp only [List.getElem_map, List.getElem_range]
        rw [rd_L1_get hi]
    rw [e1, e2]
    refine Ev.forE (l := fun i r => wayfinderref14_Column.l0 r l p (k : Int) ((List.range i).map fun j => pieceL (rd_L1 l ((j : Nat) : Int)) ((l.getD 0 []).length / p.toNat) k) (i : Int)) (Nat.zero_le l.length) (fun i _ hi hnext => ?_) ?_
    · refine hgood i hi (hno i) _ _ (by rw [List.length_map, List.length_range]; omega) ?_
      rw [List.range_succ, List.map_append] at hnext
      exact hnext
    · exact Ev.step (f := fun _ => some _) (fun r => by simp only [wayfinderref14_Column.l0]; rw [if_neg (by omega)]) (Ev.some_ _)

/-- What both tell of the distances. -/
def distsV (a b : List Int) (p : Int) : List Int × Int := if pairE a b = 0 then (if cutE a p = 0 then ((List.range p.toNat).map (fun i => sqd (pieceL a (a.length / p.toNat) i) (pieceL b (a.length / p.toNat) i)), 0) else ([], cutE a p)) else ([], pairE a b)
theorem pDists_is (a b : List Int) (p : Int) : Ev (fun r => part_Dist.f r a b p) (distsV a b p) := by
  unfold distsV
  by_cases h1 : pairE a b = 0
  · rw [if_pos h1]
    by_cases h2 : cutE a p = 0
    · rw [if_pos h2]
      obtain ⟨pn, wd, rfl, hp1, hw1, hln, hl2, hWv, hc, hdv, hmod⟩ := cut_ok h2
      have := pDist_is (a := a) (b := b) (n := a.length) (k := pn) rfl (by have := Nat.mul_pos hp1 hw1; omega) hl2 hp1 hmod
      rw [if_pos h1] at this
      exact this
    · rw [if_neg h2]
      unfold part_Dist.f
      have hv := vDist_is a b
      rw [if_pos h1] at hv
      exact Ev.bind hv (Ev.pos rfl (Ev.bindc (a := (cutL a p, cutE a p)) rfl (Ev.neg h2 (Ev.some_ _))))
  · rw [if_neg h1]
    unfold part_Dist.f
    have hv := vDist_is a b
    rw [if_neg h1] at hv
    exact Ev.bind hv (Ev.neg h1 (Ev.some_ _))
theorem rDists_is (a b : List Int) (p : Int) (ha : a.length ≤ 1100) (hb : b.length ≤ 1100) : Ev (fun r => wayfinderref14_Dist.f r a b p) (distsV a b p) := by
  unfold distsV wayfinderref14_Dist.f
  refine Ev.bind (rDist_is a b (by omega) (by omega)) ?_
  by_cases h1 : pairE a b = 0
  · rw [if_pos h1, if_pos h1]
    refine Ev.pos rfl (Ev.bindc (rCheck_is _ _) ?_)
    by_cases h2 : cutE a p = 0
    · rw [if_pos h2]
      have h2' : partE (a.length : Int) p = 0 := h2
      rw [h2']
      obtain ⟨pn, wd, rfl, hp1, hw1, hln, hl2, hWv, hc, hdv, hmod⟩ := cut_ok h2
      obtain ⟨p1, p2, p3⟩ := pairE_ok h1
      obtain ⟨a1, a2, a3⟩ := checkWide_ok p1
      obtain ⟨b1, b2, b3⟩ := checkWide_ok p2
      have hcb : cutE b (pn : Int) = 0 := by unfold cutE at *; rw [← p3]; exact h2
      obtain ⟨pn', wd', hpe, _, _, hlnb, _, _, hcb2, hdvb, _⟩ := cut_ok hcb
      obtain rfl : pn' = pn := by omega
      have hww : wd' = wd := by rw [← hdv, ← hdvb, p3]
      subst hww
      rw [Int.toNat_natCast, hdv]
      have hpn : pn' ≤ 1024 := by have := Nat.le_mul_of_pos_right pn' hw1; omega
      refine Ev.step (f := fun r => (wayfinderref14_Cut.f r a (pn' : Int)).bind fun bt352 => ((wayfinderref14_Cut.f r b (pn' : Int)).bind fun bt356 => (wayfinderref14_Dist.l0 r (pn' : Int) bt352.1 bt356.1 ([] : List Int) 0))) (fun r => by simp only [wayfinderref14_Dist.j0]; rw [if_pos trivial]) ?_
      refine Ev.bind (rCut_is a (pn' : Int)) (Ev.bind (rCut_is b (pn' : Int)) ?_)
      simp only []
      rw [hc, hcb2]
      have hlen : ((List.range pn').map (pieceL a wd')).length = pn' := by simp
      have hlen2 : ((List.range pn').map (pieceL b wd')).length = pn' := by simp
      refine Ev.forE (l := fun i r => wayfinderref14_Dist.l0 r (pn' : Int) ((List.range pn').map (pieceL a wd')) ((List.range pn').map (pieceL b wd')) ((List.range i).map (fun i => sqd (pieceL a wd' i) (pieceL b wd' i))) (i : Int)) (Nat.zero_le pn') (fun i _ hi hnext => ?_) ?_
      · have hin := piece_in hln.symm hi
        have q1 : ∀ x ∈ pieceL a wd' i, -131072 ≤ x ∧ x ≤ 131072 := fun x hx => a3 x (List.mem_of_mem_drop (List.mem_of_mem_take hx))
        have q2 : ∀ x ∈ pieceL b wd' i, -131072 ≤ x ∧ x ≤ 131072 := fun x hx => b3 x (List.mem_of_mem_drop (List.mem_of_mem_take hx))
        have l1 := piece_length (a := a) (w := wd') (p := i) (by omega)
        have l2 := piece_length (a := b) (w := wd') (p := i) (by omega)
        have hE : pairE (pieceL a wd' i) (pieceL b wd' i) = 0 := by
          unfold pairE
          rw [checkWide_of (by omega) (by omega) q1, checkWide_of (by omega) (by omega) q2]
          simp [l1, l2]
        have hv := rDist_is (pieceL a wd' i) (pieceL b wd' i) (by omega) (by omega)
        rw [if_pos hE] at hv
        have e1 : rd_L1 ((List.range pn').map (pieceL a wd')) (i : Int) = pieceL a wd' i := by rw [rd_L1_get (by omega)]; simp
        have e2 : rd_L1 ((List.range pn').map (pieceL b wd')) (i : Int) = pieceL b wd' i := by rw [rd_L1_get (by omega)]; simp
        refine Ev.step (f := fun r => (wayfinderref03_Dist.f r (pieceL a wd' i) (pieceL b wd' i)).bind fun bt362 => (if ((List.range i).map (fun i => sqd (pieceL a wd' i) (pieceL b wd' i))).length < 17592186044416 then (wayfinderref14_Dist.l0 r (pn' : Int) ((List.range pn').map (pieceL a wd')) ((List.range pn').map (pieceL b wd')) ((List.range i).map (fun i => sqd (pieceL a wd' i) (pieceL b wd' i)) ++ [bt362.1]) (wrap64 ((i : Int) + 1))) else (none))) (fun r => by
          simp only [wayfinderref14_Dist.l0]
          rw [if_pos (by omega), if_pos (by omega), if_pos (by omega), if_pos (by omega), e1, e2]) ?_
        refine Ev.bind hv (Ev.pos (by rw [List.length_map, List.length_range]; omega) ?_)
        rw [wrap_succ (by omega)]
        rw [List.range_succ, List.map_append] at hnext
        exact hnext
      · exact Ev.step (f := fun _ => some _) (fun r => by simp only [wayfinderref14_Dist.l0]; rw [if_neg (by omega)]) (Ev.some_ _)
    · rw [if_neg h2]
      have h2' : ¬ partE (a.length : Int) p = 0 := h2
      exact Ev.step (f := fun _ => some ([], cutE a p)) (fun r => by simp only [wayfinderref14_Dist.j0]; rw [if_neg h2']; rfl) (Ev.some_ _)
  · rw [if_neg h1, if_neg h1]
    refine Ev.neg h1 ?_
    exact Ev.step (f := fun _ => some ([], pairE a b)) (fun r => by simp only [wayfinderref14_Dist.j0]; rw [if_neg h1]) (Ev.some_ _)

theorem distsV_length (a b : List Int) (p : Int) (ha : a.length ≤ 1100) : (distsV a b p).1.length ≤ 1100 := by
  unfold distsV
  split
  · split
    · rename_i h
      obtain ⟨pn, wd, rfl, hp1, hw1, hln, hl2, hWv, hc, hdv, hmod⟩ := cut_ok h
      have := Nat.le_mul_of_pos_right pn hw1
      simp
      omega
    · simp
  · simp
theorem cutL_lim (v : List Int) (p : Int) : (cutL v p).length ≤ 1024 ∧ ∀ x ∈ cutL v p, x.length ≤ v.length := by
  by_cases h : cutE v p = 0
  · obtain ⟨pn, wd, rfl, hp1, hw1, hln, hl2, hWv, hc, hdv, hmod⟩ := cut_ok h
    have := Nat.le_mul_of_pos_right pn hw1
    rw [hc]
    refine ⟨by simp; omega, fun x hx => ?_⟩
    obtain ⟨i, _, rfl⟩ := List.mem_map.1 hx
    simp [pieceL]
    omega
  · rw [(cut_no h).1]
    exact ⟨by simp, fun x hx => by simp at hx⟩
theorem colL_lim (l : List (List Int)) (p n : Int) (h : lightL l) : (colL l p n).length ≤ 60 ∧ ∀ x ∈ colL l p n, x.length ≤ 60 := by
  unfold colL
  split
  · refine ⟨by simpa using h.1, fun x hx => ?_⟩
    obtain ⟨v, hv, rfl⟩ := List.mem_map.1 hx
    have := h.2 v hv
    simp [pieceL]
    omega
  · exact ⟨by simp, fun x hx => by simp at hx⟩
theorem join_lim (l : List (List Int)) (h : lightL l) : (if joinOk l then l.flatten else []).length ≤ 3600 := by
  have h1 := flat_lim l h.2
  have h2 := Nat.mul_le_mul_right 60 h.1
  split
  · omega
  · simp
theorem PartCalls (l0 l1 : List Int) (l2 : List (List Int)) (a3 a4 : Int) : ∃ k, wayfinderlaw14_PartCalls.f k l0 l1 l2 a3 a4 = some true := by
  refine Ev.rounds ?_
  have hs : Ev (fun r => wayfinderlaw14_PartCalls.j0 r l0 l1 l2 a3 a4 true) true := Ev.step (f := fun _ => some true) (fun r => by simp only [wayfinderlaw14_PartCalls.j0]; rw [if_pos trivial]) (Ev.some_ _)
  unfold wayfinderlaw14_PartCalls.f
  refine Ev.bind lives_is (Ev.pos rfl ?_)
  by_cases h1 : (l0.length : Int) > 1100
  · exact Ev.pos h1 hs
  refine Ev.neg h1 ?_
  by_cases h2 : (l1.length : Int) > 1100
  · exact Ev.pos h2 hs
  refine Ev.neg h2 (Ev.bind (Light_is l2) ?_)
  by_cases h3 : lightL l2
  · rw [decide_eq_true h3]
    have hj : part_Join.f l2 = some (if joinOk l2 then l2.flatten else [], if joinOk l2 then 0 else 2) := by
      unfold part_Join.f
      rw [if_pos (fun v hv => by have := h3.2 v hv; omega)]
    have hk : part_Column.f l2 a3 a4 = some (colL l2 a3 a4, colE l2 a3 a4) := by
      unfold part_Column.f
      rw [if_pos (by have := h3.1; omega)]
    obtain ⟨c1, c2⟩ := cutL_lim l0 a3
    obtain ⟨k1, k2⟩ := colL_lim l2 a3 a4 h3
    have j1 := join_lim l2 h3
    have d1 := distsV_length l0 l1 a3 (by omega)
    refine Ev.step (fun r => by simp only [wayfinderlaw14_PartCalls.j0]; rw [if_neg (by simp)]) ?_
    refine Ev.bindc (Own_is l0 (by omega)) (Ev.bindc (a := (cutL l0 a3, cutE l0 a3)) rfl (Ev.bind (rCut_is l0 a3) (Ev.bind (OwnLists_is l2 h3.1 h3.2) (Ev.bindc hj (Ev.bind (rJoin_is l2 h3) (Ev.bindc hk (Ev.bind (rColumn_is l2 a3 a4 h3) (Ev.bind (pDists_is l0 l1 a3) (Ev.bind (rDists_is l0 l1 a3 (by omega) (by omega)) ?_)))))))))
    refine Ev.bind (Lists_int32_self _ (by simp only []; omega) (fun v hv => by have := c2 v hv; omega)) (Ev.pos rfl (Ev.pos rfl ?_))
    refine Ev.bind (Same_int32_self _ (by simp only []; omega)) (Ev.pos rfl (Ev.pos rfl ?_))
    refine Ev.bind (Lists_int32_self _ (by simp only []; omega) (fun v hv => by have := k2 v hv; omega)) (Ev.pos rfl (Ev.pos rfl ?_))
    refine Ev.bind (Same_int64_self _ (by omega)) (Ev.pos rfl (Ev.pos rfl ?_))
    exact Ev.bindc (pCheck_is _ _) (Ev.bindc (rCheck_is _ _) (Ev.pos rfl (Ev.bindc (pCheck_is _ _) (Ev.bindc (rCheck_is _ _) (Ev.pos rfl (Ev.bindc (pWidth_is _ _) (Ev.bindc (rWidth_is _ _) (Ev.const (by simp)))))))))
  · rw [decide_eq_false h3]
    exact hs

end Go.Proofs.Ytpcacklmelokiaa.Pure
