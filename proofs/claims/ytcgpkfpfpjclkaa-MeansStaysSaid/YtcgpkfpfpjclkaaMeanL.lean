/- The law's own functions, plainly: light, cost, lives. -/
import Derived.Test.YtcgpkfpfpjclkaaMeanW
import Derived.Test.YtcgpkfpfpjclkaaMnx1
namespace Go.Proofs.Ytcgpkfpfpjclkaa.Mm
open Go.RowKit Go.Proofs.YtcgpkfpfpjclkaaW.PrintWords Go.Proofs.YtcgpkfpfpjclkaaW.PrintLast Go.Proofs.Ytcgpkfpfpjclkaa.G
set_option linter.unusedVariables false
theorem evShift {α : Type} {f g : Nat → Option α} {r : α} (hm : ∀ k, f (k + 1) = g k) (h : Ev g r) : Ev f r := Ev.step hm h
/-- Few rows, short ones. -/
def lightL (l : List (List Int)) : Bool := decide (l.length ≤ 60) && (List.range l.length).all (fun i => decide ((l.getD i []).length ≤ 20))
theorem lightL_len {l : List (List Int)} (h : lightL l = true) : l.length ≤ 60 ∧ ∀ i, i < l.length → (l.getD i []).length ≤ 20 := by
  unfold lightL at h
  simp only [Bool.and_eq_true, decide_eq_true_eq, List.all_eq_true, List.mem_range] at h
  exact h
theorem Light_is (l : List (List Int)) (hl : l.length ≤ 9223372036854775807) : Ev (fun k => wayfinderkit_Light_int32.f k l 60 20) (lightL l) := by
  unfold wayfinderkit_Light_int32.f
  by_cases h1 : l.length ≤ 60
  · refine Ev.neg (by omega) ?_
    have hend : Ev (fun k => wayfinderkit_Light_int32.l0 k l 20 (l.length : Int)) true := evShift (g := fun _ => some true) (fun k => by simp only [wayfinderkit_Light_int32.l0]; rw [if_neg (by omega)]) (Ev.some_ _)
    by_cases h2 : ∀ i, i < l.length → (l.getD i []).length ≤ 20
    · have e : lightL l = true := by
        unfold lightL
        simp only [Bool.and_eq_true, decide_eq_true_eq, List.all_eq_true, List.mem_range]
        exact ⟨h1, h2⟩
      rw [e]
      refine Ev.forE (l := fun i k => wayfinderkit_Light_int32.l0 k l 20 (i : Int)) (n := l.length) (Nat.zero_le _) (fun i _ hi h => ?_) hend
      have := h2 i hi
      exact evShift (fun k => by simp only [wayfinderkit_Light_int32.l0]; rw [if_pos (by omega), if_pos (by omega), rdL, if_neg (by omega), wrap_succ (by omega)]) h
    · have e : lightL l = false := by
        cases hq : lightL l with
        | false => rfl
        | true => exact absurd (lightL_len hq).2 h2
      rw [e]
      have hex : ∃ i, i < l.length ∧ ¬ (l.getD i []).length ≤ 20 := by
        refine Classical.byContradiction fun hn => h2 (fun i hi => ?_)
        refine Classical.byContradiction fun hb => hn ⟨i, hi, hb⟩
      obtain ⟨i0, ⟨a1, a2⟩, hmin⟩ := least (p := fun i => i < l.length ∧ ¬ (l.getD i []).length ≤ 20) hex
      refine Ev.forE (l := fun i k => wayfinderkit_Light_int32.l0 k l 20 (i : Int)) (n := i0) (Nat.zero_le _) (fun i _ hi h => ?_) ?_
      · have hs : (l.getD i []).length ≤ 20 := Classical.byContradiction fun hb => hmin i hi ⟨by omega, hb⟩
        exact evShift (fun k => by simp only [wayfinderkit_Light_int32.l0]; rw [if_pos (by omega), if_pos (by omega), rdL, if_neg (by omega), wrap_succ (by omega)]) h
      · exact evShift (g := fun _ => some false) (fun k => by simp only [wayfinderkit_Light_int32.l0]; rw [if_pos (by omega), if_pos (by omega), rdL, if_pos (by omega)]) (Ev.some_ _)
  · have e : lightL l = false := by
      cases hq : lightL l with
      | false => rfl
      | true => exact absurd (lightL_len hq).1 h1
    rw [e]
    exact Ev.pos (by omega) (Ev.some_ _)
theorem light_is (P C : List (List Int)) (hP : P.length ≤ 9223372036854775807) (hC : C.length ≤ 9223372036854775807) : Ev (fun k => wayfinderlaw12_light.f k P C) (lightL P && lightL C) := by
  unfold wayfinderlaw12_light.f
  refine Ev.bind (Light_is P hP) ?_
  cases h : lightL P
  · exact Ev.neg (by simp) (Ev.some_ _)
  · exact Ev.pos rfl (Ev.bind (Light_is C hC) (Ev.some_ _))
theorem rCheckWide_is (l : List Int) (hl : l.length ≤ 1000000) : Ev (fun k => wayfinderref03_CheckWide.f k l) (checkWide l) := by
  unfold wayfinderref03_CheckWide.f checkWide
  by_cases h1 : l.length < 1
  · rw [if_pos (Or.inl h1)]
    exact Ev.pos (by omega) (evShift (g := fun _ => some 2) (fun k => by simp only [wayfinderref03_CheckWide.j0]; rw [if_pos trivial]) (Ev.some_ _))
  refine Ev.neg (by omega) ?_
  by_cases h2 : l.length > 1024
  · rw [if_pos (Or.inr h2)]
    exact evShift (g := fun _ => some 2) (fun k => by simp only [wayfinderref03_CheckWide.j0]; rw [if_pos (by simp; omega)]) (Ev.some_ _)
  rw [if_neg (by omega)]
  refine evShift (fun k => by simp only [wayfinderref03_CheckWide.j0]; rw [if_neg (by simp; omega)]) ?_
  have step : ∀ i, i < l.length → ¬ beyond (l.getD i 0) = true → ∀ k, wayfinderref03_CheckWide.l0 (k + 1) l (i : Int) = wayfinderref03_CheckWide.l0 k l ((i + 1 : Nat) : Int) := fun i hi hb k => by
    unfold beyond at hb
    simp only [Bool.or_eq_true, decide_eq_true_eq] at hb
    simp only [wayfinderref03_CheckWide.l0]
    rw [if_pos (by omega), if_pos (by omega), rd_nat, if_neg (by omega), if_neg (by omega), wrap_succ (by omega)]
  by_cases hex : ∃ i, i < l.length ∧ beyond (l.getD i 0) = true
  · have e : l.any beyond = true := by
      obtain ⟨i, hi, hb⟩ := hex
      rw [List.getD_eq_getElem?_getD, List.getElem?_eq_getElem hi] at hb
      exact List.any_eq_true.2 ⟨_, List.getElem_mem hi, hb⟩
    rw [if_pos e]
    obtain ⟨i0, ⟨a1, a2⟩, hmin⟩ := least (p := fun i => i < l.length ∧ beyond (l.getD i 0) = true) hex
    refine Ev.forE (l := fun i k => wayfinderref03_CheckWide.l0 k l (i : Int)) (n := i0) (Nat.zero_le _) (fun i _ hi h => evShift (step i (by omega) (fun hb => hmin i hi ⟨by omega, hb⟩)) h) ?_
    refine evShift (g := fun _ => some 11) (fun k => ?_) (Ev.some_ _)
    unfold beyond at a2
    simp only [Bool.or_eq_true, decide_eq_true_eq] at a2
    simp only [wayfinderref03_CheckWide.l0]
    rw [if_pos (by omega), if_pos (by omega), rd_nat]
    rcases a2 with a2 | a2
    · rw [if_pos a2]
    · rw [if_neg (by omega), if_pos a2]
  · have e : ¬ l.any beyond = true := fun h => by
      obtain ⟨x, hx, hb⟩ := List.any_eq_true.1 h
      obtain ⟨i, hi, rfl⟩ := List.mem_iff_getElem.1 hx
      exact hex ⟨i, hi, by rw [List.getD_eq_getElem?_getD, List.getElem?_eq_getElem hi]; exact hb⟩
    rw [if_neg e]
    refine Ev.forE (l := fun i k => wayfinderref03_CheckWide.l0 k l (i : Int)) (n := l.length) (Nat.zero_le _) (fun i _ hi h => evShift (step i hi (fun hb => hex ⟨i, hi, hb⟩)) h) ?_
    exact evShift (g := fun _ => some 0) (fun k => by simp only [wayfinderref03_CheckWide.l0]; rw [if_neg (by omega)]) (Ev.some_ _)
/-- May two be taken together? -/
def okP (a b : List Int) : Prop := checkWide a = 0 ∧ checkWide b = 0 ∧ a.length = b.length
instance (a b : List Int) : Decidable (okP a b) := by unfold okP; infer_instance
theorem rDist_ok (a b : List Int) (h : okP a b) : Ev (fun k => wayfinderref03_Dist.f k a b) (dst a b, 0) := by
  obtain ⟨h1, h2, h3⟩ := h
  obtain ⟨a1, a2, a3⟩ := checkWide_ok h1
  obtain ⟨b1, b2, b3⟩ := checkWide_ok h2
  unfold wayfinderref03_Dist.f
  refine Ev.bind (a := (0 : Int)) ?_ (Ev.pos rfl ?_)
  · unfold wayfinderref03_both.f
    refine Ev.bind (rCheckWide_is a (by omega)) (Ev.pos h1 (Ev.bind (rCheckWide_is b (by omega)) (Ev.pos h2 (Ev.pos (by omega) ?_))))
    rw [h2]
    exact Ev.some_ _
  · show Ev (fun k => wayfinderref03_Dist.l0 k a b (sumTo 0 (fun i => (a.getD i 0 - b.getD i 0) * (a.getD i 0 - b.getD i 0))) ((0 : Nat) : Int)) _
    refine Ev.forE (l := fun i k => wayfinderref03_Dist.l0 k a b (sumTo i (fun i => (a.getD i 0 - b.getD i 0) * (a.getD i 0 - b.getD i 0))) (i : Int)) (n := a.length) (Nat.zero_le _) (fun i _ hi h => ?_) ?_
    · have hb := dst_bound a3 b3 i
      have h1 := sq_le (a3 i) (b3 i)
      have h2 := a3 i
      have h3 := b3 i
      unfold isWide at h2 h3
      refine evShift (fun k => ?_) h
      simp only [wayfinderref03_Dist.l0]
      rw [if_pos (by omega), if_pos (by omega), if_pos (by omega), rd_nat, rd_nat, wrap_in (x := a.getD i 0) (by omega) (by omega), wrap_in (x := b.getD i 0) (by omega) (by omega), wrap_in (x := a.getD i 0 - b.getD i 0) (by omega) (by omega), wrap_succ (by omega)]
      rw [show sumTo (i + 1) (fun i => (a.getD i 0 - b.getD i 0) * (a.getD i 0 - b.getD i 0)) = sumTo i (fun i => (a.getD i 0 - b.getD i 0) * (a.getD i 0 - b.getD i 0)) + (a.getD i 0 - b.getD i 0) * (a.getD i 0 - b.getD i 0) from rfl]
      generalize (a.getD i 0 - b.getD i 0) * (a.getD i 0 - b.getD i 0) = s at *
      rw [wrap_in (x := s) (by omega) (by omega), wrap_in (by omega) (by omega)]
    · refine evShift (g := fun _ => some (dst a b, 0)) (fun k => ?_) (Ev.some_ _)
      simp only [wayfinderref03_Dist.l0]
      rw [if_neg (by omega)]
      rfl
theorem checkWide_or (l : List Int) : checkWide l = 0 ∨ checkWide l ≠ 0 := by omega
theorem rDist_bad (a b : List Int) (ha : a.length ≤ 1000000) (hb : b.length ≤ 1000000) (h : ¬ okP a b) : ∃ e, e ≠ 0 ∧ Ev (fun k => wayfinderref03_Dist.f k a b) (0, e) := by
  unfold wayfinderref03_Dist.f
  have key : ∃ e, e ≠ 0 ∧ Ev (fun k => wayfinderref03_both.f k a b) e := by
    unfold wayfinderref03_both.f
    by_cases h1 : checkWide a = 0
    · by_cases h2 : checkWide b = 0
      · have h3 : ¬ a.length = b.length := fun h3 => h ⟨h1, h2, h3⟩
        exact ⟨2, by decide, Ev.bind (rCheckWide_is a ha) (Ev.pos h1 (Ev.bind (rCheckWide_is b hb) (Ev.pos h2 (Ev.neg (by omega) (Ev.some_ _)))))⟩
      · exact ⟨checkWide b, h2, Ev.bind (rCheckWide_is a ha) (Ev.pos h1 (Ev.bind (rCheckWide_is b hb) (Ev.neg h2 (Ev.some_ _))))⟩
    · exact ⟨checkWide a, h1, Ev.bind (rCheckWide_is a ha) (Ev.neg h1 (Ev.some_ _))⟩
  obtain ⟨e, he, hE⟩ := key
  exact ⟨e, he, Ev.bind hE (Ev.neg he (Ev.some_ _))⟩
theorem dst_comm {a b : List Int} (h : a.length = b.length) : dst a b = dst b a := by
  unfold dst
  rw [h]
  exact sumTo_congr (fun i _ => by grind)
theorem dst_in {a b : List Int} (h : okP a b) : 0 ≤ dst a b ∧ dst a b ≤ 70368744177664 := by
  obtain ⟨h1, h2, h3⟩ := h
  obtain ⟨a1, a2, a3⟩ := checkWide_ok h1
  obtain ⟨b1, b2, b3⟩ := checkWide_ok h2
  have := dst_bound a3 b3 a.length
  unfold dst
  omega
theorem nearTo_in {C : List (List Int)} {v : List Int} {k : Nat} (h : ∀ j, j < k → okP v (C.getD j [])) : -1 ≤ (nearTo C v k).2 ∧ (nearTo C v k).2 ≤ 70368744177664 := by
  induction k with
  | zero => simp [nearTo]
  | succ k ih =>
    have h1 := ih (fun j hj => h j (by omega))
    have h2 := dst_in (h k (by omega))
    rw [dst_comm (h k (by omega)).2.2] at h2
    rw [nearTo]
    split
    · show -1 ≤ dst (C.getD k []) v ∧ dst (C.getD k []) v ≤ _
      omega
    · exact h1
/-- What the law wants of the cost. -/
def CostOk (P C : List (List Int)) (r : Int × Bool) : Prop := r.2 = true → newE P C 1 = 0 ∧ r.1 = costL P C
theorem all_ok {P C : List (List Int)} (hP : 0 < P.length) (hC : 0 < C.length) (h : ∀ i, i < P.length → ∀ k, k < C.length → okP (P.getD i []) (C.getD k [])) : newE P C 1 = 0 := by
  unfold newE
  have hm := (h 0 hP 0 hC).2.2
  have hc : ∀ l : List (List Int), (∀ i, i < l.length → checkWide (l.getD i []) = 0 ∧ (l.getD i []).length = (C.getD 0 []).length) → l.any (badV (C.getD 0 []).length) = false := fun l hl => by
    cases hq : l.any (badV (C.getD 0 []).length) with
    | false => rfl
    | true =>
      obtain ⟨x, hx, hb⟩ := List.any_eq_true.1 hq
      obtain ⟨i, hi, rfl⟩ := List.mem_iff_getElem.1 hx
      have h2 := hl i hi
      rw [List.getD_eq_getElem?_getD, List.getElem?_eq_getElem hi, Option.getD_some] at h2
      unfold badV at hb
      simp [h2.1, h2.2] at hb
  have e1 := hc C (fun k hk => ⟨(h 0 hP k hk).2.1, by rw [← (h 0 hP k hk).2.2, hm]⟩)
  have e2 := hc P (fun i hi => ⟨(h i hi 0 hC).1, (h i hi 0 hC).2.2⟩)
  rw [if_neg]
  rintro (h1 | h1 | h1 | h1 | h1)
  · omega
  · omega
  · omega
  · rw [e1] at h1; cases h1
  · rw [e2] at h1; cases h1
theorem cost_is (P C : List (List Int)) (hP : lightL P = true) (hC : lightL C = true) : ∃ r, Ev (fun k => wayfinderlaw12_cost.f k P C) r ∧ CostOk P C r := by
  obtain ⟨p1, p2⟩ := lightL_len hP
  obtain ⟨c1, c2⟩ := lightL_len hC
  have outer : ∀ d i, i + d = P.length → (∀ j, j < i → ∀ k, k < C.length → okP (P.getD j []) (C.getD k [])) → ∃ r, Ev (fun k => wayfinderlaw12_cost.l0 k P C (sumTo i (fun j => (near C (P.getD j [])).2)) (i : Int)) r ∧ CostOk P C r := by
    intro d
    induction d with
    | zero =>
      intro i hi hall
      have hi : i = P.length := by omega
      subst hi
      by_cases hC0 : 0 < C.length
      · refine ⟨(costL P C, decide ((P.length : Int) > 0)), evShift (g := fun _ => some (costL P C, decide ((P.length : Int) > 0))) (fun k => ?_) (Ev.some_ _), fun h => ?_⟩
        · simp only [wayfinderlaw12_cost.l0]
          rw [if_neg (by omega), if_pos (by omega)]
          rfl
        · have hP0 : 0 < P.length := by simp at h; omega
          exact ⟨all_ok hP0 hC0 hall, rfl⟩
      · refine ⟨(costL P C, false), evShift (g := fun _ => some (costL P C, false)) (fun k => ?_) (Ev.some_ _), fun h => by cases h⟩
        simp only [wayfinderlaw12_cost.l0]
        rw [if_neg (by omega), if_neg (by omega)]
        rfl
    | succ d ih =>
      intro i hi hall
      have hin : -(i : Int) ≤ sumTo i (fun j => (near C (P.getD j [])).2) ∧ sumTo i (fun j => (near C (P.getD j [])).2) ≤ (i : Int) * 70368744177664 := by
        have := sumTo_bound (n := i) (f := fun j => (near C (P.getD j [])).2) (lo := -1) (hi := 70368744177664) (fun j hj => nearTo_in (fun k hk => hall j hj k hk))
        omega
      have inner : ∀ e k, k + e = C.length → (∀ k', k' < k → okP (P.getD i []) (C.getD k' [])) → ∃ r, Ev (fun n => wayfinderlaw12_cost.l1 n P C (sumTo i (fun j => (near C (P.getD j [])).2)) (i : Int) (nearTo C (P.getD i []) k).2 (k : Int)) r ∧ CostOk P C r := by
        intro e
        induction e with
        | zero =>
          intro k hk hok
          have hk : k = C.length := by omega
          subst hk
          have hall2 : ∀ j, j < i + 1 → ∀ k, k < C.length → okP (P.getD j []) (C.getD k []) := fun j hj k hk => by
            by_cases hji : j = i
            · rw [hji]; exact hok k hk
            · exact hall j (by omega) k hk
          obtain ⟨r, hr, hR⟩ := ih (i + 1) (by omega) hall2
          refine ⟨r, evShift (fun n => ?_) hr, hR⟩
          have hn := nearTo_in hok
          simp only [wayfinderlaw12_cost.l1]
          rw [if_neg (by omega), wrap_succ (by omega), wrap_in (by omega) (by omega)]
          rfl
        | succ e ih2 =>
          intro k hk hok
          by_cases hp : okP (P.getD i []) (C.getD k [])
          · obtain ⟨r, hr, hR⟩ := ih2 (k + 1) (by omega) (fun k' hk' => by
              by_cases h1 : k' = k
              · rw [h1]; exact hp
              · exact hok k' (by omega))
            refine ⟨r, evShift (fun n => by simp only [wayfinderlaw12_cost.l1]; rw [if_pos (by omega), if_pos (by omega), if_pos (by omega), if_pos (by omega), rdL, rdL, wrap_succ (by omega)]) ?_, hR⟩
            refine Ev.bind (rDist_ok _ _ hp) (Ev.pos rfl ?_)
            simp only [nearTo] at hr
            have hcm := dst_comm hp.2.2
            by_cases h1 : (nearTo C (P.getD i []) k).2 < 0
            · rw [if_pos (Or.inl h1)] at hr
              refine Ev.pos h1 ?_
              rw [hcm]
              exact hr
            · refine Ev.neg h1 ?_
              by_cases h2 : dst (P.getD i []) (C.getD k []) < (nearTo C (P.getD i []) k).2
              · rw [if_pos (Or.inr (by rw [← hcm]; exact h2))] at hr
                refine Ev.pos h2 ?_
                rw [hcm]
                exact hr
              · rw [if_neg (by rw [← hcm]; omega)] at hr
                exact Ev.neg h2 hr
          · obtain ⟨er, he, hE⟩ := rDist_bad (P.getD i []) (C.getD k []) (by have := p2 i (by omega); omega) (by have := c2 k (by omega); omega) hp
            refine ⟨(0, false), evShift (fun n => by simp only [wayfinderlaw12_cost.l1]; rw [if_pos (by omega), if_pos (by omega), if_pos (by omega), if_pos (by omega), rdL, rdL, wrap_succ (by omega)]) ?_, fun h => by cases h⟩
            exact Ev.bind hE (Ev.neg he (Ev.some_ _))
      obtain ⟨r, hr, hR⟩ := inner C.length 0 (by omega) (fun k' hk' => absurd hk' (Nat.not_lt_zero _))
      refine ⟨r, evShift (fun n => ?_) hr, hR⟩
      simp only [wayfinderlaw12_cost.l0]
      rw [if_pos (by omega)]
      rfl
  exact outer P.length 0 (by omega) (fun j hj => absurd hj (Nat.not_lt_zero _))
end Go.Proofs.Ytcgpkfpfpjclkaa.Mm
namespace Go.Proofs.Ytcgpkfpfpjclkaa.Mn
open Go.RowKit Go.Proofs.YtcgpkfpfpjclkaaW.PrintWords Go.Proofs.Ytcgpkfpfpjclkaa.G
theorem lives_is : wayfinderlaw12_lives.f 100 = some true := by decide +kernel
end Go.Proofs.Ytcgpkfpfpjclkaa.Mn
