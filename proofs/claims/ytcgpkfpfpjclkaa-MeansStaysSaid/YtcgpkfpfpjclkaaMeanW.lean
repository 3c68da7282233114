/- means.Done, what New lets in, means.Cost. -/
import Derived.Test.YtcgpkfpfpjclkaaMeanN
namespace Go.Proofs.Ytcgpkfpfpjclkaa.G
open Go.RowKit Go.Shelf Go.Proofs.YtcgpkfpfpjclkaaW.PrintWords
set_option linter.unusedVariables false
set_option linter.unusedSimpArgs false
set_option maxRecDepth 100000 in
theorem Done_c {L : Lay} {w : World} {m : Nat} {s : St} (h : MSt L w (s.raw m)) (b : Bool) (hb : decide (s.r = s.it) = b) :
    Calls Try.prog 14 #[.pointer (some ⟨L.g, 0, none⟩)] w fun e w' => e = .returned (.bool b) ∧ Drawn0 w w' := by
  obtain ⟨c0, c1, c2, c3, c4, c5, c6, c7, c8⟩ := MSt.cells (P := s.P) (C := s.C) (it := s.it) (r := s.r) (a := s.a) (of := s.of) h
  have hd : ((s.r : Int) == (s.it : Int)) = b := by
    rw [← hb]
    by_cases h1 : s.r = s.it
    · rw [h1]; simp
    · rw [decide_eq_false h1]; simp; omega
  clear h hb
  go_enter Try.func14, Try.ntmps14
  go_wp2
  go_quiet (fail)
  go_wp2
  go_ret
  exact ⟨by first | rfl | simp [hd], ⟨_, rfl⟩⟩
theorem checkWide_ok {v : List Int} (h : checkWide v = 0) : 1 ≤ v.length ∧ v.length ≤ 1024 ∧ Mm.wideL v := by
  unfold checkWide at h
  split at h
  · cases h
  · next h1 =>
    split at h
    · cases h
    · next h2 =>
      refine ⟨by omega, by omega, Mm.wideL_of (fun x hx => ?_)⟩
      have h3 : beyond x = false := by
        cases hb : beyond x with
        | false => rfl
        | true => exact absurd (List.any_eq_true.2 ⟨x, hx, hb⟩) h2
      unfold beyond at h3
      simp only [Bool.or_eq_false_iff, decide_eq_false_iff_not] at h3
      unfold Mm.isWide
      omega
theorem badV_ok {m : Nat} {v : List Int} (h : badV m v = false) : checkWide v = 0 ∧ v.length = m := by
  unfold badV at h
  simp only [Bool.or_eq_false_iff, bne_eq_false_iff_eq] at h
  exact ⟨h.1, by omega⟩
theorem getD_mem' {l : List (List Int)} {j : Nat} (hj : j < l.length) : l.getD j [] ∈ l := by
  rw [List.getD_eq_getElem?_getD, List.getElem?_eq_getElem hj]; exact List.getElem_mem hj
theorem val_rows {m : Nat} {l : List (List Int)} (h : l.any (badV m) = false) : Mm.Val m l := by
  have hv : ∀ j, j < l.length → checkWide (l.getD j []) = 0 ∧ (l.getD j []).length = m := fun j hj => by
    refine badV_ok ?_
    cases hb : badV m (l.getD j []) with
    | false => rfl
    | true => rw [List.any_eq_true.2 ⟨_, getD_mem' hj, hb⟩] at h; cases h
  refine ⟨fun j hj => (hv j hj).2, fun j => ?_⟩
  by_cases hj : j < l.length
  · exact (checkWide_ok (hv j hj).1).2.2
  · rw [List.getD_eq_getElem?_getD, List.getElem?_eq_none (by omega)]
    exact Mm.wideL_of (fun x hx => by simp at hx)
structure NewOk (P C : List (List Int)) (it : Int) (m : Nat) : Prop where
  i1 : 1 ≤ it
  i2 : it ≤ 64
  k1 : 1 ≤ C.length
  m1 : 1 ≤ m
  m2 : m ≤ 1024
  vC : Mm.Val m C
  vP : Mm.Val m P
theorem newE_ok {P C : List (List Int)} {it : Int} (h : newE P C it = 0) : NewOk P C it (C.getD 0 []).length := by
  unfold newE at h
  split at h
  · cases h
  · next hn =>
    have h4 : C.any (badV (C.getD 0 []).length) = false := by cases hq : C.any (badV (C.getD 0 []).length) with | false => rfl | true => exact absurd (Or.inr (Or.inr (Or.inr (Or.inl hq)))) hn
    have h5 : P.any (badV (C.getD 0 []).length) = false := by cases hq : P.any (badV (C.getD 0 []).length) with | false => rfl | true => exact absurd (Or.inr (Or.inr (Or.inr (Or.inr hq)))) hn
    have hk : 1 ≤ C.length := by omega
    have h0 : badV (C.getD 0 []).length (C.getD 0 []) = false := by
      cases hb : badV (C.getD 0 []).length (C.getD 0 []) with
      | false => rfl
      | true => rw [List.any_eq_true.2 ⟨_, getD_mem' (by omega), hb⟩] at h4; cases h4
    have hw := checkWide_ok (badV_ok h0).1
    exact ⟨by omega, by omega, hk, hw.1, hw.2.1, val_rows h4, val_rows h5⟩
theorem newE_or (P C : List (List Int)) (it : Int) : newE P C it = 0 ∨ newE P C it = 2 := by unfold newE; split <;> simp
/-! The rounds, unit by unit. -/
structure Inv (P C : List (List Int)) (it : Nat) (s : St) : Prop where
  pP : s.P = P
  pC : s.C = rounds P s.r C
  pit : s.it = it
  pr : s.r ≤ it
  o : ∀ i, i < s.a → s.of.getD i (-1) = (asgC P s.C i : Int)
theorem assigned_at {P C : List (List Int)} {j : Nat} (hj : j < P.length) : (assigned P C).getD j (-1) = (asgC P C j : Int) := by
  unfold assigned
  rw [List.getD_eq_getElem?_getD, List.getElem?_map, List.getElem?_range hj, Option.map_some, Option.getD_some]
  rfl
theorem moved_asg {P C : List (List Int)} {of : List Int} (h : ∀ i, i < P.length → of.getD i (-1) = (asgC P C i : Int)) : moved P of C = rnd P C := by
  have e1 : ∀ n, cnt of P.length n = cnt (assigned P C) P.length n := fun n => by
    unfold cnt
    exact sumTo_congr (fun j hj => by rw [h j hj, assigned_at hj])
  have e2 : ∀ n i, sm P of P.length n i = sm P (assigned P C) P.length n i := fun n i => by
    unfold sm
    exact sumTo_congr (fun j hj => by rw [h j hj, assigned_at hj])
  unfold rnd moved
  refine List.map_congr_left (fun n _ => List.map_congr_left (fun i _ => ?_))
  unfold newAt
  rw [e1, e2]
theorem Inv.step {P C : List (List Int)} {it m : Nat} {s : St} (h : Inv P C it s) (hg : Good m s) (hr : s.r < it) : Inv P C it (stepS s) := by
  unfold stepS
  by_cases ha : s.a < s.P.length
  · rw [if_pos ha]
    refine ⟨h.pP, h.pC, h.pit, h.pr, fun i hi => ?_⟩
    show (s.of.set s.a (asgC s.P s.C s.a : Int)).getD i (-1) = (asgC P s.C i : Int)
    have hi : i < s.a + 1 := hi
    by_cases hia : i = s.a
    · rw [hia, of_set_self (by rw [hg.o]; exact ha), h.pP]
    · rw [of_set_at hia]
      exact h.o i (by omega)
  · rw [if_neg ha]
    refine ⟨h.pP, ?_, h.pit, by show s.r + 1 ≤ it; omega, fun i hi => absurd hi (Nat.not_lt_zero _)⟩
    show moved s.P s.of s.C = rounds P (s.r + 1) C
    have hae : s.a = s.P.length := by have := hg.a; omega
    have hP := h.pP
    rw [hP, moved_asg (fun i hi => h.o i (by rw [hae, hP]; exact hi)), h.pC]
    rfl
def leftS (s : St) : Nat := (s.it - s.r) * (s.P.length + 1) - s.a
theorem leftS_step {m : Nat} {s : St} (hg : Good m s) (hr : s.r < s.it) : leftS (stepS s) < leftS s := by
  unfold leftS stepS
  have h1 : (s.it - s.r) * (s.P.length + 1) = (s.it - (s.r + 1)) * (s.P.length + 1) + (s.P.length + 1) := by
    rw [show s.it - s.r = (s.it - (s.r + 1)) + 1 by omega, Nat.add_mul, Nat.one_mul]
  have h2 := hg.a
  by_cases ha : s.a < s.P.length
  · rw [if_pos ha]
    show (s.it - s.r) * (s.P.length + 1) - (s.a + 1) < (s.it - s.r) * (s.P.length + 1) - s.a
    omega
  · rw [if_neg ha]
    show (s.it - (s.r + 1)) * (s.P.length + 1) - 0 < (s.it - s.r) * (s.P.length + 1) - s.a
    omega
def St0 (P C : List (List Int)) (it : Nat) : St := ⟨P, C, it, 0, 0, List.replicate P.length (-1)⟩
theorem St0_good {P C : List (List Int)} {it m : Nat} (h : NewOk P C it m) (hP : P.length ≤ 1000) (hC : C.length ≤ 1000) : Good m (St0 P C it) :=
  ⟨h.k1, hC, h.m1, h.m2, h.vC, h.vP, hP, by simp [St0], Nat.zero_le _, Nat.zero_le _⟩
theorem St0_inv (P C : List (List Int)) (it : Nat) : Inv P C it (St0 P C it) := ⟨rfl, rfl, rfl, Nat.zero_le _, fun i hi => absurd hi (Nat.not_lt_zero _)⟩
end Go.Proofs.Ytcgpkfpfpjclkaa.G
