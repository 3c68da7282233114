/- The reference's Fixed, below one unit's place. -/
import Derived.Test.YtkogapmggicanaaFloat3
namespace Go.Proofs.Ytkogapmggicanaa.G
open Go.RowKit Go.Shelf Go.Proofs.YtkogapmggicanaaW.PrintWords
set_option linter.unusedVariables false
set_option linter.unusedSimpArgs false

/-- What is told of a whole number and its sign. -/
def outV (s : Bool) (n : Int) : Int := if s then (if n > 32768 then 0 else -n) else (if n > 32767 then 0 else n)
def outE (s : Bool) (n : Int) : Int := if s then (if n > 32768 then 11 else 0) else (if n > 32767 then 11 else 0)
theorem pair_eq {v v' e e' : Int} (h1 : v = v') (h2 : e = e') : Ending.returned (.tuple #[.int .i16 v, .int .i64 e]) = Ending.returned (.tuple #[.int .i16 v', .int .i64 e']) := by rw [h1, h2]
theorem wrap_16 (y : Int) : IntKind.i16.wrap y = (y + 32768) % 65536 - 32768 := by
  simp [IntKind.wrap, IntKind.signed, IntKind.bits]
  omega
def roundI (A B H : Int) : Int := A + (if H < B ∨ (B = H ∧ A % 2 = 1) then 1 else 0)

set_option maxHeartbeats 4000000 in
set_option maxRecDepth 100000 in
theorem rfix_frac (x frac : Int) (w : World) (h0 : 0 ≤ x) (h1 : x < 18446744073709551616) (hf0 : 0 ≤ frac) (hf1 : frac ≤ 15) (P T A B G H S : Int) (s : Bool) (hP : x / 4503599627370496 % 2048 = P) (hT : x % 4503599627370496 = T) (k : Nat) (hup : P - 1075 + frac = -(k : Int)) (hk : k ≤ 60) (hk0 : 1 ≤ k) (hP0 : 1 ≤ P) (hP1 : P ≤ 2046) (hT0 : 0 ≤ T) (hT1 : T < 4503599627370496)
    (hG : IntKind.u64.wrap (2 ^ k) = G) (hH : IntKind.u64.wrap (2 ^ (k - 1)) = H) (hA : (T + 4503599627370496) / 2 ^ k = A) (hB : (T + 4503599627370496) % G = B) (hA0 : 0 ≤ A) (hA1 : A ≤ 4503599627370496) (hG0 : ¬ G = 0) (hG1 : 0 < G) (hB0 : 0 ≤ B)
    (hS : x / 9223372036854775808 = S) (hS2 : (S = 0 ∧ s = false) ∨ (S = 1 ∧ s = true)) :
    Calls Try.prog 17 #[.int .u64 x, .int .i64 frac] w fun e w' => e = .returned (.tuple #[.int .i16 (outV s (roundI A B H)), .int .i64 (outE s (roundI A B H))]) ∧ Below w.heap.size w w' := by
  have d0 : decide (frac < 0) = false := by simp; omega
  have d1 : decide (frac > 15) = false := by simp; omega
  have d2 : (P == 2047) = false := by rw [beq_eq_false_iff_ne]; omega
  have d3 : decide (P > 0) = true := by simp; omega
  have hx1 : 0 ≤ x / 4503599627370496 := by omega
  have hk1 : ¬ (k : Int) < 0 := by omega
  have hk2 : (-(k : Int) ≥ 0) = False := by simp; omega
  have HK := Aside0.mk hk0
  by_cases hc : H < B
  · have HR := Aside0.mk (show roundI A B H = A + 1 by unfold roundI; rw [if_pos (.inl hc)])
    rw [HR.out]
    rcases hS2 with ⟨rfl, rfl⟩ | ⟨rfl, rfl⟩
    · go_enter Try.func17, Try.ntmps17
      go_wp2
      all_goals go_ret2
      all_goals (refine ⟨pair_eq ?_ ?_, Below.refl _ _⟩ <;> (simp only [outV, outE, wrap_16, Bool.false_eq_true, if_false, if_true]; (repeat' split) <;> omega))
    · go_enter Try.func17, Try.ntmps17
      go_wp2
      all_goals go_ret2
      all_goals (refine ⟨pair_eq ?_ ?_, Below.refl _ _⟩ <;> (simp only [outV, outE, wrap_16, Bool.false_eq_true, if_false, if_true]; (repeat' split) <;> omega))
  · have hc1 : B ≤ H := by omega
    by_cases hc2 : B = H ∧ A % 2 = 1
    · have HR := Aside0.mk (show roundI A B H = A + 1 by unfold roundI; rw [if_pos (.inr hc2)])
      rw [HR.out]
      obtain ⟨e1, e2⟩ := hc2
      subst e1
      rcases hS2 with ⟨rfl, rfl⟩ | ⟨rfl, rfl⟩
      · go_enter Try.func17, Try.ntmps17
        go_wp2
        all_goals go_ret2
        all_goals (refine ⟨pair_eq ?_ ?_, Below.refl _ _⟩ <;> (simp only [outV, outE, wrap_16, Bool.false_eq_true, if_false, if_true]; (repeat' split) <;> omega))
      · go_enter Try.func17, Try.ntmps17
        go_wp2
        all_goals go_ret2
        all_goals (refine ⟨pair_eq ?_ ?_, Below.refl _ _⟩ <;> (simp only [outV, outE, wrap_16, Bool.false_eq_true, if_false, if_true]; (repeat' split) <;> omega))
    · have HR := Aside0.mk (show roundI A B H = A by unfold roundI; rw [if_neg (by rintro (h | h); exact hc h; exact hc2 h)]; omega)
      rw [HR.out]
      have hc3 : (B == H && A % 2 == 1) = false := by
        simp only [Bool.and_eq_false_iff, beq_eq_false_iff_ne]
        by_cases h : B = H
        · exact .inr fun h2 => hc2 ⟨h, h2⟩
        · exact .inl h
      rcases hS2 with ⟨rfl, rfl⟩ | ⟨rfl, rfl⟩
      · by_cases h : B = H
        · have h2 : (A % 2 == 1) = false := by simpa [h] using hc3
          subst h
          go_enter Try.func17, Try.ntmps17
          go_wp2
          all_goals go_ret2
          all_goals (refine ⟨pair_eq ?_ ?_, Below.refl _ _⟩ <;> (simp only [outV, outE, wrap_16, Bool.false_eq_true, if_false, if_true]; (repeat' split) <;> omega))
        · have h2 : (B == H) = false := by simpa using h
          go_enter Try.func17, Try.ntmps17
          go_wp2
          all_goals go_ret2
          all_goals (refine ⟨pair_eq ?_ ?_, Below.refl _ _⟩ <;> (simp only [outV, outE, wrap_16, Bool.false_eq_true, if_false, if_true]; (repeat' split) <;> omega))
      · by_cases h : B = H
        · have h2 : (A % 2 == 1) = false := by simpa [h] using hc3
          subst h
          go_enter Try.func17, Try.ntmps17
          go_wp2
          all_goals go_ret2
          all_goals (refine ⟨pair_eq ?_ ?_, Below.refl _ _⟩ <;> (simp only [outV, outE, wrap_16, Bool.false_eq_true, if_false, if_true]; (repeat' split) <;> omega))
        · have h2 : (B == H) = false := by simpa using h
          go_enter Try.func17, Try.ntmps17
          go_wp2
          all_goals go_ret2
          all_goals (refine ⟨pair_eq ?_ ?_, Below.refl _ _⟩ <;> (simp only [outV, outE, wrap_16, Bool.false_eq_true, if_false, if_true]; (repeat' split) <;> omega))
end Go.Proofs.Ytkogapmggicanaa.G
