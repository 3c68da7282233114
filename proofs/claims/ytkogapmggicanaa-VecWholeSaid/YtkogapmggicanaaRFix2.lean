/- The reference's Fixed: the other cases; both together. -/
import Derived.Test.YtkogapmggicanaaRFix
namespace Go.Proofs.Ytkogapmggicanaa.G
open Go.RowKit Go.Shelf Go.Proofs.YtkogapmggicanaaW.PrintWords Ieee
set_option linter.unusedVariables false
set_option linter.unusedSimpArgs false

set_option maxRecDepth 100000 in
theorem rfix_bad (x frac : Int) (w : World) (hf : frac < 0 ∨ frac > 15) :
    Calls Try.prog 17 #[.int .u64 x, .int .i64 frac] w fun e w' => e = .returned (.tuple #[.int .i16 0, .int .i64 2]) ∧ Below w.heap.size w w' := by
  by_cases h : frac < 0
  · have d0 : decide (frac < 0) = true := by simpa using h
    go_enter Try.func17, Try.ntmps17
    go_wp2
    all_goals go_ret2
    all_goals exact ⟨rfl, Below.refl _ _⟩
  · have d0 : decide (frac < 0) = false := by simpa using h
    have d1 : decide (frac > 15) = true := by simp; omega
    go_enter Try.func17, Try.ntmps17
    go_wp2
    all_goals go_ret2
    all_goals exact ⟨rfl, Below.refl _ _⟩
set_option maxRecDepth 100000 in
theorem rfix_top (x frac : Int) (w : World) (h0 : 0 ≤ x) (h1 : x < 18446744073709551616) (hf0 : 0 ≤ frac) (hf1 : frac ≤ 15) (T : Int) (hP : x / 4503599627370496 % 2048 = 2047) (hT : x % 4503599627370496 = T) (hT0 : 0 ≤ T) (hT1 : T < 4503599627370496) :
    Calls Try.prog 17 #[.int .u64 x, .int .i64 frac] w fun e w' => e = .returned (.tuple #[.int .i16 0, .int .i64 (if T > 0 then 2 else 11)]) ∧ Below w.heap.size w w' := by
  have d0 : decide (frac < 0) = false := by simp; omega
  have d1 : decide (frac > 15) = false := by simp; omega
  have hx1 : 0 ≤ x / 4503599627370496 := by omega
  by_cases h : T > 0
  · have d2 : decide (T > 0) = true := by simpa using h
    rw [if_pos h]
    go_enter Try.func17, Try.ntmps17
    go_wp2
    all_goals go_ret2
    all_goals exact ⟨rfl, Below.refl _ _⟩
  · have d2 : decide (T > 0) = false := by simpa using h
    rw [if_neg h]
    go_enter Try.func17, Try.ntmps17
    go_wp2
    all_goals go_ret2
    all_goals exact ⟨rfl, Below.refl _ _⟩
set_option maxHeartbeats 1000000 in
set_option maxRecDepth 100000 in
theorem rfix_big (x frac : Int) (w : World) (h0 : 0 ≤ x) (h1 : x < 18446744073709551616) (hf0 : 0 ≤ frac) (hf1 : frac ≤ 15) (P T N : Int) (hP : x / 4503599627370496 % 2048 = P) (hT : x % 4503599627370496 = T) (k : Nat) (hup : P - 1075 + frac = (k : Int)) (hP0 : 1 ≤ P) (hP1 : P ≤ 2046) (hT0 : 0 ≤ T) (hT1 : T < 4503599627370496)
    (hN : IntKind.u64.wrap ((T + 4503599627370496) * 2 ^ k) = N) (hN1 : k ≤ 11 → 32768 < N) :
    Calls Try.prog 17 #[.int .u64 x, .int .i64 frac] w fun e w' => e = .returned (.tuple #[.int .i16 0, .int .i64 11]) ∧ Below w.heap.size w w' := by
  have d0 : decide (frac < 0) = false := by simp; omega
  have d1 : decide (frac > 15) = false := by simp; omega
  have d2 : (P == 2047) = false := by rw [beq_eq_false_iff_ne]; omega
  have d3 : decide (P > 0) = true := by simp; omega
  have hx1 : 0 ≤ x / 4503599627370496 := by omega
  by_cases hk : k ≤ 11
  · have hN2 := hN1 hk
    have hk2 : (k : Int) ≤ 11 := by omega
    have e1 : decide (N > 32768) = true := by simpa using hN2
    have e2 : decide (N > 32767) = true := by simp; omega
    clear hN1
    go_enter Try.func17, Try.ntmps17
    go_wp2
    all_goals go_ret2
    all_goals exact ⟨rfl, Below.refl _ _⟩
  · have hk2 : (k : Int) > 11 := by omega
    clear hN1 hN
    go_enter Try.func17, Try.ntmps17
    go_wp2
    all_goals go_ret2
    all_goals exact ⟨rfl, Below.refl _ _⟩
set_option maxHeartbeats 1000000 in
set_option maxRecDepth 100000 in
theorem rfix_zero (x frac : Int) (w : World) (h0 : 0 ≤ x) (h1 : x < 18446744073709551616) (hf0 : 0 ≤ frac) (hf1 : frac ≤ 15) (P T : Int) (hP : x / 4503599627370496 % 2048 = P) (hT : x % 4503599627370496 = T) (hup : P - 1075 + frac < -60) (hP0 : 0 ≤ P) (hP1 : P ≤ 2046) (hT0 : 0 ≤ T) (hT1 : T < 4503599627370496) :
    Calls Try.prog 17 #[.int .u64 x, .int .i64 frac] w fun e w' => e = .returned (.tuple #[.int .i16 0, .int .i64 0]) ∧ Below w.heap.size w w' := by
  have d0 : decide (frac < 0) = false := by simp; omega
  have d1 : decide (frac > 15) = false := by simp; omega
  have d2 : (P == 2047) = false := by rw [beq_eq_false_iff_ne]; omega
  have hx1 : 0 ≤ x / 4503599627370496 := by omega
  by_cases hz : P = 0
  · subst hz
    go_enter Try.func17, Try.ntmps17
    go_wp2
    all_goals go_ret2
    all_goals exact ⟨rfl, Below.refl _ _⟩
  · have d3 : decide (P > 0) = true := by simp; omega
    go_enter Try.func17, Try.ntmps17
    go_wp2
    all_goals go_ret2
    all_goals exact ⟨rfl, Below.refl _ _⟩

/-! ### the double's bits -/
theorem read_bits (x : Nat) (hx : x < 18446744073709551616) : Ieee.double.read x =
    if x / 4503599627370496 % 2048 = 0 then .number (x / 9223372036854775808 == 1) (x % 4503599627370496) (-1074)
    else if x / 4503599627370496 % 2048 < 2047 then .number (x / 9223372036854775808 == 1) (4503599627370496 + x % 4503599627370496) (-1074 + ((x / 4503599627370496 % 2048 - 1 : Nat) : Int))
    else if x % 4503599627370496 = 0 then .infinity (x / 9223372036854775808 == 1) else .nan (x / 9223372036854775808 == 1) (x % 4503599627370496) := by
  unfold Format.read
  rw [d_sign, d_binade, d_least, d_inf]
  have e0 : (x / 9223372036854775808 % 2 == 1) = (x / 9223372036854775808 == 1) := by
    rw [Nat.mod_eq_of_lt (by omega)]
  have e1 : x % 9223372036854775808 / 4503599627370496 = x / 4503599627370496 % 2048 := by omega
  have e2 : x % 9223372036854775808 % 4503599627370496 = x % 4503599627370496 := by omega
  simp only [e0, e1, e2]
  by_cases h0 : x / 4503599627370496 % 2048 = 0
  · rw [if_pos (by omega), if_pos h0, show x % 9223372036854775808 = x % 4503599627370496 by omega]
  · rw [if_neg (by omega), if_neg h0]
    by_cases h1 : x / 4503599627370496 % 2048 < 2047
    · rw [if_pos (by omega), if_pos h1]
    · rw [if_neg (by omega), if_neg h1]
      by_cases h2 : x % 4503599627370496 = 0
      · rw [if_pos (by omega), if_pos h2]
      · rw [if_neg (by omega), if_neg h2, show x % 9223372036854775808 - 9218868437227405312 = x % 4503599627370496 by omega]
theorem fix_of_whole {x frac : Int} {v : Int} (hf0 : 0 ≤ frac) (hf1 : frac ≤ 15) {s : Bool} {m : Nat} {p : Int} (hr : Ieee.double.read x.toNat = .number s m p) (h1 : nanF (scaled x.toNat frac.toNat) = false) (h2 : IsWhole (wholeF (scaled x.toNat frac.toNat)) v) :
    FixOk x.toNat frac.toNat ∧ fixV x frac = (if -32768 ≤ v ∧ v ≤ 32767 then v else 0) ∧ fixE x frac = (if -32768 ≤ v ∧ v ≤ 32767 then 0 else 11) := by
  have hn := nanF_num hr
  have hi := inF_whole h2
  have hv := int_whole h2
  refine ⟨⟨by rw [show (2 : Int) ^ frac.toNat = 2 ^ frac.toNat from rfl, mul_num (by omega) hr]; rfl, h1, fun h => ?_⟩, ?_, ?_⟩
  · rw [hi] at h
    rw [hv, if_pos (of_decide_eq_true h)]
    rfl
  · unfold fixV
    rw [if_neg (by omega), hn, hi, hv]
    by_cases h : -32768 ≤ v ∧ v ≤ 32767
    · simp [h]
    · simp [h]
  · unfold fixE
    rw [if_neg (by omega), hn, hi]
    by_cases h : -32768 ≤ v ∧ v ≤ 32767
    · simp [h]
    · simp [h]

end Go.Proofs.Ytkogapmggicanaa.G
