/- The law's double: its bits. -/
import Derived.Test.YtkogapmggicanaaVecFixed
namespace Go.Proofs.Ytkogapmggicanaa.G
open Go.RowKit Go.Shelf Go.Proofs.YtkogapmggicanaaW.PrintWords Ieee
set_option linter.unusedVariables false
set_option linter.unusedSimpArgs false

theorem or_bits (S E T : Nat) (hS : S ≤ 1) (hE : E < 2048) (hT : T < 4503599627370496) :
    bits .or .u64 (bits .or .u64 ((S * 9223372036854775808 : Nat) : Int) ((E * 4503599627370496 : Nat) : Int)) ((T : Nat) : Int) = ((S * 9223372036854775808 + E * 4503599627370496 + T : Nat) : Int) := by
  rw [u64_or_nat _ _ (by omega) (by omega)]
  have e1 : S * 9223372036854775808 ||| E * 4503599627370496 = S * 9223372036854775808 + E * 4503599627370496 := by
    have h := Nat.two_pow_add_eq_or_of_lt (i := 63) (b := E * 4503599627370496) (by omega) S
    rw [show (2 : Nat) ^ 63 = 9223372036854775808 by decide, Nat.mul_comm] at h
    exact h.symm
  rw [e1, u64_or_nat _ _ (by omega) (by omega)]
  have h := Nat.two_pow_add_eq_or_of_lt (i := 52) (b := T) (by rw [p52]; exact hT) (S * 2048 + E)
  rw [p52, show 4503599627370496 * (S * 2048 + E) = S * 9223372036854775808 + E * 4503599627370496 by omega] at h
  rw [← h]
/-- The double's bits: the sign, the exponent's field, the fraction's. -/
def dblOf (S E T : Nat) : Int := ((S * 9223372036854775808 + E * 4503599627370496 + T : Nat) : Int)
theorem or_bits1 (E T : Nat) (hE : E < 2048) (hT : T < 4503599627370496) : bits .or .u64 (bits .or .u64 9223372036854775808 ((E * 4503599627370496 : Nat) : Int)) ((T : Nat) : Int) = dblOf 1 E T := or_bits 1 E T (by omega) hE hT
theorem or_bits0 (E T : Nat) (hE : E < 2048) (hT : T < 4503599627370496) : bits .or .u64 (bits .or .u64 0 ((E * 4503599627370496 : Nat) : Int)) ((T : Nat) : Int) = dblOf 0 E T := by
  have h := or_bits 0 E T (by omega) hE hT
  rw [Nat.zero_mul] at h
  exact h

set_option maxHeartbeats 1000000 in
set_option maxRecDepth 100000 in
theorem double_calls (n power : Int) (w : World) (hn0 : -32768 ≤ n) (hn1 : n ≤ 32767) (hnz : n ≠ 0) (hp0 : -15 ≤ power) (hp1 : power ≤ 0) :
    Calls Try.prog 19 #[.int .i16 n, .int .i64 power] w fun e w' => (∃ j E T : Nat, 37 ≤ j ∧ j ≤ 52 ∧ n.natAbs * 2 ^ j = 4503599627370496 + T ∧ T < 4503599627370496 ∧ (E : Int) = 1075 + power - j ∧ e = .returned (.int .u64 (dblOf (if n < 0 then 1 else 0) E T))) ∧ w = w' := by
  have hz : (n == 0) = false := by rw [beq_eq_false_iff_ne]; exact hnz
  obtain ⟨M, hM⟩ : ∃ M : Nat, n.natAbs = M := ⟨_, rfl⟩
  have hM0 : 1 ≤ M := by omega
  have hM1 : M ≤ 32768 := by omega
  rw [hM]
  have HPow := Aside0.mk (show ∀ i : Nat, M * 2 ^ (i + 1) = 2 * (M * 2 ^ i) from fun i => by rw [Nat.pow_succ, ← Nat.mul_assoc, Nat.mul_comm])
  have HJ := Aside0.mk (show ∀ i : Nat, M * 2 ^ i < 9007199254740992 → i ≤ 52 from fun i h => by
    rcases Nat.lt_or_ge i 53 with h2 | h2
    · omega
    · have h3 : 2 ^ 53 ≤ 2 ^ i := Nat.pow_le_pow_right (by decide) h2
      have h4 := Nat.mul_le_mul hM0 h3
      rw [p53] at h4
      omega)
  have HJ2 := Aside0.mk (show ∀ i : Nat, 4503599627370496 ≤ M * 2 ^ i → 37 ≤ i from fun i h => by
    rcases Nat.lt_or_ge i 37 with h2 | h2
    · have h3 : 2 ^ i ≤ 2 ^ 36 := Nat.pow_le_pow_right (by decide) (by omega)
      have h4 := Nat.mul_le_mul hM1 h3
      have h5 : (2 : Nat) ^ 36 = 68719476736 := by decide
      rw [h5] at h4
      omega
    · exact h2)
  by_cases hs : n < 0
  · have d : decide (n < 0) = true := by simpa using hs
    have hMi : -n = (M : Int) := by omega
    have hSx : (if n < 0 then 1 else 0 : Nat) = 1 := if_pos hs
    rw [hSx]
    clear hSx
    go_enter Try.func19, Try.ntmps19
    go_wp2
    go_loopw [5, 7] (fun m e wr => ∃ i q : Nat, M * 2 ^ i = q ∧ q < 9007199254740992 ∧ i ≤ 52 ∧ m = .int .u64 (q : Int) ∧ e = .int .i64 (1075 + power - (i : Int)) ∧ Aside0 (w = wr)) (fun m _ _ => 9007199254740992 - (intOf m).toNat)
    case atStart => exact ⟨0, M, by simp, by omega, by omega, rfl, by simp, ⟨rfl⟩⟩
    case round =>
      obtain ⟨i, q, hq, hq2, hi, rfl, rfl, HW⟩ := hrel
      have hq0 : 1 ≤ q := by
        have hp : 1 ≤ 2 ^ i := Nat.pow_pos (by decide)
        have := Nat.mul_le_mul hM0 hp
        omega
      by_cases hlt : q < 4503599627370496
      · have hq3 : (q : Int) < 4503599627370496 := by omega
        have HN := Aside0.mk (show M * 2 ^ (i + 1) = q + q by rw [HPow.out, hq]; omega)
        have HI := Aside0.mk (HJ.out (i + 1) (by rw [HPow.out, hq]; omega))
        clear hq
        go_wp2
        go_roundw
        case rel => exact ⟨i + 1, q + q, HN.out, by omega, HI.out, by congr 1; omega, by congr 1; omega, HW⟩
        case measure => simp [intOf]; omega
      · have hq3 : ¬ (q : Int) < 4503599627370496 := by omega
        have HN := Aside0.mk hq
        have HI := Aside0.mk (HJ2.out i (by rw [hq]; omega))
        obtain ⟨T, hT⟩ : ∃ T : Nat, q = 4503599627370496 + T := ⟨q - 4503599627370496, by omega⟩
        obtain ⟨E, hE⟩ : ∃ E : Nat, 1075 + power - (i : Int) = (E : Int) := ⟨(1075 + power - (i : Int)).toNat, by omega⟩
        have w1 : IntKind.u64.wrap (E : Int) = (E : Int) := by rw [IntKind.wrap_u64]; omega
        have w2 : IntKind.u64.wrap ((E : Int) * 4503599627370496) = ((E * 4503599627370496 : Nat) : Int) := by rw [IntKind.wrap_u64]; omega
        have w3 : IntKind.u64.wrap ((q : Int) - 4503599627370496) = (T : Int) := by rw [IntKind.wrap_u64]; omega
        have w4 : decide ((q : Int) < 4503599627370496) = false := decide_eq_false hq3
        obtain ⟨D, hD⟩ : ∃ D : Int, dblOf 1 E T = D := ⟨_, rfl⟩
        obtain ⟨F, hF⟩ : ∃ F : Int, ((E * 4503599627370496 : Nat) : Int) = F := ⟨_, rfl⟩
        have w5 := or_bits1 E T (by omega) (by omega)
        rw [hF] at w2 w5
        rw [hD] at w5
        have HD := Aside0.mk hD
        have HT := Aside0.mk hT
        have HEo := Aside0.mk hE
        have HQ := Aside0.mk (show T < 4503599627370496 by omega)
        clear hD hF
        rw [hE]
        clear hq hq2 hq3 hlt hT hE hq0
        go_wp2
        go_ret
        exact ⟨⟨i, E, T, HI.out, hi, by rw [HN.out, HT.out], HQ.out, by rw [← HEo.out], by rw [HD.out]; rfl⟩, HW.out⟩
  · obtain rfl : n = (M : Int) := by omega
    have d : decide ((M : Int) < 0) = false := by simp
    have hSx : (if (M : Int) < 0 then 1 else 0 : Nat) = 0 := if_neg hs
    rw [hSx]
    clear hSx
    go_enter Try.func19, Try.ntmps19
    go_wp2
    go_loopw [5, 7] (fun m e wr => ∃ i q : Nat, M * 2 ^ i = q ∧ q < 9007199254740992 ∧ i ≤ 52 ∧ m = .int .u64 (q : Int) ∧ e = .int .i64 (1075 + power - (i : Int)) ∧ Aside0 (w = wr)) (fun m _ _ => 9007199254740992 - (intOf m).toNat)
    case atStart => exact ⟨0, M, by simp, by omega, by omega, rfl, by simp, ⟨rfl⟩⟩
    case round =>
      obtain ⟨i, q, hq, hq2, hi, rfl, rfl, HW⟩ := hrel
      have hq0 : 1 ≤ q := by
        have hp : 1 ≤ 2 ^ i := Nat.pow_pos (by decide)
        have := Nat.mul_le_mul hM0 hp
        omega
      by_cases hlt : q < 4503599627370496
      · have hq3 : (q : Int) < 4503599627370496 := by omega
        have HN := Aside0.mk (show M * 2 ^ (i + 1) = q + q by rw [HPow.out, hq]; omega)
        have HI := Aside0.mk (HJ.out (i + 1) (by rw [HPow.out, hq]; omega))
        clear hq
        go_wp2
        go_roundw
        case rel => exact ⟨i + 1, q + q, HN.out, by omega, HI.out, by congr 1; omega, by congr 1; omega, HW⟩
        case measure => simp [intOf]; omega
      · have hq3 : ¬ (q : Int) < 4503599627370496 := by omega
        have HN := Aside0.mk hq
        have HI := Aside0.mk (HJ2.out i (by rw [hq]; omega))
        obtain ⟨T, hT⟩ : ∃ T : Nat, q = 4503599627370496 + T := ⟨q - 4503599627370496, by omega⟩
        obtain ⟨E, hE⟩ : ∃ E : Nat, 1075 + power - (i : Int) = (E : Int) := ⟨(1075 + power - (i : Int)).toNat, by omega⟩
        have w1 : IntKind.u64.wrap (E : Int) = (E : Int) := by rw [IntKind.wrap_u64]; omega
        have w2 : IntKind.u64.wrap ((E : Int) * 4503599627370496) = ((E * 4503599627370496 : Nat) : Int) := by rw [IntKind.wrap_u64]; omega
        have w3 : IntKind.u64.wrap ((q : Int) - 4503599627370496) = (T : Int) := by rw [IntKind.wrap_u64]; omega
        have w4 : decide ((q : Int) < 4503599627370496) = false := decide_eq_false hq3
        obtain ⟨D, hD⟩ : ∃ D : Int, dblOf 0 E T = D := ⟨_, rfl⟩
        obtain ⟨F, hF⟩ : ∃ F : Int, ((E * 4503599627370496 : Nat) : Int) = F := ⟨_, rfl⟩
        have w5 := or_bits0 E T (by omega) (by omega)
        rw [hF] at w2 w5
        rw [hD] at w5
        have HD := Aside0.mk hD
        have HT := Aside0.mk hT
        have HEo := Aside0.mk hE
        have HQ := Aside0.mk (show T < 4503599627370496 by omega)
        clear hD hF
        rw [hE]
        clear hq hq2 hq3 hlt hT hE hq0
        go_wp2
        go_ret
        exact ⟨⟨i, E, T, HI.out, hi, by rw [HN.out, HT.out], HQ.out, by rw [← HEo.out], by rw [HD.out]; rfl⟩, HW.out⟩
end Go.Proofs.Ytkogapmggicanaa.G
