/- VecWhole: its plain law. -/
import Derived.Test.YtkogapmggicanaaWhole
namespace Go.Proofs.Ytkogapmggicanaa.G
open Go.RowKit Go.Shelf Go.Proofs.YtkogapmggicanaaW.PrintWords Ieee
set_option linter.unusedVariables false
set_option linter.unusedSimpArgs false

theorem fixed_bits (S E T : Nat) (f : Int) (j : Nat) (hS : S ≤ 1) (hE0 : 1 ≤ E) (hE1 : E ≤ 2046) (hT : T < 4503599627370496) (hf0 : 0 ≤ f) (hf1 : f ≤ 15) (hj : (E : Int) - 1075 + f = -(j : Int)) (hj1 : 1 ≤ j) :
    FixOk (dblOf S E T).toNat f.toNat ∧ fixV (dblOf S E T) f = outV (S == 1) (rne (4503599627370496 + T) j : Int) ∧ fixE (dblOf S E T) f = outE (S == 1) (rne (4503599627370496 + T) j : Int) := by
  obtain ⟨X, hX⟩ : ∃ X : Nat, S * 9223372036854775808 + E * 4503599627370496 + T = X := ⟨_, rfl⟩
  have hb := read_bits X (by omega)
  rw [show X / 4503599627370496 % 2048 = E by omega, show X % 4503599627370496 = T by omega, show X / 9223372036854775808 = S by omega, if_neg (by omega), if_pos (by omega)] at hb
  unfold dblOf
  rw [hX]
  have hx : (X : Int).toNat = X := Int.toNat_natCast X
  obtain ⟨a1, a2⟩ := fix_frac (f := f.toNat) (by omega) hb (by rw [p52]; omega) (by rw [p53]; omega) (by omega) (by omega)
  rw [show (-(-1074 + ((E - 1 : Nat) : Int) + ((f.toNat : Nat) : Int))).toNat = j by omega] at a2
  obtain ⟨k1, k2, k3⟩ := fix_of_whole (x := (X : Int)) hf0 hf1 hb a1 a2
  obtain ⟨o1, o2⟩ := out_signed (S == 1) (rne (4503599627370496 + T) j)
  exact ⟨k1, by rw [k2, o1], by rw [k3, o2]⟩
theorem fixed_zero (S T : Nat) (f : Int) (hS : S ≤ 1) (hT : T < 4503599627370496) (hf0 : 0 ≤ f) (hf1 : f ≤ 15) :
    FixOk (dblOf S 0 T).toNat f.toNat ∧ fixV (dblOf S 0 T) f = 0 ∧ fixE (dblOf S 0 T) f = 0 := by
  obtain ⟨X, hX⟩ : ∃ X : Nat, S * 9223372036854775808 + 0 * 4503599627370496 + T = X := ⟨_, rfl⟩
  have hb := read_bits X (by omega)
  rw [if_pos (by omega), show X % 4503599627370496 = T by omega] at hb
  unfold dblOf
  rw [hX]
  obtain ⟨a1, a2⟩ := fix_tiny (f := f.toNat) (by omega) hb (by rw [p52]; exact hT)
  obtain ⟨k1, k2, k3⟩ := fix_of_whole (x := (X : Int)) hf0 hf1 hb a1 a2
  exact ⟨k1, by rw [k2]; rfl, by rw [k3]; rfl⟩
theorem rne_near (N j low : Nat) (h : 2 * low < 2 ^ j) : rne (N * 2 ^ j + low) j = N := by
  have hp : 0 < 2 ^ j := Nat.pow_pos (by decide)
  unfold rne
  rw [Nat.mul_comm, Nat.mul_add_div hp, Nat.mul_add_mod, Nat.mod_eq_of_lt (show low < 2 ^ j by omega), Nat.div_eq_of_lt (show low < 2 ^ j by omega), if_neg (by omega)]
  omega
theorem xor_top (X : Nat) (hX : X < 18446744073709551616) : bits .xor .u64 (X : Int) 9223372036854775808 = ((if X < 9223372036854775808 then X + 9223372036854775808 else X - 9223372036854775808 : Nat) : Int) := by
  have h := u64_xor_nat X 9223372036854775808 hX (by omega)
  have h63 : (2 : Nat) ^ 63 = 9223372036854775808 := by decide
  have e1 : (X ^^^ 9223372036854775808) % 2 ^ 63 = X % 2 ^ 63 := by
    rw [Nat.xor_mod_two_pow, h63, Nat.mod_self, Nat.xor_zero]
  have e2 : (X ^^^ 9223372036854775808) / 2 ^ 63 = X / 2 ^ 63 ^^^ 1 := by
    rw [Nat.xor_div_two_pow, h63, Nat.div_self (by decide)]
  rw [h63] at e1 e2
  have h01 : X / 9223372036854775808 = 0 ∨ X / 9223372036854775808 = 1 := by omega
  refine h.trans ?_
  rcases h01 with h0 | h0
  · rw [h0] at e2
    have e3 : (0 : Nat) ^^^ 1 = 1 := by decide
    rw [e3] at e2
    rw [if_pos (by omega)]
    generalize X ^^^ 9223372036854775808 = Y at *
    omega
  · rw [h0] at e2
    have e3 : (1 : Nat) ^^^ 1 = 0 := by decide
    rw [e3] at e2
    rw [if_neg (by omega)]
    generalize X ^^^ 9223372036854775808 = Y at *
    omega
theorem or_top (X : Nat) (hX : X < 4294967296) : bits .or .u64 (X : Int) 9223372036854775808 = dblOf 1 0 X := by
  have h := u64_or_nat X 9223372036854775808 (by omega) (by omega)
  have e := Nat.two_pow_add_eq_or_of_lt (i := 63) (b := X) (by omega) 1
  rw [show (2 : Nat) ^ 63 = 9223372036854775808 by decide, Nat.mul_one, Nat.or_comm] at e
  rw [← e] at h
  refine h.trans ?_
  unfold dblOf
  omega
/-- All that VecWhole asks, of a number that is not 0. -/
theorem whole_law (n f low : Int) (j E T : Nat) (hn0 : -32768 ≤ n) (hn1 : n ≤ 32767) (hnz : n ≠ 0) (hf0 : 0 ≤ f) (hf1 : f ≤ 15) (hl0 : 0 ≤ low) (hl1 : low < 4294967296)
    (hj0 : 37 ≤ j) (hj1 : j ≤ 52) (hm : n.natAbs * 2 ^ j = 4503599627370496 + T) (hT : T < 4503599627370496) (hE : (E : Int) = 1075 + -f - j) :
    let D := dblOf (if n < 0 then 1 else 0) E T
    (FixOk D.toNat f.toNat ∧ fixV D f = n ∧ fixE D f = 0) ∧
    (∃ D2, IntKind.u64.wrap (D + low) = D2 ∧ FixOk D2.toNat f.toNat ∧ fixV D2 f = n ∧ fixE D2 f = 0) ∧
    (∃ D3 V3 E3, bits .xor .u64 D 9223372036854775808 = D3 ∧ FixOk D3.toNat f.toNat ∧ fixV D3 f = V3 ∧ fixE D3 f = E3 ∧ ((n = -32768 ∧ E3 = 11) ∨ (n ≠ -32768 ∧ E3 = 0 ∧ V3 = -n))) := by
  intro D
  obtain ⟨L, rfl⟩ : ∃ L : Nat, low = (L : Int) := ⟨low.toNat, by omega⟩
  have hp : 2 ^ 37 ≤ 2 ^ j := Nat.pow_le_pow_right (by decide) hj0
  have hp37 : (2 : Nat) ^ 37 = 137438953472 := by decide
  rw [hp37] at hp
  -- the significand is a multiple of 2^37
  have hdvd : 137438953472 ∣ 4503599627370496 + T := by
    rw [← hm, ← hp37]
    exact Nat.dvd_trans (Nat.pow_dvd_pow 2 hj0) (Nat.dvd_mul_left _ _)
  have hTl : T + L < 4503599627370496 := by
    obtain ⟨c, hc⟩ := hdvd
    omega
  obtain ⟨S, hS⟩ : ∃ S : Nat, (if n < 0 then 1 else 0 : Nat) = S := ⟨_, rfl⟩
  have hS1 : S ≤ 1 := by rw [← hS]; split <;> omega
  have r0 : rne (4503599627370496 + T) j = n.natAbs := by rw [← hm]; exact rne_shift _ _
  have r1 : rne (4503599627370496 + (T + L)) j = n.natAbs := by rw [← Nat.add_assoc, ← hm]; exact rne_near _ _ _ (by omega)
  have hD : D = dblOf S E T := by show dblOf _ E T = _; rw [hS]
  obtain ⟨a1, a2, a3⟩ := fixed_bits S E T f j hS1 (by omega) (by omega) hT hf0 hf1 (by omega) (by omega)
  obtain ⟨b1, b2, b3⟩ := fixed_bits S E (T + L) f j hS1 (by omega) (by omega) hTl hf0 hf1 (by omega) (by omega)
  obtain ⟨c1, c2, c3⟩ := fixed_bits (1 - S) E T f j (by omega) (by omega) (by omega) hT hf0 hf1 (by omega) (by omega)
  rw [r0] at a2 a3 c2 c3
  rw [r1] at b2 b3
  have hv : outV (S == 1) (n.natAbs : Int) = n ∧ outE (S == 1) (n.natAbs : Int) = 0 := by
    by_cases hs : n < 0
    · rw [← hS, if_pos hs]
      simp only [outV, outE, beq_self_eq_true, if_true]
      rw [if_neg (by omega), if_neg (by omega)]
      omega
    · rw [← hS, if_neg hs]
      simp only [outV, outE, show ((0 : Nat) == 1) = false from rfl, Bool.false_eq_true, if_false]
      rw [if_neg (by omega), if_neg (by omega)]
      omega
  refine ⟨⟨by rw [hD]; exact a1, by rw [hD, a2, hv.1], by rw [hD, a3, hv.2]⟩, ⟨dblOf S E (T + L), ?_, b1, by rw [b2, hv.1], by rw [b3, hv.2]⟩, ⟨dblOf (1 - S) E T, _, _, ?_, c1, c2, c3, ?_⟩⟩
  · rw [hD, IntKind.wrap_u64]
    unfold dblOf
    omega
  · rw [hD]
    unfold dblOf
    rw [xor_top _ (by omega)]
    split <;> omega
  · by_cases hs : n < 0
    · rw [← hS, if_pos hs]
      simp only [outV, outE, show ((1 - 1 : Nat) == 1) = false from rfl, Bool.false_eq_true, if_false]
      by_cases hm8 : n = -32768
      · refine .inl ⟨hm8, ?_⟩
        rw [if_pos (by omega)]
      · refine .inr ⟨hm8, ?_⟩
        rw [if_neg (by omega), if_neg (by omega)]
        omega
    · rw [← hS, if_neg hs]
      simp only [outV, outE, show ((1 - 0 : Nat) == 1) = true from rfl, if_true]
      refine .inr ⟨by omega, ?_⟩
      rw [if_neg (by omega), if_neg (by omega)]
      omega

end Go.Proofs.Ytkogapmggicanaa.G
