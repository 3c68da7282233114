/- The plain law of vec.Fixed: tiny, great, infinite. -/
import Derived.Test.YtkogapmggicanaaFloat2
namespace Go.Proofs.Ytkogapmggicanaa.G
open Go.RowKit Go.Shelf Go.Proofs.YtkogapmggicanaaW.PrintWords Ieee
set_option linter.unusedVariables false
set_option linter.unusedSimpArgs false

theorem p53 : (2 : Nat) ^ 53 = 9007199254740992 := by decide
theorem p52 : (2 : Nat) ^ 52 = 4503599627370496 := by decide
theorem wholeF_num {w : Nat} {s : Bool} {m : Nat} {i : Int} (h : Ieee.double.read w = .number s m i) : wholeF w = Ieee.double.nearest s (rne (m <<< i.toNat) (-i).toNat) 0 := by
  unfold wholeF FloatKind.encode FloatKind.decode Datum.integral
  rw [fmt, h]
  simp only [Format.write, cut_rne]
theorem nanF_num {w : Nat} {s : Bool} {m : Nat} {i : Int} (h : Ieee.double.read w = .number s m i) : nanF w = false := by
  unfold nanF FloatKind.decode
  rw [fmt, h]
  rfl
theorem fix_tiny {b f : Nat} (hf : f ≤ 15) {s : Bool} {m : Nat} (hr : Ieee.double.read b = .number s m (-1074)) (h2 : m < 2 ^ 52) :
    nanF (scaled b f) = false ∧ IsWhole (wholeF (scaled b f)) 0 := by
  have hs0 : signed s 0 0 = 0 := by cases s <;> rfl
  obtain ⟨r, hr1, hr2⟩ : ∃ r, scaled b f = Ieee.double.word s r ∧ r ≤ 16 * 4503599627370496 := by
    rw [scaled_num hf hr]
    by_cases h0 : m = 0
    · subst h0
      refine ⟨0, ?_, by omega⟩
      unfold Format.nearest
      rw [if_pos (by simp)]
    · have hl : m.log2 ≤ 51 := by
        have := (Nat.log2_lt h0).2 h2
        omega
      unfold Format.nearest
      rw [if_neg (Nat.mul_ne_zero h0 (by decide)), d_least, d_binade, d_inf, d_frac, log2_mul_pow h0]
      simp only [cut_rne]
      obtain ⟨t, ht⟩ : ∃ t : Nat, max (-1074 + (f : Int) - 52 + ((m.log2 + 52 : Nat) : Int) - ((52 : Nat) : Int)) (-1074) = -1074 + (t : Int) := ⟨(max (-1074 + (f : Int) - 52 + ((m.log2 + 52 : Nat) : Int) - ((52 : Nat) : Int)) (-1074) + 1074).toNat, by omega⟩
      rw [ht]
      have ht2 : t ≤ 14 := by omega
      have e1 : (-1074 + (f : Int) - 52 - (-1074 + (t : Int))).toNat = 0 := by omega
      have e2 : (-1074 + (t : Int) - -1074).toNat = t := by omega
      obtain ⟨d, hd⟩ : ∃ d : Nat, (-1074 + (t : Int) - (-1074 + (f : Int) - 52)).toNat = d := ⟨_, rfl⟩
      have hd2 : m.log2 ≤ d := by omega
      rw [e1, e2, hd, Nat.shiftLeft_zero]
      refine ⟨_, rfl, ?_⟩
      have a2 : m < 2 ^ (m.log2 + 1) := Nat.lt_log2_self
      have a3 : m * 2 ^ 52 < 2 ^ 53 * 2 ^ d := by
        have b1 : m * 2 ^ 52 < 2 ^ (m.log2 + 1) * 2 ^ 52 := Nat.mul_lt_mul_of_pos_right a2 (by decide)
        have b2 : 2 ^ (m.log2 + 1) * 2 ^ 52 ≤ 2 ^ 53 * 2 ^ d := by
          rw [← Nat.pow_add, ← Nat.pow_add]
          exact Nat.pow_le_pow_right (by decide) (by omega)
        omega
      have a4 : m * 2 ^ 52 / 2 ^ d < 2 ^ 53 := (Nat.div_lt_iff_lt_mul (Nat.pow_pos (by decide))).2 a3
      have a5 : rne (m * 2 ^ 52) d ≤ 2 ^ 53 := by
        unfold rne
        generalize m * 2 ^ 52 / 2 ^ d = q at a4 ⊢
        rw [p53] at a4 ⊢
        clear a2 a3
        split
        · exact a4
        · exact Nat.le_of_lt a4
      rw [p53] at a5
      generalize rne (m * 2 ^ 52) d = q at a5 ⊢
      clear a2 a3 a4 hd hd2 e1 e2 ht
      omega
  have hrd := read_word s r (by omega)
  rw [← hr1] at hrd
  have hmain : ∃ M i, Ieee.double.read (scaled b f) = .number s M i ∧ M < 2 ^ 53 ∧ i ≤ -1000 := by
    rw [hrd]
    split
    · rename_i h; exact ⟨_, _, rfl, by rw [p53]; omega, by omega⟩
    · exact ⟨_, _, rfl, by rw [p53]; omega, by omega⟩
  obtain ⟨M, i, h3, h4, h5⟩ := hmain
  refine ⟨nanF_num h3, ?_⟩
  rw [wholeF_num h3, show i.toNat = 0 by omega, Nat.shiftLeft_zero, rne_small h4 (by omega)]
  have := whole_nearest s 0 (by decide)
  rwa [hs0] at this

/-! ### great -/
theorem read_inf (s : Bool) : Ieee.double.read (Ieee.double.word s 9218868437227405312) = .infinity s := by cases s <;> decide +kernel
theorem inf_out (s : Bool) : nanF (Ieee.double.word s 9218868437227405312) = false ∧ inF (wholeF (Ieee.double.word s 9218868437227405312)) = false := by
  have hw : wholeF (Ieee.double.word s 9218868437227405312) = Ieee.double.word s 9218868437227405312 := by
    unfold wholeF FloatKind.encode FloatKind.decode Datum.integral
    rw [fmt, read_inf]
    simp only [Format.write, d_inf]
  refine ⟨?_, ?_⟩
  · unfold nanF FloatKind.decode
    rw [fmt, read_inf]
    rfl
  · rw [hw]
    unfold inF geF leF
    rw [fmt]
    unfold Format.order
    rw [read_inf, read_low, read_high]
    cases s <;> rfl
theorem nearest_great (s : Bool) (m u : Nat) (h1 : 2 ^ 52 ≤ m) (h2 : m < 2 ^ 53) :
    Ieee.double.nearest s (m * 2 ^ u) 0 = Ieee.double.word s (min ((u + 1074) * 4503599627370496 + m) 9218868437227405312) := by
  have h0 : m ≠ 0 := by rw [p52] at h1; omega
  have hp : 0 < 2 ^ u := Nat.pow_pos (by decide)
  unfold Format.nearest
  rw [if_neg (Nat.mul_ne_zero h0 (by omega)), d_least, d_binade, d_inf, d_frac, log2_mul_pow h0, log2_of h1 h2]
  simp only [cut_rne]
  have e1 : max (0 + ((52 + u : Nat) : Int) - ((52 : Nat) : Int)) (-1074) = (u : Int) := by omega
  rw [e1, show (0 - (u : Int)).toNat = 0 by omega, show ((u : Int) - 0).toNat = u by omega, Nat.shiftLeft_zero, rne_shift, show ((u : Int) - -1074).toNat = u + 1074 by omega]
theorem fix_big {b f : Nat} (hf : f ≤ 15) {s : Bool} {m : Nat} {p : Int} (hr : Ieee.double.read b = .number s m p) (h1 : 2 ^ 52 ≤ m) (h2 : m < 2 ^ 53) (hp : -1074 ≤ p) (hu : 0 ≤ p + f) :
    nanF (scaled b f) = false ∧ inF (wholeF (scaled b f)) = false := by
  rw [scaled_num hf hr, nearest_normal s m (p + f) h1 h2 (by omega)]
  obtain ⟨u, hu2⟩ : ∃ u : Nat, p + f = (u : Int) := ⟨(p + f).toNat, by omega⟩
  rw [hu2, show ((u : Int) + 1074).toNat = u + 1074 by omega]
  by_cases hi : (u + 1074) * 4503599627370496 + m < 9218868437227405312
  · rw [Nat.min_eq_left (by omega)]
    have hrd : Ieee.double.read (Ieee.double.word s ((u + 1074) * 4503599627370496 + m)) = .number s m (u : Int) := by
      rw [p53] at h2
      rw [p52] at h1
      rw [read_word s _ hi, if_neg (by omega)]
      have e1 : 4503599627370496 + ((u + 1074) * 4503599627370496 + m) % 4503599627370496 = m := by omega
      have e2 : ((u + 1074) * 4503599627370496 + m) / 4503599627370496 - 1 = u + 1074 := by omega
      rw [e1, e2, show (-1074 + ((u + 1074 : Nat) : Int)) = (u : Int) by omega]
    refine ⟨nanF_num hrd, ?_⟩
    have hw : wholeF (Ieee.double.word s ((u + 1074) * 4503599627370496 + m)) = Ieee.double.word s ((u + 1074) * 4503599627370496 + m) := by
      rw [wholeF_num hrd, show ((u : Int)).toNat = u by omega, show (-(u : Int)).toNat = 0 by omega, rne_zero, Nat.shiftLeft_eq, nearest_great s m u h1 h2, Nat.min_eq_left (by omega)]
    rw [hw]
    have hbig : 2 ^ 52 ≤ m * 2 ^ u := by
      have hp : 1 ≤ 2 ^ u := Nat.pow_pos (by decide)
      have := Nat.mul_le_mul h1 hp
      omega
    rw [p52] at hbig
    unfold inF geF leF
    rw [fmt]
    unfold Format.order
    rw [hrd, read_low, read_high, ord_big, ord_big, cmp_ge, cmp_le, signed_low, signed_high]
    generalize m * 2 ^ u = q at *
    cases s
    · have : signed false q 0 = (q : Int) := by simp [signed]
      rw [this]
      simp
      omega
    · have : signed true q 0 = -(q : Int) := by simp [signed]
      rw [this]
      simp
      omega
  · rw [Nat.min_eq_right (by omega)]
    exact inf_out s
theorem fix_inf {b f : Nat} (hf : f ≤ 15) {s : Bool} (hr : Ieee.double.read b = .infinity s) :
    (FloatKind.f64.format.mul b (floatOfInt .f64 (2 ^ f))).isSome = true ∧ nanF (scaled b f) = false ∧ inF (wholeF (scaled b f)) = false := by
  have hc := pow_const f hf
  have hm : FloatKind.f64.format.mul b (floatOfInt .f64 (2 ^ f)) = some (Ieee.double.word s 9218868437227405312) := by
    rw [fmt]
    unfold Format.mul
    rw [hr, hc]
    simp only [Datum.product, p52]
    rw [if_neg (by decide)]
    simp only [Option.map_some, Format.write, Bool.xor_false, d_inf]
  have hsc : scaled b f = Ieee.double.word s 9218868437227405312 := by
    unfold scaled
    rw [hm, Option.getD_some]
  refine ⟨by rw [hm]; rfl, ?_⟩
  rw [hsc]
  exact inf_out s

end Go.Proofs.Ytkogapmggicanaa.G
