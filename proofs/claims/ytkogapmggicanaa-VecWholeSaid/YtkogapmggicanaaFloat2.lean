/- The plain law of vec.Fixed: what is within the bounds, and what it is. -/
import Derived.Test.YtkogapmggicanaaFloat
namespace Go.Proofs.Ytkogapmggicanaa.G
open Go.RowKit Go.Shelf Go.Proofs.YtkogapmggicanaaW.PrintWords Ieee
set_option linter.unusedVariables false
set_option linter.unusedSimpArgs false

theorem cmp_scale (x y : Int) (q : Nat) : compare (x * 2 ^ q) (y * 2 ^ q) = compare x y := by
  have hp : (0 : Int) < 2 ^ q := Int.pow_pos (by decide)
  rcases Int.lt_trichotomy x y with h | h | h
  · rw [Int.compare_eq_lt.2 h, Int.compare_eq_lt.2 (Int.mul_lt_mul_of_pos_right h hp)]
  · subst h
    simp
  · rw [Int.compare_eq_gt.2 h, Int.compare_eq_gt.2 (Int.mul_lt_mul_of_pos_right h hp)]
theorem signed_scale (s : Bool) (n q : Nat) : signed s n q = signed s n 0 * 2 ^ q := by
  unfold signed
  rw [Nat.shiftLeft_eq, Nat.shiftLeft_eq]
  cases s <;> simp [Int.neg_mul]
theorem signed_mul (s : Bool) (n e q : Nat) : signed s (n * 2 ^ e) q = signed s n 0 * 2 ^ (e + q) := by
  unfold signed
  rw [Nat.shiftLeft_eq, Nat.shiftLeft_eq, Nat.mul_assoc, ← Nat.pow_add]
  cases s <;> simp [Int.neg_mul]
theorem ord_int (s : Bool) (N e : Nat) (t : Bool) (K d : Nat) : Datum.order (.number s (N * 2 ^ e) (-(e : Int))) (.number t (K * 2 ^ d) (-(d : Int))) = some (compare (signed s N 0) (signed t K 0)) := by
  unfold Datum.order
  simp only []
  rw [signed_mul, signed_mul]
  have e1 : e + (-(e : Int) - min (-(e : Int)) (-(d : Int))).toNat = max e d := by omega
  have e2 : d + (-(d : Int) - min (-(e : Int)) (-(d : Int))).toNat = max e d := by omega
  rw [e1, e2, cmp_scale]
theorem ord_big (s : Bool) (m u : Nat) (t : Bool) (K d : Nat) : Datum.order (.number s m (u : Int)) (.number t (K * 2 ^ d) (-(d : Int))) = some (compare (signed s (m * 2 ^ u) 0) (signed t K 0)) := by
  unfold Datum.order
  simp only []
  have e1 : ((u : Int) - min (u : Int) (-(d : Int))).toNat = u + d := by omega
  have e2 : (-(d : Int) - min (u : Int) (-(d : Int))).toNat = 0 := by omega
  rw [e1, e2, signed_mul t K d 0, signed_scale s m (u + d), signed_mul s m u 0]
  rw [Int.pow_add, ← Int.mul_assoc, Nat.add_zero, Nat.add_zero, cmp_scale]
theorem read_low : Ieee.double.read lowF = .number true (32768 * 2 ^ 37) (-((37 : Nat) : Int)) := by decide +kernel
theorem read_high : Ieee.double.read highF = .number false (32767 * 2 ^ 38) (-((38 : Nat) : Int)) := by decide +kernel

/-- A word that stands for a whole number. -/
def IsWhole (w : Nat) (v : Int) : Prop := ∃ s N e, Ieee.double.read w = .number s (N * 2 ^ e) (-((e : Nat) : Int)) ∧ v = signed s N 0
theorem cmp_ge (x y : Int) : (some (compare x y) == some Ordering.gt || some (compare x y) == some Ordering.eq) = decide (y ≤ x) := by
  rcases Int.lt_trichotomy x y with h | h | h
  · rw [Int.compare_eq_lt.2 h, decide_eq_false (by omega)]; rfl
  · subst h; simp
  · rw [Int.compare_eq_gt.2 h, decide_eq_true (by omega)]; rfl
theorem cmp_le (x y : Int) : (some (compare x y) == some Ordering.lt || some (compare x y) == some Ordering.eq) = decide (x ≤ y) := by
  rcases Int.lt_trichotomy x y with h | h | h
  · rw [Int.compare_eq_lt.2 h, decide_eq_true (by omega)]; rfl
  · subst h; simp
  · rw [Int.compare_eq_gt.2 h, decide_eq_false (by omega)]; rfl
theorem signed_low : signed true 32768 0 = -32768 := by decide
theorem signed_high : signed false 32767 0 = 32767 := by decide
theorem inF_whole {w : Nat} {v : Int} (h : IsWhole w v) : inF w = decide (-32768 ≤ v ∧ v ≤ 32767) := by
  obtain ⟨s, N, e, hr, rfl⟩ := h
  have g : geF w lowF = decide (-32768 ≤ signed s N 0) := by
    unfold geF
    rw [show FloatKind.f64.format.order w lowF = some (compare (signed s N 0) (-32768)) by
      rw [fmt]; unfold Format.order; rw [hr, read_low, ord_int, signed_low]]
    exact cmp_ge _ _
  have l : leF w highF = decide (signed s N 0 ≤ 32767) := by
    unfold leF
    rw [show FloatKind.f64.format.order w highF = some (compare (signed s N 0) 32767) by
      rw [fmt]; unfold Format.order; rw [hr, read_high, ord_int, signed_high]]
    exact cmp_le _ _
  unfold inF
  rw [g, l, Bool.decide_and]
theorem int_whole {w : Nat} {v : Int} (h : IsWhole w v) : floatToIntVal .f64 w .i16 = if -32768 ≤ v ∧ v ≤ 32767 then some v else none := by
  obtain ⟨s, N, e, hr, rfl⟩ := h
  have hc : Toward.zero.cut s (N * 2 ^ e) e = N := by
    simp only [Toward.cut, Nat.shiftLeft_eq, Nat.one_mul, Bool.toNat_false, Nat.add_zero]
    have hp : 0 < 2 ^ e := Nat.pow_pos (by decide)
    by_cases h0 : N = 0
    · subst h0; simp
    · rw [log2_mul_pow h0, Nat.min_eq_left (by omega), Nat.mul_div_cancel _ hp]
  unfold floatToIntVal
  have ht : (FloatKind.f64.decode w).toInt .zero = some (signed s N 0) := by
    unfold FloatKind.decode Datum.toInt Datum.integral
    rw [fmt, hr]
    simp only []
    have e1 : (-((e : Nat) : Int)).toNat = 0 := by omega
    have e2 : (-(-((e : Nat) : Int))).toNat = e := by omega
    rw [e1, e2, Nat.shiftLeft_zero, hc]
  rw [ht]
  have m1 : IntKind.i16.min = -32768 := by decide
  have m2 : IntKind.i16.max = 32767 := by decide
  simp only [m1, m2]
theorem whole_zero {w : Nat} {s : Bool} (k : Nat) (h : Ieee.double.read w = .number s 0 (-(k : Int))) : IsWhole w (signed s 0 0) := ⟨s, 0, k, by rw [h, Nat.zero_mul], rfl⟩
theorem whole_nearest (s : Bool) (N : Nat) (h : N < 2 ^ 53) : IsWhole (Ieee.double.nearest s N 0) (signed s N 0) := by
  by_cases h0 : N = 0
  · subst h0
    refine whole_zero 1074 ?_
    unfold Format.nearest
    rw [if_pos rfl, read_word s 0 (by decide), if_pos (by decide)]
    rfl
  · have hl : N.log2 ≤ 52 := by
      have := (Nat.log2_lt h0).2 h
      omega
    exact ⟨s, N, 52 - N.log2, by rw [read_whole s N h0 h]; congr 1; omega, rfl⟩

/-! ### the product -/
theorem pow_const (f : Nat) (hf : f ≤ 15) : Ieee.double.read (floatOfInt .f64 (2 ^ f)) = .number false (2 ^ 52) ((f : Int) - 52) := by
  have h1 : ((2 : Int) ^ f).natAbs = 2 ^ f := by rw [Int.natAbs_pow]; rfl
  have h2 : decide ((2 : Int) ^ f < 0) = false := decide_eq_false (by have : (0 : Int) < 2 ^ f := Int.pow_pos (by decide); omega)
  have h3 : 2 ^ f ≤ 2 ^ 15 := Nat.pow_le_pow_right (by decide) hf
  have h4 : 0 < 2 ^ f := Nat.pow_pos (by decide)
  have e : floatOfInt .f64 (2 ^ f) = Ieee.double.nearest false (2 ^ f) 0 := by
    unfold floatOfInt FloatKind.nearest FloatKind.encode
    rw [fmt, h1]
    simp only [h2, Format.write]
  rw [e, read_whole false (2 ^ f) (by omega) (by omega), Nat.log2_two_pow, ← Nat.pow_add, show f + (52 - f) = 52 by omega]
theorem mul_num {b f : Nat} (hf : f ≤ 15) {s : Bool} {m : Nat} {p : Int} (hr : Ieee.double.read b = .number s m p) :
    FloatKind.f64.format.mul b (floatOfInt .f64 (2 ^ f)) = some (Ieee.double.nearest s (m * 2 ^ 52) (p + f - 52)) := by
  have hc := pow_const f hf
  rw [fmt]
  unfold Format.mul
  rw [hr]
  rw [hc]
  simp only [Datum.product, Option.map_some, Format.write, Bool.xor_false]
  rw [show p + ((f : Int) - 52) = p + f - 52 by omega]
theorem scaled_num {b f : Nat} (hf : f ≤ 15) {s : Bool} {m : Nat} {p : Int} (hr : Ieee.double.read b = .number s m p) : scaled b f = Ieee.double.nearest s (m * 2 ^ 52) (p + f - 52) := by
  unfold scaled
  rw [mul_num hf hr, Option.getD_some]
/-- Below one unit's place. -/
theorem fix_frac {b f : Nat} (hf : f ≤ 15) {s : Bool} {m : Nat} {p : Int} (hr : Ieee.double.read b = .number s m p) (h1 : 2 ^ 52 ≤ m) (h2 : m < 2 ^ 53) (hp : -1074 ≤ p) (hu : p + f < 0) :
    nanF (scaled b f) = false ∧ IsWhole (wholeF (scaled b f)) (signed s (rne m (-(p + f)).toNat) 0) := by
  rw [scaled_num hf hr, nearest_normal s m (p + f) h1 h2 (by omega)]
  have h53 : (2 : Nat) ^ 53 = 9007199254740992 := by decide
  have h52 : (2 : Nat) ^ 52 = 4503599627370496 := by decide
  obtain ⟨u, hu2⟩ : ∃ u : Nat, (p + f + 1074).toNat = u := ⟨_, rfl⟩
  have hu3 : p + f = (u : Int) - 1074 := by omega
  rw [hu2, Nat.min_eq_left (by rw [h53] at h2; omega)]
  have hrd : Ieee.double.read (Ieee.double.word s (u * 4503599627370496 + m)) = .number s m (p + f) := by
    rw [h53] at h2
    rw [h52] at h1
    rw [read_word s _ (by omega), if_neg (by omega)]
    have e1 : 4503599627370496 + (u * 4503599627370496 + m) % 4503599627370496 = m := by omega
    have e2 : (u * 4503599627370496 + m) / 4503599627370496 - 1 = u := by omega
    rw [e1, e2]
    congr 1
    omega
  refine ⟨?_, ?_⟩
  · unfold nanF FloatKind.decode
    rw [fmt, hrd]
    rfl
  · have hw : wholeF (Ieee.double.word s (u * 4503599627370496 + m)) = Ieee.double.nearest s (rne m (-(p + f)).toNat) 0 := by
      unfold wholeF FloatKind.encode FloatKind.decode Datum.integral
      rw [fmt, hrd]
      simp only [Format.write]
      rw [show (p + (f : Int)).toNat = 0 by omega, Nat.shiftLeft_zero, cut_rne]
    rw [hw]
    exact whole_nearest s _ (Nat.lt_of_le_of_lt (rne_le h2 (by omega)) (by decide))

end Go.Proofs.Ytkogapmggicanaa.G
