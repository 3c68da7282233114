/- Row VecFixed: its walk. -/
import Derived.Test.YtkogapmggicanaaRFix2
import Derived.Test.YtkogapmggicanaaVecL
namespace Go.Proofs.Ytkogapmggicanaa.G
open Go.RowKit Go.Shelf Go.Proofs.YtkogapmggicanaaW.PrintWords Ieee
set_option linter.unusedVariables false
set_option linter.unusedSimpArgs false

theorem out_signed (s : Bool) (N : Nat) : outV s (N : Int) = (if -32768 ≤ signed s N 0 ∧ signed s N 0 ≤ 32767 then signed s N 0 else 0) ∧ outE s (N : Int) = (if -32768 ≤ signed s N 0 ∧ signed s N 0 ≤ 32767 then 0 else 11) := by
  cases s
  · have : signed false N 0 = (N : Int) := by simp [signed]
    rw [this]
    simp only [outV, outE, Bool.false_eq_true, if_false]
    constructor <;> (repeat' split) <;> omega
  · have : signed true N 0 = -(N : Int) := by simp [signed]
    rw [this]
    simp only [outV, outE, if_true]
    constructor <;> (repeat' split) <;> omega
/-- Half to even, over the whole numbers. -/
theorem round_rne (M k : Nat) (hk : 1 ≤ k) : roundI ((M : Int) / 2 ^ k) ((M : Int) % 2 ^ k) (2 ^ (k - 1)) = (rne M k : Int) := by
  have h2 : (2 : Nat) ^ k = 2 * 2 ^ (k - 1) := by
    rw [show k = (k - 1) + 1 by omega, Nat.pow_succ, Nat.mul_comm]
    rfl
  have e1 : (M : Int) / 2 ^ k = ((M / 2 ^ k : Nat) : Int) := by simp
  have e2 : (M : Int) % 2 ^ k = ((M % 2 ^ k : Nat) : Int) := by simp
  have e3 : (2 : Int) ^ (k - 1) = ((2 ^ (k - 1) : Nat) : Int) := by simp
  unfold roundI rne
  rw [e1, e2, e3]
  generalize M / 2 ^ k = A
  generalize M % 2 ^ k = B at *
  rw [h2]
  generalize 2 ^ (k - 1) = H
  by_cases h : H < B ∨ (B = H ∧ A % 2 = 1)
  · rw [if_pos (by omega), if_pos (by omega)]
    omega
  · rw [if_neg (by omega), if_neg (by omega)]
    omega
theorem pow_small {k : Nat} (h : k ≤ 60) : IntKind.u64.wrap (2 ^ k) = 2 ^ k ∧ (0 : Int) < 2 ^ k := by
  have h1 : 2 ^ k ≤ 2 ^ 60 := Nat.pow_le_pow_right (by decide) h
  have h2 : 0 < 2 ^ k := Nat.pow_pos (by decide)
  have e : (2 : Int) ^ k = ((2 ^ k : Nat) : Int) := by simp
  rw [IntKind.wrap_u64, e]
  generalize 2 ^ k = q at *
  omega

theorem both_fixed (x frac : Int) (w : World) (h0 : 0 ≤ x) (h1 : x < 18446744073709551616) :
    (0 ≤ frac → frac ≤ 15 → nanF x.toNat = false → FixOk x.toNat frac.toNat) ∧
    Calls Try.prog 17 #[.int .u64 x, .int .i64 frac] w fun e w' => e = .returned (.tuple #[.int .i16 (fixV x frac), .int .i64 (fixE x frac)]) ∧ Below w.heap.size w w' := by
  by_cases hf : frac < 0 ∨ frac > 15
  · refine ⟨fun a b _ => by omega, ?_⟩
    have hb := rfix_bad x frac w hf
    rw [show fixV x frac = 0 by simp [fixV, hf], show fixE x frac = 2 by simp [fixE, hf]]
    exact hb
  have hf0 : 0 ≤ frac := by omega
  have hf1 : frac ≤ 15 := by omega
  obtain ⟨X, rfl⟩ : ∃ X : Nat, x = (X : Int) := ⟨x.toNat, by omega⟩
  have hX : X < 18446744073709551616 := by omega
  have hbits := read_bits X hX
  obtain ⟨P, hP⟩ : ∃ P, X / 4503599627370496 % 2048 = P := ⟨_, rfl⟩
  obtain ⟨T, hT⟩ : ∃ T, X % 4503599627370496 = T := ⟨_, rfl⟩
  obtain ⟨s, hs⟩ : ∃ s, (X / 9223372036854775808 == 1) = s := ⟨_, rfl⟩
  rw [hP, hT, hs] at hbits
  have hPi : (X : Int) / 4503599627370496 % 2048 = (P : Int) := by omega
  have hTi : (X : Int) % 4503599627370496 = (T : Int) := by omega
  have hP2 : P ≤ 2047 := by omega
  have hT2 : T < 4503599627370496 := by omega
  by_cases p0 : P = 0
  · rw [if_pos p0] at hbits
    obtain ⟨a1, a2⟩ := fix_tiny (f := frac.toNat) (by omega) hbits (by rw [p52]; exact hT2)
    obtain ⟨k1, k2, k3⟩ := fix_of_whole (x := (X : Int)) hf0 hf1 hbits a1 a2
    refine ⟨fun _ _ _ => k1, ?_⟩
    rw [k2, k3]
    exact rfix_zero X frac w h0 h1 hf0 hf1 P T hPi hTi (by omega) (by omega) (by omega) (by omega) (by omega)
  rw [if_neg p0] at hbits
  by_cases p1 : P < 2047
  · rw [if_pos p1] at hbits
    have q1 : 2 ^ 52 ≤ 4503599627370496 + T := by rw [p52]; omega
    have q2 : 4503599627370496 + T < 2 ^ 53 := by rw [p53]; omega
    by_cases hu : (P : Int) - 1075 + frac < 0
    · obtain ⟨a1, a2⟩ := fix_frac (f := frac.toNat) (by omega) hbits q1 q2 (by omega) (by omega)
      obtain ⟨k, hk⟩ : ∃ k : Nat, (P : Int) - 1075 + frac = -(k : Int) := ⟨(-((P : Int) - 1075 + frac)).toNat, by omega⟩
      rw [show (-(-1074 + ((P - 1 : Nat) : Int) + ((frac.toNat : Nat) : Int))).toNat = k by omega] at a2
      obtain ⟨k1, k2, k3⟩ := fix_of_whole (x := (X : Int)) hf0 hf1 hbits a1 a2
      refine ⟨fun _ _ _ => k1, ?_⟩
      obtain ⟨o1, o2⟩ := out_signed s (rne (4503599627370496 + T) k)
      rw [k2, k3, ← o1, ← o2]
      by_cases hk60 : k ≤ 60
      · obtain ⟨g1, g2⟩ := pow_small hk60
        obtain ⟨g3, g4⟩ := pow_small (k := k - 1) (by omega)
        have hr := round_rne (4503599627370496 + T) k (by omega)
        have ec : ((4503599627370496 + T : Nat) : Int) = (T : Int) + 4503599627370496 := by omega
        rw [ec] at hr
        rw [← hr]
        have hA1 : ((T : Int) + 4503599627370496) / 2 ^ k ≤ 4503599627370496 := by
          have e : ((T : Int) + 4503599627370496) / 2 ^ k = (((T + 4503599627370496) / 2 ^ k : Nat) : Int) := by simp
          have h2 : (T + 4503599627370496) / 2 ^ k ≤ (T + 4503599627370496) / 2 ^ 1 := Nat.div_le_div_left (Nat.pow_le_pow_right (by decide) (by omega)) (by decide)
          rw [e]
          generalize (T + 4503599627370496) / 2 ^ k = q at *
          omega
        exact rfix_frac X frac w h0 h1 hf0 hf1 P T _ _ (2 ^ k) (2 ^ (k - 1)) (((X / 9223372036854775808 : Nat)) : Int) s hPi hTi k hk hk60 (by omega) (by omega) (by omega) (by omega) (by omega)
          g1 g3 rfl rfl (Int.ediv_nonneg (by omega) (by omega)) hA1 (by omega) g2 (Int.emod_nonneg _ (by omega)) (by omega)
          (by
            have h2 : X / 9223372036854775808 = 0 ∨ X / 9223372036854775808 = 1 := by omega
            rcases h2 with h2 | h2
            · exact .inl ⟨by rw [h2]; rfl, by rw [← hs, h2]; rfl⟩
            · exact .inr ⟨by rw [h2]; rfl, by rw [← hs, h2]; rfl⟩)
      · rw [rne_small q2 (by omega)]
        have hz := rfix_zero X frac w h0 h1 hf0 hf1 P T hPi hTi (by omega) (by omega) (by omega) (by omega) (by omega)
        have z1 : outV s ((0 : Nat) : Int) = 0 := by cases s <;> rfl
        have z2 : outE s ((0 : Nat) : Int) = 0 := by cases s <;> rfl
        rw [z1, z2]
        exact hz
    · obtain ⟨a1, a2⟩ := fix_big (f := frac.toNat) (by omega) hbits q1 q2 (by omega) (by omega)
      have hn := nanF_num hbits
      obtain ⟨k, hk⟩ : ∃ k : Nat, (P : Int) - 1075 + frac = (k : Int) := ⟨((P : Int) - 1075 + frac).toNat, by omega⟩
      have e1 : fixV (X : Int) frac = 0 := by
        unfold fixV
        rw [if_neg (by omega), Int.toNat_natCast, hn, a2]
        rfl
      have e2 : fixE (X : Int) frac = 11 := by
        unfold fixE
        rw [if_neg (by omega), Int.toNat_natCast, hn, a2]
        rfl
      refine ⟨fun _ _ _ => ⟨by rw [Int.toNat_natCast, mul_num (by omega) hbits]; rfl, a1, fun h => by rw [Int.toNat_natCast, a2] at h; cases h⟩, ?_⟩
      rw [e1, e2]
      refine rfix_big X frac w h0 h1 hf0 hf1 P T _ hPi hTi k hk (by omega) (by omega) (by omega) (by omega) rfl fun hk11 => ?_
      have h2 : 2 ^ k ≤ 2 ^ 11 := Nat.pow_le_pow_right (by decide) hk11
      have h3 : 1 ≤ 2 ^ k := Nat.pow_pos (by decide)
      have e : ((T : Int) + 4503599627370496) * 2 ^ k = (((T + 4503599627370496) * 2 ^ k : Nat) : Int) := by simp
      rw [e, IntKind.wrap_u64]
      have h4 : (T + 4503599627370496) * 2 ^ k ≤ (T + 4503599627370496) * 2 ^ 11 := Nat.mul_le_mul_left _ h2
      have h5 : (T + 4503599627370496) * 1 ≤ (T + 4503599627370496) * 2 ^ k := Nat.mul_le_mul_left _ h3
      generalize (T + 4503599627370496) * 2 ^ k = q at *
      omega
  · rw [if_neg p1] at hbits
    have hP7 : P = 2047 := by omega
    subst hP7
    have hb := rfix_top X frac w h0 h1 hf0 hf1 T hPi hTi (by omega) (by omega)
    by_cases t0 : T = 0
    · rw [if_pos t0] at hbits
      obtain ⟨a0, a1, a2⟩ := fix_inf (f := frac.toNat) (by omega) hbits
      have hn : nanF X = false := by
        unfold nanF FloatKind.decode
        rw [fmt, hbits]
        rfl
      have e1 : fixV (X : Int) frac = 0 := by
        unfold fixV
        rw [if_neg (by omega), Int.toNat_natCast, hn, a2]
        rfl
      have e2 : fixE (X : Int) frac = 11 := by
        unfold fixE
        rw [if_neg (by omega), Int.toNat_natCast, hn, a2]
        rfl
      refine ⟨fun _ _ _ => ⟨by rw [Int.toNat_natCast]; exact a0, a1, fun h => by rw [Int.toNat_natCast, a2] at h; cases h⟩, ?_⟩
      rw [e1, e2]
      rw [if_neg (by omega)] at hb
      exact hb
    · rw [if_neg t0] at hbits
      have hn : nanF X = true := by
        unfold nanF FloatKind.decode
        rw [fmt, hbits]
        rfl
      have e1 : fixV (X : Int) frac = 0 := by
        unfold fixV
        rw [if_neg (by omega), Int.toNat_natCast, hn]
        rfl
      have e2 : fixE (X : Int) frac = 2 := by
        unfold fixE
        rw [if_neg (by omega), Int.toNat_natCast, hn]
        rfl
      refine ⟨fun _ _ h => (by rw [Int.toNat_natCast, hn] at h; cases h), ?_⟩
      rw [e1, e2]
      rw [if_pos (by omega)] at hb
      exact hb

set_option maxRecDepth 100000 in
theorem VecFixed_calls (x frac : Int) (w : World) (hw0 : (Lit.int .u64 x).wf = true) (hw1 : (Lit.int .i64 frac).wf = true) :
    Calls Try.prog 3 #[.int .u64 x, .int .i64 frac] w fun e w' => e = .returned (.bool true) ∧ Below w.heap.size w w' := by
  have hx : 0 ≤ x ∧ x < 18446744073709551616 := by
    have e1 : IntKind.u64.min = 0 := by decide
    have e2 : IntKind.u64.max = 18446744073709551615 := by decide
    simp [Lit.wf, e1, e2] at hw0
    omega
  have HF := Aside0.mk (fun W => Fixed_calls x frac W (both_fixed x frac W hx.1 hx.2).1)
  have HR := Aside0.mk (fun W => (both_fixed x frac W hx.1 hx.2).2)
  clear hw0 hw1 hx
  go_enter Try.func3, Try.ntmps3
  go_wp2_with fail
  refine (lives03_calls _).mono ?_
  rintro e w1 ⟨rfl, hb⟩
  have HB1 := Aside0.mk hb
  clear hb
  go_wp2_with fail
  refine (HF.out _).mono ?_
  rintro e w2 ⟨rfl, hb⟩
  have HB2 := Aside0.mk (bcomp HB1.out hb)
  clear hb
  go_wp2_with fail
  refine (HR.out _).mono ?_
  rintro e w3 ⟨rfl, hb⟩
  have HB3 := Aside0.mk (bcomp HB2.out hb)
  clear hb
  go_wp2_with fail
  go_ret
  exact ⟨rfl, HB3.out⟩

end Go.Proofs.Ytkogapmggicanaa.G
