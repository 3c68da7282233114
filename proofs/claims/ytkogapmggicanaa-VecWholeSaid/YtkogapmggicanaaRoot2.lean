/- Contracts of the reference's roots. -/
import Derived.Test.YtkogapmggicanaaBase
namespace Go.Proofs.Ytkogapmggicanaa.G
open Go.RowKit Go.Shelf Go.Proofs.YtkogapmggicanaaW.PrintWords
set_option linter.unusedVariables false
set_option linter.unusedSimpArgs false

/-- r is the root of n, below. -/
def IsRoot (n r : Nat) : Prop := r * r ≤ n ∧ n < (r + 1) * (r + 1) ∧ r < 4294967296
theorem IsRoot.unique {n r s : Nat} (h : IsRoot n r) (k : IsRoot n s) : r = s := by
  obtain ⟨h1, h2, _⟩ := h
  obtain ⟨k1, k2, _⟩ := k
  rcases Nat.lt_trichotomy r s with hlt | he | hlt
  · have := Nat.mul_le_mul (Nat.succ_le_of_lt hlt) (Nat.succ_le_of_lt hlt)
    simp only [Nat.succ_eq_add_one] at this
    omega
  · exact he
  · have := Nat.mul_le_mul (Nat.succ_le_of_lt hlt) (Nat.succ_le_of_lt hlt)
    simp only [Nat.succ_eq_add_one] at this
    omega

theorem pow32 {i : Nat} (hi : 2 ^ i ≤ 4294967296) : IntKind.u64.wrap ((2 : Int) ^ i) = ((2 ^ i : Nat) : Int) := by
  rw [IntKind.wrap_u64]
  have : ((2 : Int) ^ i) = ((2 ^ i : Nat) : Int) := by simp
  rw [this]
  generalize 2 ^ i = p at *
  omega
theorem root_try (s i : Nat) (h : s + 2 ^ i * 2 ≤ 4294967296) : IntKind.u64.wrap (↑s + IntKind.u64.wrap (2 ^ i)) = ((s + 2 ^ i : Nat) : Int) := by
  rw [pow32 (by omega), IntKind.wrap_u64]
  omega
theorem root_sq (s i : Nat) (h : s + 2 ^ i * 2 ≤ 4294967296) : IntKind.u64.wrap (IntKind.u64.wrap (↑s + IntKind.u64.wrap (2 ^ i)) * IntKind.u64.wrap (↑s + IntKind.u64.wrap (2 ^ i))) = (((s + 2 ^ i) * (s + 2 ^ i) : Nat) : Int) := by
  have hp : 1 ≤ 2 ^ i := Nat.one_le_two_pow
  have ht : s + 2 ^ i ≤ 4294967295 := by omega
  rw [root_try s i h, IntKind.wrap_u64, ← Int.natCast_mul]
  generalize s + 2 ^ i = t at *
  have := Nat.mul_le_mul ht ht
  omega
theorem Floor2_calls (n : Nat) (w : World) (hn : n < 18446744073709551616) :
    Calls Try.prog 22 #[.int .u64 (n : Int)] w fun e w' => ∃ r : Nat, e = .returned (.int .u64 (r : Int)) ∧ Aside0 (IsRoot n r) ∧ w = w' := by
  go_enter Try.func22, Try.ntmps22
  go_wp2
  go_loopw [3, 4, 5] (fun r i _ wr => ∃ (q : Int) (s : Nat), -1 ≤ q ∧ q ≤ 31 ∧ i = .int .i64 q ∧ r = .int .u64 (s : Int) ∧ s + 2 ^ (q + 1).toNat ≤ 4294967296 ∧ Aside0 (s * s ≤ n ∧ n < (s + 2 ^ (q + 1).toNat) * (s + 2 ^ (q + 1).toNat)) ∧ Aside0 (w = wr)) (fun _ i _ _ => (intOf i + 1).toNat)
  case atStart => exact ⟨31, 0, by omega, by omega, rfl, rfl, by decide, ⟨by omega, by show n < _; exact Nat.lt_of_lt_of_le hn (by decide)⟩, ⟨rfl⟩⟩
  case round =>
    obtain ⟨q, s, hq0, hq1, rfl, rfl, hs, HI, HW⟩ := hrel
    by_cases hq : 0 ≤ q
    · obtain ⟨i, rfl⟩ : ∃ i : Nat, q = i := ⟨q.toNat, by omega⟩
      have e1 : ((i : Int) + 1).toNat = i + 1 := by omega
      rw [e1, Nat.pow_succ] at hs HI
      have hi32 : i ≤ 31 := by omega
      have hp1 : 1 ≤ 2 ^ i := Nat.one_le_two_pow
      have E1 := Aside0.mk (root_try s i hs)
      have E2 := Aside0.mk (root_sq s i hs)
      go_wp2
      · have ht : IntKind.u64.wrap (IntKind.u64.wrap (↑s + IntKind.u64.wrap (2 ^ i)) * IntKind.u64.wrap (↑s + IntKind.u64.wrap (2 ^ i))) ≤ (n : Int) := by assumption
        rw [E2.out] at ht
        go_roundw
        case rel =>
          refine ⟨(i : Int) - 1, s + 2 ^ i, by omega, by omega, rfl, by rw [E1.out], ?_, ⟨?_, ?_⟩, HW⟩
          · rw [show ((i : Int) - 1 + 1).toNat = i by omega]; omega
          · exact Int.ofNat_le.1 ht
          · rw [show ((i : Int) - 1 + 1).toNat = i by omega]
            have := HI.out.2
            rwa [show s + 2 ^ i + 2 ^ i = s + 2 ^ i * 2 by omega]
        case measure => simp [intOf]
      · have ht : (n : Int) < IntKind.u64.wrap (IntKind.u64.wrap (↑s + IntKind.u64.wrap (2 ^ i)) * IntKind.u64.wrap (↑s + IntKind.u64.wrap (2 ^ i))) := by assumption
        rw [E2.out] at ht
        go_roundw
        case rel =>
          refine ⟨(i : Int) - 1, s, by omega, by omega, rfl, rfl, ?_, ⟨HI.out.1, ?_⟩, HW⟩
          · rw [show ((i : Int) - 1 + 1).toNat = i by omega]; omega
          · rw [show ((i : Int) - 1 + 1).toNat = i by omega]
            exact Int.ofNat_lt.1 ht
        case measure => simp [intOf]
    · obtain rfl : q = -1 := by omega
      obtain rfl := HW.out
      have h1 : s + 1 ≤ 4294967296 := by simpa using hs
      have h2 := HI.out
      rw [show ((-1 : Int) + 1).toNat = 0 from rfl, Nat.pow_zero] at h2
      go_wp2
      go_ret
      exact ⟨s, rfl, ⟨h2.1, h2.2, by omega⟩, rfl⟩

/-- r is the root of n, above. -/
def IsCeil (n r : Nat) : Prop := n ≤ r * r ∧ (∀ s, n ≤ s * s → r ≤ s) ∧ r ≤ 4294967296
theorem Ceil2_calls (n : Nat) (w : World) (hn : n < 18446744073709551616) :
    Calls Try.prog 23 #[.int .u64 (n : Int)] w fun e w' => ∃ r : Nat, e = .returned (.int .u64 (r : Int)) ∧ Aside0 (IsCeil n r) ∧ w = w' := by
  go_enter Try.func23, Try.ntmps23
  go_wp2_with (go_at_call 22; refine (Floor2_calls n _ hn).mono ?_; rintro e w1 ⟨r, rfl, HR, rfl⟩)
  all_goals have hr := HR.out
  · have ht : IntKind.u64.wrap ((r : Int) * r) < (n : Int) := by assumption
    obtain ⟨h1, h2, h3⟩ := hr
    have e : IntKind.u64.wrap ((r : Int) * r) = ((r * r : Nat) : Int) := by
      rw [IntKind.wrap_u64, ← Int.natCast_mul]
      omega
    rw [e] at ht
    have e2 : IntKind.u64.wrap ((r : Int) + 1) = ((r + 1 : Nat) : Int) := by rw [IntKind.wrap_u64]; omega
    go_ret
    refine ⟨r + 1, by rw [← e2]; rfl, ⟨by omega, fun s hs => ?_, by omega⟩, rfl⟩
    rcases Nat.lt_or_ge s (r + 1) with hlt | hge
    · have := Nat.mul_le_mul (Nat.le_of_lt_succ hlt) (Nat.le_of_lt_succ hlt)
      omega
    · exact hge
  · have ht : (n : Int) ≤ IntKind.u64.wrap ((r : Int) * r) := by assumption
    obtain ⟨h1, h2, h3⟩ := hr
    have e : IntKind.u64.wrap ((r : Int) * r) = ((r * r : Nat) : Int) := by
      rw [IntKind.wrap_u64, ← Int.natCast_mul]
      omega
    rw [e] at ht
    go_ret
    refine ⟨r, rfl, ⟨by omega, fun s hs => ?_, by omega⟩, rfl⟩
    rcases Nat.lt_or_ge s r with hlt | hge
    · have := Nat.mul_le_mul (Nat.succ_le_of_lt hlt) (Nat.succ_le_of_lt hlt)
      have h5 : (s + 1) * (s + 1) = s * s + 2 * s + 1 := by grind
      simp only [Nat.succ_eq_add_one] at this
      omega
    · exact hge

end Go.Proofs.Ytkogapmggicanaa.G
