/- Contracts of the kit's Same at whole numbers. -/
import Derived.Test.YtkogapmggicanaaBase
import Derived.Deep.QuietTactic
import Derived.BigQuiet
namespace Go.Proofs.Ytkogapmggicanaa.G
open Go.RowKit Go.Shelf Go.Proofs.YtkogapmggicanaaW.PrintWords
set_option linter.unusedVariables false
set_option linter.unusedSimpArgs false

def sameL (a b : List Int) : Bool := decide (a = b)
theorem sameL_ne {a b : List Int} (h : a.length ≠ b.length) : sameL a b = false := by
  unfold sameL
  exact decide_eq_false (fun e => h (by rw [e]))
theorem sameL_no {a b : List Int} {k : Nat} (h : a.getD k 0 ≠ b.getD k 0) : sameL a b = false := by
  unfold sameL
  exact decide_eq_false (fun e => h (by rw [e]))
theorem sameL_yes {a b : List Int} (hl : a.length = b.length) (h : ∀ j, j < a.length → a.getD j 0 = b.getD j 0) : sameL a b = true := by
  unfold sameL
  refine decide_eq_true (List.ext_getElem hl fun i h1 h2 => ?_)
  have := h i h1
  simpa [List.getD_eq_getElem?_getD, List.getElem?_eq_getElem h1, List.getElem?_eq_getElem h2] using this

theorem Same_int32_calls : ∀ (A0 : Option Addr) (c0 : Nat) (l0 : List Int) (A1 : Option Addr) (c1 : Nat) (l1 : List Int) (w : World) (hr0 : Kd.C (Kd.int .i32) w A0 l0.length l0) (hr1 : Kd.C (Kd.int .i32) w A1 l1.length l1),
    Calls Try.prog 21 #[.slice A0 l0.length c0, .slice A1 l1.length c1] w fun e w' => e = .returned (.bool (sameL l0 l1)) ∧ Below w.heap.size w w' := by
  intro A0 c0 l0 A1 c1 l1 w hr0 hr1
  have hmax := C_max hr0
  have hmax1 := C_max hr1
  by_cases hl : l0.length = l1.length
  · have hq : ((l0.length : Int) != (l1.length : Int)) = false := by simp [hl]
    have HC := Aside0.mk (C_ints hr0)
    have HC1 := Aside0.mk (C_ints hr1)
    have HL := Aside0.mk hl
    clear hr0 hr1 hl
    go_enter Try.func21, Try.ntmps21
    go_wp2
    go_loopw [5] (fun i wr => ∃ k : Nat, k ≤ l0.length ∧ i = .int .i64 k ∧ Aside0 (∀ j, j < k → l0.getD j 0 = l1.getD j 0) ∧ Aside0 (Below w.heap.size w wr)) (fun i _ => l0.length - (intOf i).toNat)
    case atStart => exact ⟨0, by omega, rfl, ⟨fun j h => absurd h (Nat.not_lt_zero _)⟩, ⟨Below.refl _ _⟩⟩
    case round =>
      obtain ⟨k, hk, rfl, HE, HB⟩ := hrel
      by_cases hlt : k < l0.length
      · have hlt1 : k < l1.length := by have := HL.out; omega
        have hi0 : (0 : Int) ≤ (k : Int) := by omega
        have hi1 : (k : Int) < (l0.length : Int) := by omega
        have hi2 : (k : Int) < (l1.length : Int) := by omega
        obtain ⟨ad, rfl, hx⟩ := HC.out k hlt
        obtain ⟨ad1, rfl, hy⟩ := HC1.out k hlt1
        have hx := pw_cell_below HB.out hx
        have hy := pw_cell_below HB.out hy
        by_cases he : l0.getD k 0 = l1.getD k 0
        · have HE2 := Aside0.mk (show ∀ j, j < k + 1 → l0.getD j 0 = l1.getD j 0 from fun j hj => by rcases Nat.lt_succ_iff_lt_or_eq.1 hj with h | rfl; exact HE.out j h; exact he)
          rw [he] at hx
          clear he
          generalize l1.getD k 0 = x at *
          go_wp2
          go_quiet (fail)
          go_wp2
          go_roundw
          case rel => exact ⟨k + 1, by omega, by go_num, HE2, ⟨pw_below_drewN HB.out _⟩⟩
          case measure => simp [intOf]; omega
        · have HF := Aside0.mk (sameL_no he)
          have hne : (l0.getD k 0 != l1.getD k 0) = true := by simpa using he
          have hne2 : (l0.getD k 0 == l1.getD k 0) = false := by simpa using he
          clear he
          generalize l0.getD k 0 = x at *
          generalize l1.getD k 0 = y at *
          go_wp2
          go_quiet (fail)
          go_wp2
          go_ret
          exact ⟨by rw [HF.out]; rfl, pw_below_drewN HB.out _⟩
      · obtain rfl : k = l0.length := by omega
        have HF := Aside0.mk (sameL_yes HL.out HE.out)
        go_wp2
        go_ret
        exact ⟨by rw [HF.out]; rfl, HB.out⟩
  · have HF := Aside0.mk (sameL_ne hl)
    have hq : ((l0.length : Int) != (l1.length : Int)) = true := by simp; omega
    clear hr0 hr1 hl
    go_enter Try.func21, Try.ntmps21
    go_wp2
    go_ret
    exact ⟨by rw [HF.out]; rfl, Below.refl _ _⟩

theorem Same_int16_calls : ∀ (A0 : Option Addr) (c0 : Nat) (l0 : List Int) (A1 : Option Addr) (c1 : Nat) (l1 : List Int) (w : World) (hr0 : Kd.C (Kd.int .i16) w A0 l0.length l0) (hr1 : Kd.C (Kd.int .i16) w A1 l1.length l1),
    Calls Try.prog 30 #[.slice A0 l0.length c0, .slice A1 l1.length c1] w fun e w' => e = .returned (.bool (sameL l0 l1)) ∧ Below w.heap.size w w' := by
  intro A0 c0 l0 A1 c1 l1 w hr0 hr1
  have hmax := C_max hr0
  have hmax1 := C_max hr1
  by_cases hl : l0.length = l1.length
  · have hq : ((l0.length : Int) != (l1.length : Int)) = false := by simp [hl]
    have HC := Aside0.mk (C_ints hr0)
    have HC1 := Aside0.mk (C_ints hr1)
    have HL := Aside0.mk hl
    clear hr0 hr1 hl
    go_enter Try.func30, Try.ntmps30
    go_wp2
    go_loopw [5] (fun i wr => ∃ k : Nat, k ≤ l0.length ∧ i = .int .i64 k ∧ Aside0 (∀ j, j < k → l0.getD j 0 = l1.getD j 0) ∧ Aside0 (Below w.heap.size w wr)) (fun i _ => l0.length - (intOf i).toNat)
    case atStart => exact ⟨0, by omega, rfl, ⟨fun j h => absurd h (Nat.not_lt_zero _)⟩, ⟨Below.refl _ _⟩⟩
    case round =>
      obtain ⟨k, hk, rfl, HE, HB⟩ := hrel
      by_cases hlt : k < l0.length
      · have hlt1 : k < l1.length := by have := HL.out; omega
        have hi0 : (0 : Int) ≤ (k : Int) := by omega
        have hi1 : (k : Int) < (l0.length : Int) := by omega
        have hi2 : (k : Int) < (l1.length : Int) := by omega
        obtain ⟨ad, rfl, hx⟩ := HC.out k hlt
        obtain ⟨ad1, rfl, hy⟩ := HC1.out k hlt1
        have hx := pw_cell_below HB.out hx
        have hy := pw_cell_below HB.out hy
        by_cases he : l0.getD k 0 = l1.getD k 0
        · have HE2 := Aside0.mk (show ∀ j, j < k + 1 → l0.getD j 0 = l1.getD j 0 from fun j hj => by rcases Nat.lt_succ_iff_lt_or_eq.1 hj with h | rfl; exact HE.out j h; exact he)
          rw [he] at hx
          clear he
          generalize l1.getD k 0 = x at *
          go_wp2
          go_quiet (fail)
          go_wp2
          go_roundw
          case rel => exact ⟨k + 1, by omega, by go_num, HE2, ⟨pw_below_drewN HB.out _⟩⟩
          case measure => simp [intOf]; omega
        · have HF := Aside0.mk (sameL_no he)
          have hne : (l0.getD k 0 != l1.getD k 0) = true := by simpa using he
          have hne2 : (l0.getD k 0 == l1.getD k 0) = false := by simpa using he
          clear he
          generalize l0.getD k 0 = x at *
          generalize l1.getD k 0 = y at *
          go_wp2
          go_quiet (fail)
          go_wp2
          go_ret
          exact ⟨by rw [HF.out]; rfl, pw_below_drewN HB.out _⟩
      · obtain rfl : k = l0.length := by omega
        have HF := Aside0.mk (sameL_yes HL.out HE.out)
        go_wp2
        go_ret
        exact ⟨by rw [HF.out]; rfl, HB.out⟩
  · have HF := Aside0.mk (sameL_ne hl)
    have hq : ((l0.length : Int) != (l1.length : Int)) = true := by simp; omega
    clear hr0 hr1 hl
    go_enter Try.func30, Try.ntmps30
    go_wp2
    go_ret
    exact ⟨by rw [HF.out]; rfl, Below.refl _ _⟩

theorem Same_byte_calls : ∀ (A0 : Option Addr) (c0 : Nat) (l0 : List Int) (A1 : Option Addr) (c1 : Nat) (l1 : List Int) (w : World) (hr0 : Kd.C (Kd.int .u8) w A0 l0.length l0) (hr1 : Kd.C (Kd.int .u8) w A1 l1.length l1),
    Calls Try.prog 40 #[.slice A0 l0.length c0, .slice A1 l1.length c1] w fun e w' => e = .returned (.bool (sameL l0 l1)) ∧ Below w.heap.size w w' := by
  intro A0 c0 l0 A1 c1 l1 w hr0 hr1
  have hmax := C_max hr0
  have hmax1 := C_max hr1
  by_cases hl : l0.length = l1.length
  · have hq : ((l0.length : Int) != (l1.length : Int)) = false := by simp [hl]
    have HC := Aside0.mk (C_ints hr0)
    have HC1 := Aside0.mk (C_ints hr1)
    have HL := Aside0.mk hl
    clear hr0 hr1 hl
    go_enter Try.func40, Try.ntmps40
    go_wp2
    go_loopw [5] (fun i wr => ∃ k : Nat, k ≤ l0.length ∧ i = .int .i64 k ∧ Aside0 (∀ j, j < k → l0.getD j 0 = l1.getD j 0) ∧ Aside0 (Below w.heap.size w wr)) (fun i _ => l0.length - (intOf i).toNat)
    case atStart => exact ⟨0, by omega, rfl, ⟨fun j h => absurd h (Nat.not_lt_zero _)⟩, ⟨Below.refl _ _⟩⟩
    case round =>
      obtain ⟨k, hk, rfl, HE, HB⟩ := hrel
      by_cases hlt : k < l0.length
      · have hlt1 : k < l1.length := by have := HL.out; omega
        have hi0 : (0 : Int) ≤ (k : Int) := by omega
        have hi1 : (k : Int) < (l0.length : Int) := by omega
        have hi2 : (k : Int) < (l1.length : Int) := by omega
        obtain ⟨ad, rfl, hx⟩ := HC.out k hlt
        obtain ⟨ad1, rfl, hy⟩ := HC1.out k hlt1
        have hx := pw_cell_below HB.out hx
        have hy := pw_cell_below HB.out hy
        by_cases he : l0.getD k 0 = l1.getD k 0
        · have HE2 := Aside0.mk (show ∀ j, j < k + 1 → l0.getD j 0 = l1.getD j 0 from fun j hj => by rcases Nat.lt_succ_iff_lt_or_eq.1 hj with h | rfl; exact HE.out j h; exact he)
          rw [he] at hx
          clear he
          generalize l1.getD k 0 = x at *
          go_wp2
          go_quiet (fail)
          go_wp2
          go_roundw
          case rel => exact ⟨k + 1, by omega, by go_num, HE2, ⟨pw_below_drewN HB.out _⟩⟩
          case measure => simp [intOf]; omega
        · have HF := Aside0.mk (sameL_no he)
          have hne : (l0.getD k 0 != l1.getD k 0) = true := by simpa using he
          have hne2 : (l0.getD k 0 == l1.getD k 0) = false := by simpa using he
          clear he
          generalize l0.getD k 0 = x at *
          generalize l1.getD k 0 = y at *
          go_wp2
          go_quiet (fail)
          go_wp2
          go_ret
          exact ⟨by rw [HF.out]; rfl, pw_below_drewN HB.out _⟩
      · obtain rfl : k = l0.length := by omega
        have HF := Aside0.mk (sameL_yes HL.out HE.out)
        go_wp2
        go_ret
        exact ⟨by rw [HF.out]; rfl, HB.out⟩
  · have HF := Aside0.mk (sameL_ne hl)
    have hq : ((l0.length : Int) != (l1.length : Int)) = true := by simp; omega
    clear hr0 hr1 hl
    go_enter Try.func40, Try.ntmps40
    go_wp2
    go_ret
    exact ⟨by rw [HF.out]; rfl, Below.refl _ _⟩

theorem Same_int64_calls : ∀ (A0 : Option Addr) (c0 : Nat) (l0 : List Int) (A1 : Option Addr) (c1 : Nat) (l1 : List Int) (w : World) (hr0 : Kd.C (Kd.int .i64) w A0 l0.length l0) (hr1 : Kd.C (Kd.int .i64) w A1 l1.length l1),
    Calls Try.prog 58 #[.slice A0 l0.length c0, .slice A1 l1.length c1] w fun e w' => e = .returned (.bool (sameL l0 l1)) ∧ Below w.heap.size w w' := by
  intro A0 c0 l0 A1 c1 l1 w hr0 hr1
  have hmax := C_max hr0
  have hmax1 := C_max hr1
  by_cases hl : l0.length = l1.length
  · have hq : ((l0.length : Int) != (l1.length : Int)) = false := by simp [hl]
    have HC := Aside0.mk (C_ints hr0)
    have HC1 := Aside0.mk (C_ints hr1)
    have HL := Aside0.mk hl
    clear hr0 hr1 hl
    go_enter Try.func58, Try.ntmps58
    go_wp2
    go_loopw [5] (fun i wr => ∃ k : Nat, k ≤ l0.length ∧ i = .int .i64 k ∧ Aside0 (∀ j, j < k → l0.getD j 0 = l1.getD j 0) ∧ Aside0 (Below w.heap.size w wr)) (fun i _ => l0.length - (intOf i).toNat)
    case atStart => exact ⟨0, by omega, rfl, ⟨fun j h => absurd h (Nat.not_lt_zero _)⟩, ⟨Below.refl _ _⟩⟩
    case round =>
      obtain ⟨k, hk, rfl, HE, HB⟩ := hrel
      by_cases hlt : k < l0.length
      · have hlt1 : k < l1.length := by have := HL.out; omega
        have hi0 : (0 : Int) ≤ (k : Int) := by omega
        have hi1 : (k : Int) < (l0.length : Int) := by omega
        have hi2 : (k : Int) < (l1.length : Int) := by omega
        obtain ⟨ad, rfl, hx⟩ := HC.out k hlt
        obtain ⟨ad1, rfl, hy⟩ := HC1.out k hlt1
        have hx := pw_cell_below HB.out hx
        have hy := pw_cell_below HB.out hy
        by_cases he : l0.getD k 0 = l1.getD k 0
        · have HE2 := Aside0.mk (show ∀ j, j < k + 1 → l0.getD j 0 = l1.getD j 0 from fun j hj => by rcases Nat.lt_succ_iff_lt_or_eq.1 hj with h | rfl; exact HE.out j h; exact he)
          rw [he] at hx
          clear he
          generalize l1.getD k 0 = x at *
          go_wp2
          go_quiet (fail)
          go_wp2
          go_roundw
          case rel => exact ⟨k + 1, by omega, by go_num, HE2, ⟨pw_below_drewN HB.out _⟩⟩
          case measure => simp [intOf]; omega
        · have HF := Aside0.mk (sameL_no he)
          have hne : (l0.getD k 0 != l1.getD k 0) = true := by simpa using he
          have hne2 : (l0.getD k 0 == l1.getD k 0) = false := by simpa using he
          clear he
          generalize l0.getD k 0 = x at *
          generalize l1.getD k 0 = y at *
          go_wp2
          go_quiet (fail)
          go_wp2
          go_ret
          exact ⟨by rw [HF.out]; rfl, pw_below_drewN HB.out _⟩
      · obtain rfl : k = l0.length := by omega
        have HF := Aside0.mk (sameL_yes HL.out HE.out)
        go_wp2
        go_ret
        exact ⟨by rw [HF.out]; rfl, HB.out⟩
  · have HF := Aside0.mk (sameL_ne hl)
    have hq : ((l0.length : Int) != (l1.length : Int)) = true := by simp; omega
    clear hr0 hr1 hl
    go_enter Try.func58, Try.ntmps58
    go_wp2
    go_ret
    exact ⟨by rw [HF.out]; rfl, Below.refl _ _⟩




end Go.Proofs.Ytkogapmggicanaa.G
