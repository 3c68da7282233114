/- Contracts of the reference of vec, and of the small functions beside. -/
import Derived.Test.YtkogapmggicanaaVecE
import Derived.Test.YtkogapmggicanaaSame
import Derived.Test.YtkogapmggicanaaSumsM
namespace Go.Proofs.Ytkogapmggicanaa.G
open Go.RowKit Go.Shelf Go.Proofs.YtkogapmggicanaaW.PrintWords
set_option linter.unusedVariables false
set_option linter.unusedSimpArgs false

/-! ### Check -/
def checkE (n : Nat) (dim : Int) : Int := if dim < 1 ∨ dim > 1024 ∨ (n : Int) ≠ dim then 2 else 0
theorem Check_calls (A0 : Option Addr) (n c0 : Nat) (dim : Int) (w : World) (hn : n ≤ 9223372036854775807) :
    Calls Try.prog 27 #[.slice A0 n c0, .int .i64 dim] w fun e w' => e = .returned (.int .i64 (checkE n dim)) ∧ Below w.heap.size w w' := by
  by_cases h1 : dim < 1
  · have HE := Aside0.mk (show checkE n dim = 2 by simp [checkE, h1])
    have d1 : decide (dim < 1) = true := by simpa using h1
    go_enter Try.func27, Try.ntmps27
    go_wp2
    go_ret
    exact ⟨by rw [HE.out]; rfl, Below.refl _ _⟩
  · have d1 : decide (dim < 1) = false := by simpa using h1
    by_cases h2 : dim > 1024
    · have HE := Aside0.mk (show checkE n dim = 2 by simp [checkE, h2])
      have d2 : decide (dim > 1024) = true := by simpa using h2
      go_enter Try.func27, Try.ntmps27
      go_wp2
      go_ret
      exact ⟨by rw [HE.out]; rfl, Below.refl _ _⟩
    · have d2 : decide (dim > 1024) = false := by simpa using h2
      by_cases h3 : (n : Int) = dim
      · have HE := Aside0.mk (show checkE n dim = 0 by simp [checkE, h1, h2, h3])
        have d3 : ((n : Int) != dim) = false := by simpa using h3
        clear h3
        go_enter Try.func27, Try.ntmps27
        go_wp2
        go_ret
        exact ⟨by rw [HE.out]; rfl, Below.refl _ _⟩
      · have HE := Aside0.mk (show checkE n dim = 2 by simp [checkE, h3])
        have d3 : ((n : Int) != dim) = true := by simpa using h3
        clear h3
        go_enter Try.func27, Try.ntmps27
        go_wp2
        go_ret
        exact ⟨by rw [HE.out]; rfl, Below.refl _ _⟩

theorem RCheck_calls (A0 : Option Addr) (n c0 : Nat) (dim : Int) (w : World) (hn : n ≤ 9223372036854775807) :
    Calls Try.prog 36 #[.slice A0 n c0, .int .i64 dim] w fun e w' => e = .returned (.int .i64 (checkE n dim)) ∧ Below w.heap.size w w' := by
  by_cases h1 : dim < 1
  · have HE := Aside0.mk (show checkE n dim = 2 by simp [checkE, h1])
    have d1 : decide (dim < 1) = true := by simpa using h1
    go_enter Try.func36, Try.ntmps36
    go_wp2
    go_ret
    exact ⟨by rw [HE.out]; rfl, Below.refl _ _⟩
  · have d1 : decide (dim < 1) = false := by simpa using h1
    by_cases h2 : dim > 1024
    · have HE := Aside0.mk (show checkE n dim = 2 by simp [checkE, h2])
      have d2 : decide (dim > 1024) = true := by simpa using h2
      go_enter Try.func36, Try.ntmps36
      go_wp2
      go_ret
      exact ⟨by rw [HE.out]; rfl, Below.refl _ _⟩
    · have d2 : decide (dim > 1024) = false := by simpa using h2
      by_cases h3 : (n : Int) = dim
      · have HE := Aside0.mk (show checkE n dim = 0 by simp [checkE, h1, h2, h3])
        have d3 : ((n : Int) != dim) = false := by simpa using h3
        clear h3
        go_enter Try.func36, Try.ntmps36
        go_wp2
        go_ret
        exact ⟨by rw [HE.out]; rfl, Below.refl _ _⟩
      · have HE := Aside0.mk (show checkE n dim = 2 by simp [checkE, h3])
        have d3 : ((n : Int) != dim) = true := by simpa using h3
        clear h3
        go_enter Try.func36, Try.ntmps36
        go_wp2
        go_ret
        exact ⟨by rw [HE.out]; rfl, Below.refl _ _⟩

/-! ### CheckWide -/
theorem any_at {l : List Int} {k : Nat} (hk : k < l.length) (h : beyond (l.getD k 0) = true) : l.any beyond = true := by
  rw [List.any_eq_true]
  rw [List.getD_eq_getElem?_getD, List.getElem?_eq_getElem hk] at h
  exact ⟨_, List.getElem_mem hk, h⟩
theorem RCheckWide_calls (A0 : Option Addr) (c0 : Nat) (l0 : List Int) (w : World) (hr0 : Kd.C (Kd.int .i32) w A0 l0.length l0) :
    Calls Try.prog 37 #[.slice A0 l0.length c0] w fun e w' => e = .returned (.int .i64 (checkWide l0)) ∧ Below w.heap.size w w' := by
  have hmax := C_max hr0
  by_cases h1 : l0.length < 1
  · have HE := Aside0.mk (show checkWide l0 = 2 by unfold checkWide; rw [if_pos (by omega)])
    have d1 : decide ((l0.length : Int) < 1) = true := by simp; omega
    clear hr0
    go_enter Try.func37, Try.ntmps37
    go_wp2
    go_ret
    exact ⟨by rw [HE.out]; rfl, Below.refl _ _⟩
  have d1 : decide ((l0.length : Int) < 1) = false := by simp; omega
  by_cases h2 : l0.length > 1024
  · have HE := Aside0.mk (show checkWide l0 = 2 by unfold checkWide; rw [if_pos (by omega)])
    have d2 : decide ((l0.length : Int) > 1024) = true := by simp; omega
    clear hr0
    go_enter Try.func37, Try.ntmps37
    go_wp2
    go_ret
    exact ⟨by rw [HE.out]; rfl, Below.refl _ _⟩
  have d2 : decide ((l0.length : Int) > 1024) = false := by simp; omega
  have HE := Aside0.mk (show checkWide l0 = if l0.any beyond then 11 else 0 by unfold checkWide; rw [if_neg (by omega)])
  have HC := Aside0.mk (C_ints hr0)
  clear hr0
  go_enter Try.func37, Try.ntmps37
  go_wp2
  go_loopw [3] (fun i wr => ∃ k : Nat, k ≤ l0.length ∧ i = .int .i64 k ∧ Aside0 (∀ j, j < k → beyond (l0.getD j 0) = false) ∧ Aside0 (Below w.heap.size w wr)) (fun i _ => l0.length - (intOf i).toNat)
  case atStart => exact ⟨0, by omega, rfl, ⟨fun j h => absurd h (Nat.not_lt_zero _)⟩, ⟨Below.refl _ _⟩⟩
  case round =>
    obtain ⟨k, hk, rfl, HN, HB⟩ := hrel
    by_cases hlt : k < l0.length
    · obtain ⟨ad, rfl, hx⟩ := HC.out k hlt
      have hx := pw_cell_below HB.out hx
      by_cases hb : beyond (l0.getD k 0) = true
      · have HF := Aside0.mk (show checkWide l0 = 11 by rw [HE.out, if_pos (any_at hlt hb)])
        generalize l0.getD k 0 = x at *
        by_cases b1 : x < -131072
        · have e1 : decide (x < -131072) = true := by simpa using b1
          clear hb
          go_wp2
          go_ret
          exact ⟨by rw [HF.out]; rfl, HB.out⟩
        · have e1 : decide (x < -131072) = false := by simpa using b1
          have e2 : decide (x > 131072) = true := by simp only [beyond, e1, Bool.false_or] at hb; exact hb
          clear hb
          go_wp2
          go_ret
          exact ⟨by rw [HF.out]; rfl, HB.out⟩
      · have hb : beyond (l0.getD k 0) = false := by simpa using hb
        have HN2 := Aside0.mk (show ∀ j, j < k + 1 → beyond (l0.getD j 0) = false from fun j hj => by rcases Nat.lt_succ_iff_lt_or_eq.1 hj with h | rfl; exact HN.out j h; exact hb)
        generalize l0.getD k 0 = x at *
        obtain ⟨e1, e2⟩ : decide (x < -131072) = false ∧ decide (x > 131072) = false := by simpa only [beyond, Bool.or_eq_false_iff] using hb
        clear hb
        go_wp2
        go_roundw
        case rel => exact ⟨k + 1, by omega, by go_num, HN2, HB⟩
        case measure => simp [intOf]; omega
    · obtain rfl : k = l0.length := by omega
      have HF := Aside0.mk (show checkWide l0 = 0 by rw [HE.out, any_no HN.out]; rfl)
      go_wp2
      go_ret
      exact ⟨by rw [HF.out]; rfl, HB.out⟩

/-! ### both -/
theorem both_calls (A0 : Option Addr) (c0 : Nat) (l0 : List Int) (A1 : Option Addr) (c1 : Nat) (l1 : List Int) (w : World) (hr0 : Kd.C (Kd.int .i32) w A0 l0.length l0) (hr1 : Kd.C (Kd.int .i32) w A1 l1.length l1) :
    Calls Try.prog 73 #[.slice A0 l0.length c0, .slice A1 l1.length c1] w fun e w' => e = .returned (.int .i64 (pairE l0 l1)) ∧ Below w.heap.size w w' := by
  have hmax := C_max hr0
  have hmax1 := C_max hr1
  have h0 := RCheckWide_calls A0 c0 l0 w hr0
  by_cases hz : checkWide l0 = 0
  · rw [hz] at h0
    have H1 := Aside0.mk (fun W (hB : Below w.heap.size w W) => RCheckWide_calls A1 c1 l1 W (Kd.C_below hr1 hB))
    by_cases hy : checkWide l1 = 0
    · rw [hy] at H1
      by_cases hl : l0.length = l1.length
      · have HF := Aside0.mk (show pairE l0 l1 = 0 by simp [pairE, hz, hy, hl])
        have d : ((l0.length : Int) != (l1.length : Int)) = false := by simp [hl]
        clear hr0 hr1 hz hy hl
        go_enter Try.func73, Try.ntmps73
        go_wp2_with fail
        refine h0.mono ?_
        rintro e w1 ⟨rfl, hb⟩
        have HB1 := Aside0.mk hb
        clear hb h0
        go_wp2_with fail
        refine (H1.out _ HB1.out).mono ?_
        rintro e w2 ⟨rfl, hb⟩
        have HB2 := Aside0.mk (bcomp HB1.out hb)
        clear hb
        go_wp2_with fail
        go_ret
        exact ⟨by rw [HF.out]; rfl, HB2.out⟩
      · have HF := Aside0.mk (show pairE l0 l1 = 2 by simp [pairE, hz, hy, hl])
        have d : ((l0.length : Int) != (l1.length : Int)) = true := by simp; omega
        clear hr0 hr1 hz hy hl
        go_enter Try.func73, Try.ntmps73
        go_wp2_with fail
        refine h0.mono ?_
        rintro e w1 ⟨rfl, hb⟩
        have HB1 := Aside0.mk hb
        clear hb h0
        go_wp2_with fail
        refine (H1.out _ HB1.out).mono ?_
        rintro e w2 ⟨rfl, hb⟩
        have HB2 := Aside0.mk (bcomp HB1.out hb)
        clear hb
        go_wp2_with fail
        go_ret
        exact ⟨by rw [HF.out]; rfl, HB2.out⟩
    · have HF := Aside0.mk (show pairE l0 l1 = checkWide l1 by simp [pairE, hz, hy])
      have d : (checkWide l1 == 0) = false := by simpa using hy
      clear hr0 hr1 hz hy
      generalize hgc : checkWide l1 = q at *
      have HG := Aside0.mk hgc
      clear hgc
      go_enter Try.func73, Try.ntmps73
      go_wp2_with fail
      refine h0.mono ?_
      rintro e w1 ⟨rfl, hb⟩
      have HB1 := Aside0.mk hb
      clear hb h0
      go_wp2_with fail
      refine (H1.out _ HB1.out).mono ?_
      rintro e w2 ⟨rfl, hb⟩
      have HB2 := Aside0.mk (bcomp HB1.out hb)
      clear hb
      go_wp2_with fail
      go_ret
      exact ⟨by rw [HF.out]; rfl, HB2.out⟩
  · have HF := Aside0.mk (show pairE l0 l1 = checkWide l0 by simp [pairE, hz])
    have d : (checkWide l0 == 0) = false := by simpa using hz
    clear hr0 hr1 hz
    generalize checkWide l0 = q at *
    go_enter Try.func73, Try.ntmps73
    go_wp2_with fail
    refine h0.mono ?_
    rintro e w1 ⟨rfl, hb⟩
    have HB1 := Aside0.mk hb
    clear hb h0
    go_wp2_with fail
    go_ret
    exact ⟨by rw [HF.out]; rfl, HB1.out⟩

end Go.Proofs.Ytkogapmggicanaa.G
