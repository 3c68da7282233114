/- Contracts of the package part: Check, Width; the reference's; Clone. -/
import Derived.Test.YteickelddnhdiaaBase
namespace Go.Proofs.Yteickelddnhdiaa.G
open Go.RowKit Go.Shelf Go.Proofs.YteickelddnhdiaaW.PrintWords
set_option linter.unusedVariables false
set_option linter.unusedSimpArgs false

def partE (dim parts : Int) : Int := if dim < 1 ∨ dim > 1024 ∨ parts < 1 ∨ dim % parts ≠ 0 then 2 else 0
def partW (dim parts : Int) : Int := if partE dim parts ≠ 0 then 0 else dim / parts
theorem PCheck_calls (dim parts : Int) (w : World) :
    Calls Try.prog 83 #[.int .i64 dim, .int .i64 parts] w fun e w' => e = .returned (.int .i64 (partE dim parts)) ∧ w = w' := by
  by_cases h1 : dim < 1
  · have HE := Aside0.mk (show partE dim parts = 2 by simp [partE, h1])
    have d1 : decide (dim < 1) = true := by simpa using h1
    go_enter Try.func83, Try.ntmps83
    go_wp2
    go_ret
    exact ⟨by rw [HE.out]; rfl, rfl⟩
  have d1 : decide (dim < 1) = false := by simpa using h1
  by_cases h2 : dim > 1024
  · have HE := Aside0.mk (show partE dim parts = 2 by simp [partE, h2])
    have d2 : decide (dim > 1024) = true := by simpa using h2
    go_enter Try.func83, Try.ntmps83
    go_wp2
    go_ret
    exact ⟨by rw [HE.out]; rfl, rfl⟩
  have d2 : decide (dim > 1024) = false := by simpa using h2
  by_cases h3 : parts < 1
  · have HE := Aside0.mk (show partE dim parts = 2 by simp [partE, h3])
    have d3 : decide (parts < 1) = true := by simpa using h3
    go_enter Try.func83, Try.ntmps83
    go_wp2
    go_ret
    exact ⟨by rw [HE.out]; rfl, rfl⟩
  have d3 : decide (parts < 1) = false := by simpa using h3
  have hp0 : ¬ parts = 0 := by omega
  have hd0 : 0 ≤ dim := by omega
  obtain ⟨r, hr⟩ : ∃ r, dim % parts = r := ⟨_, rfl⟩
  have hrt : dim.tmod parts = r := by rw [Int.tmod_eq_emod_of_nonneg hd0, hr]
  by_cases h4 : r = 0
  · have HE := Aside0.mk (show partE dim parts = 0 by simp [partE, h1, h2, h3, hr, h4])
    have d4 : (r != 0) = false := by simpa using h4
    go_enter Try.func83, Try.ntmps83
    go_wp2
    go_ret
    exact ⟨by rw [HE.out]; rfl, rfl⟩
  · have HE := Aside0.mk (show partE dim parts = 2 by simp [partE, hr, h4])
    have d4 : (r != 0) = true := by simpa using h4
    go_enter Try.func83, Try.ntmps83
    go_wp2
    go_ret
    exact ⟨by rw [HE.out]; rfl, rfl⟩
theorem RPCheck_calls (dim parts : Int) (w : World) :
    Calls Try.prog 125 #[.int .i64 dim, .int .i64 parts] w fun e w' => e = .returned (.int .i64 (partE dim parts)) ∧ w = w' := by
  by_cases h1 : dim < 1
  · have HE := Aside0.mk (show partE dim parts = 2 by simp [partE, h1])
    have d1 : decide (dim < 1) = true := by simpa using h1
    go_enter Try.func125, Try.ntmps125
    go_wp2
    go_ret
    exact ⟨by rw [HE.out]; rfl, rfl⟩
  have d1 : decide (dim < 1) = false := by simpa using h1
  by_cases h2 : dim > 1024
  · have HE := Aside0.mk (show partE dim parts = 2 by simp [partE, h2])
    have d2 : decide (dim > 1024) = true := by simpa using h2
    go_enter Try.func125, Try.ntmps125
    go_wp2
    go_ret
    exact ⟨by rw [HE.out]; rfl, rfl⟩
  have d2 : decide (dim > 1024) = false := by simpa using h2
  by_cases h3 : parts < 1
  · have HE := Aside0.mk (show partE dim parts = 2 by simp [partE, h3])
    have d3 : decide (parts < 1) = true := by simpa using h3
    go_enter Try.func125, Try.ntmps125
    go_wp2
    go_ret
    exact ⟨by rw [HE.out]; rfl, rfl⟩
  have d3 : decide (parts < 1) = false := by simpa using h3
  have hp0 : ¬ parts = 0 := by omega
  have hd0 : 0 ≤ dim := by omega
  obtain ⟨r, hr⟩ : ∃ r, dim % parts = r := ⟨_, rfl⟩
  have hrt : dim.tmod parts = r := by rw [Int.tmod_eq_emod_of_nonneg hd0, hr]
  by_cases h4 : r = 0
  · have HE := Aside0.mk (show partE dim parts = 0 by simp [partE, h1, h2, h3, hr, h4])
    have d4 : (r != 0) = false := by simpa using h4
    go_enter Try.func125, Try.ntmps125
    go_wp2
    go_ret
    exact ⟨by rw [HE.out]; rfl, rfl⟩
  · have HE := Aside0.mk (show partE dim parts = 2 by simp [partE, hr, h4])
    have d4 : (r != 0) = true := by simpa using h4
    go_enter Try.func125, Try.ntmps125
    go_wp2
    go_ret
    exact ⟨by rw [HE.out]; rfl, rfl⟩

theorem PWidth_calls (dim parts : Int) (w : World) :
    Calls Try.prog 122 #[.int .i64 dim, .int .i64 parts] w fun e w' => e = .returned (.int .i64 (partW dim parts)) ∧ w = w' := by
  have HC := Aside0.mk (PCheck_calls dim parts w)
  by_cases h : partE dim parts = 0
  · have HE := Aside0.mk (show partW dim parts = dim / parts by simp [partW, h])
    have hd : ¬ parts = 0 ∧ 0 ≤ dim ∧ 1 ≤ parts ∧ dim ≤ 1024 := by
      unfold partE at h
      split at h
      · omega
      · omega
    rw [h] at HC
    obtain ⟨h1, h2, h3, h4⟩ := hd
    have q1 : 0 ≤ dim / parts := Int.ediv_nonneg h2 (by omega)
    have q2 : dim / parts ≤ dim := Int.ediv_le_self _ h2
    have hq : dim.tdiv parts = dim / parts := Int.tdiv_eq_ediv_of_nonneg h2
    generalize dim / parts = q at *
    clear h
    go_enter Try.func122, Try.ntmps122
    go_wp2_with fail
    refine HC.out.mono ?_
    rintro e w1 ⟨rfl, rfl⟩
    go_wp2_with fail
    go_ret
    exact ⟨by rw [HE.out]; rfl, rfl⟩
  · have HE := Aside0.mk (show partW dim parts = 0 by simp [partW, h])
    have d : (partE dim parts != 0) = true := by simpa using h
    generalize partE dim parts = E at *
    clear h
    go_enter Try.func122, Try.ntmps122
    go_wp2_with fail
    refine HC.out.mono ?_
    rintro e w1 ⟨rfl, rfl⟩
    go_wp2_with fail
    go_ret
    exact ⟨by rw [HE.out]; rfl, rfl⟩

theorem RPWidth_calls (dim parts : Int) (w : World) :
    Calls Try.prog 96 #[.int .i64 dim, .int .i64 parts] w fun e w' => e = .returned (.int .i64 (partW dim parts)) ∧ w = w' := by
  have HC := Aside0.mk (RPCheck_calls dim parts w)
  by_cases h : partE dim parts = 0
  · have HE := Aside0.mk (show partW dim parts = dim / parts by simp [partW, h])
    have hd : ¬ parts = 0 ∧ 0 ≤ dim ∧ 1 ≤ parts ∧ dim ≤ 1024 := by
      unfold partE at h
      split at h
      · omega
      · omega
    rw [h] at HC
    obtain ⟨h1, h2, h3, h4⟩ := hd
    have q1 : 0 ≤ dim / parts := Int.ediv_nonneg h2 (by omega)
    have q2 : dim / parts ≤ dim := Int.ediv_le_self _ h2
    have hq : dim.tdiv parts = dim / parts := Int.tdiv_eq_ediv_of_nonneg h2
    generalize dim / parts = q at *
    clear h
    go_enter Try.func96, Try.ntmps96
    go_wp2_with fail
    refine HC.out.mono ?_
    rintro e w1 ⟨rfl, rfl⟩
    go_wp2_with fail
    go_ret
    exact ⟨by rw [HE.out]; rfl, rfl⟩
  · have HE := Aside0.mk (show partW dim parts = 0 by simp [partW, h])
    have d : (partE dim parts != 0) = true := by simpa using h
    generalize partE dim parts = E at *
    clear h
    go_enter Try.func96, Try.ntmps96
    go_wp2_with fail
    refine HC.out.mono ?_
    rintro e w1 ⟨rfl, rfl⟩
    go_wp2_with fail
    go_ret
    exact ⟨by rw [HE.out]; rfl, rfl⟩

set_option maxRecDepth 100000 in
/-- slices.Clone of a slice that is there. -/
theorem Clone_row (ad : Addr) (c0 n : Nat) (l0 : List Int) (w : World) (hr0 : Kd.C (Kd.int .i32) w (some ad) n l0) (hlim : l0.length ≤ 17592186044416) :
    Calls Try.prog 94 #[.slice (some ad) n c0] w fun e w' => ∃ v : Value, e = .returned v ∧
      w'.ownsRow w.heap.size 21 1 v l0.length (nums .i32 l0) ∧ Below w.heap.size w w' := by
  have hn : l0.length = n := hr0.1
  subst hn
  have hlit := own_lit w w.heap.size 21 .i32 [] (Nat.le_refl _) (by simp)
  have hb0 := (Below.refl w.heap.size w).alloc (Nat.le_refl _) (.cells (nums .i32 []).toArray 21)
  have HR := Aside0.mk (C_reads (Kd.C_below hr0 hb0))
  have HO := Aside0.mk hlit
  have HB := Aside0.mk hb0
  have HL := Aside0.mk hlim
  have heq : ∀ W, (binOp .eql 39 (.slice (some ad) l0.length c0) (.slice none 0 0)).run Try.prog W = .ok (.bool false) W := fun W => by kernel_rfl
  clear hr0 hlit hb0 hlim
  go_enter Try.func94, Try.ntmps94
  go_wp2_with (at_builtin; refine print_append_row w.heap.size rfl (.tmp 5) (.tmp 6) 39 21 .i32 4 rfl Try.underlying39 info_i32 (by decide) _ [] l0 _ _ _ rfl rfl HO.out HR.out HB.out HB.out.size (by have := HL.out; simp; omega) ?_; intro v1 w1 ho hb hg hat; have HO2 := Aside0.mk ho; have HB2 := Aside0.mk hb; clear ho hb hg hat)
  go_ret
  exact ⟨_, rfl, HO2.out, HB2.out⟩

end Go.Proofs.Yteickelddnhdiaa.G
