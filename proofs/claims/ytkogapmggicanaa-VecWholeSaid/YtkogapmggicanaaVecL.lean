/- The chapter's examples of vec hold. -/
import Derived.Test.YtkogapmggicanaaVecE
import Derived.Test.YtkogapmggicanaaFix
namespace Go.Proofs.Ytkogapmggicanaa.G
open Go.RowKit Go.Shelf Go.Proofs.YtkogapmggicanaaW.PrintWords
set_option linter.unusedVariables false
set_option linter.unusedSimpArgs false

theorem fix_a (w : World) : Calls Try.prog 16 #[.int .u64 4609434218613702656, .int .i64 0] w fun e w' => e = .returned (.tuple #[.int .i16 2, .int .i64 0]) ∧ Below w.heap.size w w' := by
  have h := Fixed_calls 4609434218613702656 0 w (fun _ _ _ => by unfold FixOk; decide +kernel)
  rwa [show fixV 4609434218613702656 0 = 2 by decide +kernel, show fixE 4609434218613702656 0 = 0 by decide +kernel] at h
theorem fix_b (w : World) : Calls Try.prog 16 #[.int .u64 13826050856027422720, .int .i64 0] w fun e w' => e = .returned (.tuple #[.int .i16 0, .int .i64 0]) ∧ Below w.heap.size w w' := by
  have h := Fixed_calls 13826050856027422720 0 w (fun _ _ _ => by unfold FixOk; decide +kernel)
  rwa [show fixV 13826050856027422720 0 = 0 by decide +kernel, show fixE 13826050856027422720 0 = 0 by decide +kernel] at h
theorem fix_c (w : World) : Calls Try.prog 16 #[.int .u64 4612811918334230528, .int .i64 0] w fun e w' => e = .returned (.tuple #[.int .i16 2, .int .i64 0]) ∧ Below w.heap.size w w' := by
  have h := Fixed_calls 4612811918334230528 0 w (fun _ _ _ => by unfold FixOk; decide +kernel)
  rwa [show fixV 4612811918334230528 0 = 2 by decide +kernel, show fixE 4612811918334230528 0 = 0 by decide +kernel] at h

set_option maxRecDepth 100000 in
theorem lives03_calls (w : World) : Calls Try.prog 15 #[] w fun e w' => e = .returned (.bool true) ∧ Below w.heap.size w w' := by
  have hA := C_lit w 21 .i32 [1, 2] (by simp)
  have hB := C_lit (w.alloc (.cells (nums .i32 [1, 2]).toArray 21)) 21 .i32 [4, -2] (by simp)
  have hcall := Dist_calls _ 2 [1, 2] _ 2 [4, -2] _ (Kd.C_below hA ((Below.refl _ _).alloc (Nat.le_refl _) _)) hB
  rw [show distV [1, 2] [4, -2] = 25 by decide, show pairE [1, 2] [4, -2] = 0 by decide] at hcall
  have HB0 := Aside0.mk (((Below.refl w.heap.size w).alloc (Nat.le_refl _) (.cells (nums .i32 [1, 2]).toArray 21)).alloc (by simp) (.cells (nums .i32 [4, -2]).toArray 21))
  simp only [nums, List.map_cons, List.map_nil, List.length_cons, List.length_nil, Nat.zero_add, Nat.reduceAdd, World.size_alloc] at hcall HB0
  clear hA hB
  go_enter Try.func15, Try.ntmps15
  go_wp2_with fail
  refine hcall.mono ?_
  rintro e w1 ⟨rfl, hb1⟩
  have HB1 := Aside0.mk (bcompN HB0.out (by simp) hb1)
  clear hb1
  go_wp2_with fail
  refine (fix_a _).mono ?_
  rintro e w2 ⟨rfl, hb1⟩
  have HB2 := Aside0.mk (bcomp HB1.out hb1)
  clear hb1
  go_wp2_with fail
  refine (fix_b _).mono ?_
  rintro e w3 ⟨rfl, hb1⟩
  have HB3 := Aside0.mk (bcomp HB2.out hb1)
  clear hb1
  go_wp2_with fail
  refine (fix_c _).mono ?_
  rintro e w4 ⟨rfl, hb1⟩
  have HB4 := Aside0.mk (bcomp HB3.out hb1)
  clear hb1
  go_wp2_with fail
  go_ret
  exact ⟨rfl, HB4.out⟩

end Go.Proofs.Ytkogapmggicanaa.G
