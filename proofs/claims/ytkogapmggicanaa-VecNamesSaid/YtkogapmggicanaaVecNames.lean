/- Row VecNames: its walk. -/
import Derived.Test.YtkogapmggicanaaVecSums
import Derived.Test.YtkogapmggicanaaRef3
namespace Go.Proofs.Ytkogapmggicanaa.G
open Go.RowKit Go.Shelf Go.Proofs.YtkogapmggicanaaW.PrintWords
set_option linter.unusedVariables false
set_option linter.unusedSimpArgs false

theorem nam_0 (w : World) : Calls Try.prog 16 #[.int .u64 9218868437227405312, .int .i64 0] w fun e w' => e = .returned (.tuple #[.int .i16 0, .int .i64 11]) ∧ Below w.heap.size w w' := by
  have h := Fixed_calls 9218868437227405312 0 w (fun h1 h2 h3 => by first | (unfold FixOk; decide +kernel) | (exact absurd h3 (by decide +kernel)) | (exact absurd h2 (by decide)))
  rwa [show fixV 9218868437227405312 0 = 0 by decide +kernel, show fixE 9218868437227405312 0 = 11 by decide +kernel] at h
theorem nam_1 (w : World) : Calls Try.prog 16 #[.int .u64 9221120237041090560, .int .i64 0] w fun e w' => e = .returned (.tuple #[.int .i16 0, .int .i64 2]) ∧ Below w.heap.size w w' := by
  have h := Fixed_calls 9221120237041090560 0 w (fun h1 h2 h3 => by first | (unfold FixOk; decide +kernel) | (exact absurd h3 (by decide +kernel)) | (exact absurd h2 (by decide)))
  rwa [show fixV 9221120237041090560 0 = 0 by decide +kernel, show fixE 9221120237041090560 0 = 2 by decide +kernel] at h
theorem nam_2 (w : World) : Calls Try.prog 16 #[.int .u64 4609434218613702656, .int .i64 16] w fun e w' => e = .returned (.tuple #[.int .i16 0, .int .i64 2]) ∧ Below w.heap.size w w' := by
  have h := Fixed_calls 4609434218613702656 16 w (fun h1 h2 h3 => by first | (unfold FixOk; decide +kernel) | (exact absurd h3 (by decide +kernel)) | (exact absurd h2 (by decide)))
  rwa [show fixV 4609434218613702656 16 = 0 by decide +kernel, show fixE 4609434218613702656 16 = 2 by decide +kernel] at h
theorem nam_3 (w : World) : Calls Try.prog 16 #[.int .u64 9223372036854775808, .int .i64 3] w fun e w' => e = .returned (.tuple #[.int .i16 0, .int .i64 0]) ∧ Below w.heap.size w w' := by
  have h := Fixed_calls 9223372036854775808 3 w (fun h1 h2 h3 => by first | (unfold FixOk; decide +kernel) | (exact absurd h3 (by decide +kernel)) | (exact absurd h2 (by decide)))
  rwa [show fixV 9223372036854775808 3 = 0 by decide +kernel, show fixE 9223372036854775808 3 = 0 by decide +kernel] at h
theorem nam_4 (w : World) : Calls Try.prog 16 #[.int .u64 13898108450065350656, .int .i64 0] w fun e w' => e = .returned (.tuple #[.int .i16 (-32768), .int .i64 0]) ∧ Below w.heap.size w w' := by
  have h := Fixed_calls 13898108450065350656 0 w (fun h1 h2 h3 => by first | (unfold FixOk; decide +kernel) | (exact absurd h3 (by decide +kernel)) | (exact absurd h2 (by decide)))
  rwa [show fixV 13898108450065350656 0 = (-32768) by decide +kernel, show fixE 13898108450065350656 0 = 0 by decide +kernel] at h
theorem nam_5 (w : World) : Calls Try.prog 16 #[.int .u64 4674736413210574848, .int .i64 0] w fun e w' => e = .returned (.tuple #[.int .i16 0, .int .i64 11]) ∧ Below w.heap.size w w' := by
  have h := Fixed_calls 4674736413210574848 0 w (fun h1 h2 h3 => by first | (unfold FixOk; decide +kernel) | (exact absurd h3 (by decide +kernel)) | (exact absurd h2 (by decide)))
  rwa [show fixV 4674736413210574848 0 = 0 by decide +kernel, show fixE 4674736413210574848 0 = 11 by decide +kernel] at h

set_option maxRecDepth 100000 in
set_option maxHeartbeats 2000000 in
theorem VecNames_calls (w : World) : Calls Try.prog 7 #[] w fun e w' => e = .returned (.bool true) ∧ Below w.heap.size w w' := by
  have hmk3 : ∀ W : World, (Instr.makeSlice 46 (.int .i64 3) (.int .i64 3)).run Try.prog W = .ok (.slice (some ⟨W.heap.size, 0, none⟩) 3 3) (W.alloc (.cells (madeCells #[.int .u8 0] 3) 5)) := fun W => print_make 46 5 .u8 1 Try.underlying46 info_u8 (by decide) 3 (by omega) W
  have hmk4 : ∀ W : World, (Instr.makeSlice 46 (.int .i64 2050) (.int .i64 2050)).run Try.prog W = .ok (.slice (some ⟨W.heap.size, 0, none⟩) 2050 2050) (W.alloc (.cells (madeCells #[.int .u8 0] 2050) 5)) := fun W => print_make 46 5 .u8 1 Try.underlying46 info_u8 (by decide) 2050 (by omega) W
  have hmk5 : ∀ W : World, (Instr.makeSlice 43 (.int .i64 2) (.int .i64 2)).run Try.prog W = .ok (.slice (some ⟨W.heap.size, 0, none⟩) 2 2) (W.alloc (.cells (madeCells #[.int .i16 0] 2) 24)) := fun W => print_make 43 24 .i16 2 Try.underlying43 info_i16 (by decide) 2 (by omega) W
  have hbz : ∀ n j, j < (List.replicate n (0 : Int)).length → isByte ((List.replicate n (0 : Int)).getD j 0) := fun n j hj => by
    rw [List.getD_eq_getElem?_getD, List.getElem?_eq_getElem hj, List.getElem_replicate]
    exact ⟨by decide, by decide⟩
  have HBz := Aside0.mk hbz
  clear hbz
  go_enter Try.func7, Try.ntmps7
  go_wp2_with fail
  refine (nam_0 _).mono ?_
  rintro e w1 ⟨rfl, hb⟩
  have HB1 := Aside0.mk hb
  clear hb
  go_wp2_with fail
  refine (nam_1 _).mono ?_
  rintro e w2 ⟨rfl, hb⟩
  have HB2 := Aside0.mk (bcomp HB1.out hb)
  clear hb
  go_wp2_with fail
  refine (nam_2 _).mono ?_
  rintro e w3 ⟨rfl, hb⟩
  have HB3 := Aside0.mk (bcomp HB2.out hb)
  clear hb
  go_wp2_with fail
  refine (nam_3 _).mono ?_
  rintro e w4 ⟨rfl, hb⟩
  have HB4 := Aside0.mk (bcomp HB3.out hb)
  clear hb
  go_wp2_with fail
  refine (nam_4 _).mono ?_
  rintro e w5 ⟨rfl, hb⟩
  have HB5 := Aside0.mk (bcomp HB4.out hb)
  clear hb
  go_wp2_with fail
  refine (nam_5 _).mono ?_
  rintro e w6 ⟨rfl, hb⟩
  have HB6 := Aside0.mk (bcomp HB5.out hb)
  clear hb
  have hA := C_lit w6 21 .i32 [131072] (by simp)
  have hB := C_lit (w6.alloc (.cells (nums .i32 [131072]).toArray 21)) 21 .i32 [1] (by simp)
  have hcall := Add_calls _ 1 [131072] _ 1 [1] _ (Kd.C_below hA ((Below.refl _ _).alloc (Nat.le_refl _) _)) hB
  rw [show alongE addW [131072] [1] = 11 by decide +kernel, show alongL addW [131072] [1] = [] by decide +kernel] at hcall
  have HB0 := Aside0.mk ((HB6.out.alloc HB6.out.size (.cells (nums .i32 [131072]).toArray 21)).alloc (by have := HB6.out.size; simp; omega) (.cells (nums .i32 [1]).toArray 21))
  simp only [nums, List.map_cons, List.map_nil, List.length_cons, List.length_nil, Nat.zero_add, Nat.reduceAdd, World.size_alloc] at hcall HB0
  have HCL := Aside0.mk hcall
  clear hA hB hcall
  go_wp2_with fail
  refine HCL.out.mono ?_
  rintro e w7 ⟨v, rfl, hR, hb⟩
  have HB7 := Aside0.mk (bcompN HB0.out (by simp) hb)
  obtain ⟨A7, c7, rfl, hl7, hC7⟩ := Kd.R_reads hR
  clear hb hR hC7 hl7
  have hal := HB7.out.alloc HB7.out.size (.cells (madeCells #[.int .u8 0] 3) 5)
  have hmade := R_C (R_nums (own_made w7 w7.heap.size 5 .u8 3 (Nat.le_refl _) (by omega)) (List.length_replicate))
  have hrd := Read_calls (some ⟨w7.heap.size, 0, none⟩) 3 (List.replicate 3 0) _ hmade.1 (by rw [List.length_replicate]; omega) (by omega) (by rw [List.length_replicate]; omega) (HBz.out 3)
  rw [show readE (List.replicate 3 0) = 4 by unfold readE; rw [List.length_replicate]; decide] at hrd
  rw [List.length_replicate] at hrd
  have HRD := Aside0.mk hrd
  have HAL := Aside0.mk hal
  clear hrd hal hmade
  go_wp2_with fail
  refine HRD.out.mono ?_
  rintro e w8 ⟨v, rfl, hR, hb⟩
  have HB8 := Aside0.mk (bcomp HAL.out hb)
  obtain ⟨A8, c8, rfl, hl8, hC8⟩ := Kd.R_reads hR
  clear hb hR hC8 hl8
  have hal := HB8.out.alloc HB8.out.size (.cells (madeCells #[.int .u8 0] 2050) 5)
  have hmade := R_C (R_nums (own_made w8 w8.heap.size 5 .u8 2050 (Nat.le_refl _) (by omega)) (List.length_replicate))
  have hrd := Read_calls (some ⟨w8.heap.size, 0, none⟩) 2050 (List.replicate 2050 0) _ hmade.1 (by rw [List.length_replicate]; omega) (by omega) (by rw [List.length_replicate]; omega) (HBz.out 2050)
  rw [show readE (List.replicate 2050 0) = 3 by unfold readE; rw [List.length_replicate]; decide] at hrd
  rw [List.length_replicate] at hrd
  have HRD := Aside0.mk hrd
  have HAL := Aside0.mk hal
  clear hrd hal hmade
  go_wp2_with fail
  refine HRD.out.mono ?_
  rintro e w9 ⟨v, rfl, hR, hb⟩
  have HB9 := Aside0.mk (bcomp HAL.out hb)
  obtain ⟨A9, c9, rfl, hl9, hC9⟩ := Kd.R_reads hR
  clear hb hR hC9 hl9
  go_wp2_with fail
  refine (lives03_calls _).mono ?_
  rintro e w10 ⟨rfl, hb⟩
  have HB10 := Aside0.mk (bcomp HB9.out hb)
  clear hb
  have hck := Check_calls (some ⟨w10.heap.size, 0, none⟩) 2 2 3 (w10.alloc (.cells (madeCells #[.int .i16 0] 2) 24)) (by omega)
  rw [show checkE 2 3 = 2 by decide] at hck
  have HCK := Aside0.mk hck
  have HAL := Aside0.mk (HB10.out.alloc HB10.out.size (.cells (madeCells #[.int .i16 0] 2) 24))
  clear hck
  go_wp2_with fail
  refine HCK.out.mono ?_
  rintro e w11 ⟨rfl, hb⟩
  have HB11 := Aside0.mk (bcomp HAL.out hb)
  clear hb
  have hcw := CheckWide_calls none 0 [] w11 (C_nil _ _)
  rw [show checkWide [] = 2 by decide] at hcw
  have HCW := Aside0.mk hcw
  clear hcw
  go_wp2_with fail
  refine HCW.out.mono ?_
  rintro e w12 ⟨rfl, hb⟩
  have HB12 := Aside0.mk (bcomp HB11.out hb)
  clear hb
  have hA := C_lit w12 21 .i32 [131073] (by simp)
  have hcw := CheckWide_calls _ 1 [131073] _ hA
  rw [show checkWide [131073] = 11 by decide +kernel] at hcw
  have HAM := Aside0.mk (HB12.out.alloc HB12.out.size (.cells (nums .i32 [131073]).toArray 21))
  simp only [nums, List.map_cons, List.map_nil, List.length_cons, List.length_nil, Nat.zero_add, Nat.reduceAdd, World.size_alloc] at hcw HAM
  have HCW := Aside0.mk hcw
  clear hcw hA
  go_wp2_with fail
  refine HCW.out.mono ?_
  rintro e w13 ⟨rfl, hb⟩
  have HB13 := Aside0.mk (bcompN HAM.out (by simp) hb)
  clear hb
  go_wp2_with fail
  go_ret
  exact ⟨rfl, HB13.out⟩

end Go.Proofs.Ytkogapmggicanaa.G
