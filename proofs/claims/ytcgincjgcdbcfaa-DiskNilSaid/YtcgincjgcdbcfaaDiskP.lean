/- done, of a disk that was not made: the walks whose order is drawn. -/
import Derived.Test.YtcgincjgcdbcfaaDiskO
namespace Go.Proofs.Ytcgincjgcdbcfaa.G
open Go.RowKit Go.Proofs.Ytcgincjgcdbcfaa.Dk Go.Proofs.YtcgincjgcdbcfaaW.PrintWords
set_option linter.unusedVariables false
set_option linter.unusedSimpArgs false
set_option maxRecDepth 100000
set_option maxHeartbeats 4000000
theorem done_0 (a0 a1 a2 a3 : Int) (A4 : Option Addr) (c4 : Nat) (l4 : List Int) (A5 : Option Addr) (c5 : Nat) (l5 : List Int) (w : World) (h : ActIn a0 a1 a2 a3 A4 c4 l4 A5 c5 l5 w) (h4 : l4.length ≤ 120) (h5 : l5.length ≤ 120) (hk : a0 % 8 = 0) :
    Calls Try.prog 31 #[.pointer none, .agg #[.int .i64 a0, .int .i64 a1, .int .i64 a2, .int .i64 a3, .slice A4 l4.length c4, .slice A5 l5.length c5]] w fun e w' => e = .returned (.int .i64 1) ∧ Below w.heap.size w w' := by
  have HPick := Aside0.mk (fun W => wayfinderkit_Pick.calls a0 8 (a0 % 8) W (Pick_ex a0 8 (by omega) (by omega)))
  rw [hk] at HPick
  obtain ⟨r1, hr1⟩ := name_c a1
  obtain ⟨r2, hr2⟩ := name_c a2
  have HN1 := Aside0.mk hr1
  have HN2 := Aside0.mk hr2
  have HB0 := Aside0.mk ((Below.refl w.heap.size w).alloc (Nat.le_refl _) (.cells #[.int .i64 a0, .int .i64 a1, .int .i64 a2, .int .i64 a3, .slice A4 l4.length c4, .slice A5 l5.length c5] 46))
  have HO4 := Aside0.mk (fun W (hB : Below w.heap.size w W) => Own_b A4 c4 l4 W (Kd.C_below h.r4 hB) h.c4 h4)
  have HO5 := Aside0.mk (fun W (hB : Below w.heap.size w W) => Own_i A5 c5 l5 W (Kd.C_below h.r5 hB) h.c5 h5)
  have HF := Aside0.mk (fun W (hB : Below w.heap.size w W) => show Calls Try.prog 72 #[.agg #[.int .i64 a0, .int .i64 a1, .int .i64 a2, .int .i64 a3, .slice A4 l4.length c4, .slice A5 l5.length c5]] W fun e w' => (∃ x, e = .returned (.int .i64 x)) ∧ Below W.heap.size W w' from by
    by_cases h3 : a3 < 0
    · exact (wayfinderlaw06_fuse.calls a0 a1 a2 a3 A4 c4 l4 A5 c5 l5 (-1) W (Kd.C_below h.r4 hB) h.c4 (Kd.C_below h.r5 hB) h.c5 (by unfold wayfinderlaw06_fuse.f; rw [if_pos h3])).mono fun e w' ⟨he, hb⟩ => ⟨⟨_, he⟩, hb⟩
    · exact (wayfinderlaw06_fuse.calls a0 a1 a2 a3 A4 c4 l4 A5 c5 l5 (Int.tmod a3 12) W (Kd.C_below h.r4 hB) h.c4 (Kd.C_below h.r5 hB) h.c5 (by unfold wayfinderlaw06_fuse.f; rw [if_neg h3])).mono fun e w' ⟨he, hb⟩ => ⟨⟨_, he⟩, hb⟩)
  clear h hr1 hr2 hk
  go_enter Try.func31, Try.ntmps31
  go_wp2_with (first | (go_at_call 33; ((with_reducible refine (HPick.out _).mono ?_); rintro e w1 ⟨rfl, ⟨nd, rfl⟩⟩; have HB1 := Aside0.mk (pw_below_drewN HB0.out nd))))
  go_region_with (first | (go_at_call 37; ((with_reducible refine (HN1.out _).mono ?_); rintro e w2 ⟨rfl, hb⟩; have hc4 := pw_cell_below (a := ⟨w.heap.size, 4, none⟩) hb (show _ = some (Value.slice A4 l4.length c4) from by simp); have HB2 := Aside0.mk (below_step (by repeat (first | (with_reducible first | exact HB0.out | apply below_alloc | apply pw_below_drewN | apply below_drew1) | exact HB0.out)) hb); clear hb)) | (go_at_call 56; ((with_reducible refine (HO4.out _ (by repeat (first | (with_reducible first | exact HB2.out | apply below_alloc | apply pw_below_drewN | apply below_drew1) | exact HB2.out))).mono ?_); rintro e w3 ⟨v, rfl, hv, hb⟩; have HV := Aside0.mk hv; have HB3 := Aside0.mk (below_step (by repeat (first | (with_reducible first | exact HB2.out | apply below_alloc | apply pw_below_drewN | apply below_drew1) | exact HB2.out)) hb); clear hb hv)) | (go_at_call 17; ((with_reducible refine (nAppend _ _ _ (HV.out.mono (by simp))).mono ?_); rintro e w9 ⟨rfl, hb⟩; have HB9 := Aside0.mk (below_step (by repeat (first | (with_reducible first | exact HB3.out | apply below_alloc | apply pw_below_drewN | apply below_drew1) | exact HB3.out)) hb); clear hb)))
  all_goals (go_wp2; go_ret; exact ⟨rfl, HB9.out⟩)
theorem done_1 (a0 a1 a2 a3 : Int) (A4 : Option Addr) (c4 : Nat) (l4 : List Int) (A5 : Option Addr) (c5 : Nat) (l5 : List Int) (w : World) (h : ActIn a0 a1 a2 a3 A4 c4 l4 A5 c5 l5 w) (h4 : l4.length ≤ 120) (h5 : l5.length ≤ 120) (hk : a0 % 8 = 1) :
    Calls Try.prog 31 #[.pointer none, .agg #[.int .i64 a0, .int .i64 a1, .int .i64 a2, .int .i64 a3, .slice A4 l4.length c4, .slice A5 l5.length c5]] w fun e w' => e = .returned (.int .i64 1) ∧ Below w.heap.size w w' := by
  have HPick := Aside0.mk (fun W => wayfinderkit_Pick.calls a0 8 (a0 % 8) W (Pick_ex a0 8 (by omega) (by omega)))
  rw [hk] at HPick
  obtain ⟨r1, hr1⟩ := name_c a1
  obtain ⟨r2, hr2⟩ := name_c a2
  have HN1 := Aside0.mk hr1
  have HN2 := Aside0.mk hr2
  have HB0 := Aside0.mk ((Below.refl w.heap.size w).alloc (Nat.le_refl _) (.cells #[.int .i64 a0, .int .i64 a1, .int .i64 a2, .int .i64 a3, .slice A4 l4.length c4, .slice A5 l5.length c5] 46))
  have HO4 := Aside0.mk (fun W (hB : Below w.heap.size w W) => Own_b A4 c4 l4 W (Kd.C_below h.r4 hB) h.c4 h4)
  have HO5 := Aside0.mk (fun W (hB : Below w.heap.size w W) => Own_i A5 c5 l5 W (Kd.C_below h.r5 hB) h.c5 h5)
  have HF := Aside0.mk (fun W (hB : Below w.heap.size w W) => show Calls Try.prog 72 #[.agg #[.int .i64 a0, .int .i64 a1, .int .i64 a2, .int .i64 a3, .slice A4 l4.length c4, .slice A5 l5.length c5]] W fun e w' => (∃ x, e = .returned (.int .i64 x)) ∧ Below W.heap.size W w' from by
    by_cases h3 : a3 < 0
    · exact (wayfinderlaw06_fuse.calls a0 a1 a2 a3 A4 c4 l4 A5 c5 l5 (-1) W (Kd.C_below h.r4 hB) h.c4 (Kd.C_below h.r5 hB) h.c5 (by unfold wayfinderlaw06_fuse.f; rw [if_pos h3])).mono fun e w' ⟨he, hb⟩ => ⟨⟨_, he⟩, hb⟩
    · exact (wayfinderlaw06_fuse.calls a0 a1 a2 a3 A4 c4 l4 A5 c5 l5 (Int.tmod a3 12) W (Kd.C_below h.r4 hB) h.c4 (Kd.C_below h.r5 hB) h.c5 (by unfold wayfinderlaw06_fuse.f; rw [if_neg h3])).mono fun e w' ⟨he, hb⟩ => ⟨⟨_, he⟩, hb⟩)
  clear h hr1 hr2 hk
  go_enter Try.func31, Try.ntmps31
  go_wp2_with (first | (go_at_call 33; ((with_reducible refine (HPick.out _).mono ?_); rintro e w1 ⟨rfl, ⟨nd, rfl⟩⟩; have HB1 := Aside0.mk (pw_below_drewN HB0.out nd))))
  go_region_with (first | (go_at_call 37; ((with_reducible refine (HN1.out _).mono ?_); rintro e w2 ⟨rfl, hb⟩; have hc4 := pw_cell_below (a := ⟨w.heap.size, 4, none⟩) hb (show _ = some (Value.slice A4 l4.length c4) from by simp); have HB2 := Aside0.mk (below_step (by repeat (first | (with_reducible first | exact HB0.out | apply below_alloc | apply pw_below_drewN | apply below_drew1) | exact HB0.out)) hb); clear hb)) | (go_at_call 56; ((with_reducible refine (HO4.out _ (by repeat (first | (with_reducible first | exact HB2.out | apply below_alloc | apply pw_below_drewN | apply below_drew1) | exact HB2.out))).mono ?_); rintro e w3 ⟨v, rfl, hv, hb⟩; have HV := Aside0.mk hv; have HB3 := Aside0.mk (below_step (by repeat (first | (with_reducible first | exact HB2.out | apply below_alloc | apply pw_below_drewN | apply below_drew1) | exact HB2.out)) hb); clear hb hv)) | (go_at_call 17; ((with_reducible refine (nAppend _ _ _ (HV.out.mono (by simp))).mono ?_); rintro e w9 ⟨rfl, hb⟩; have HB9 := Aside0.mk (below_step (by repeat (first | (with_reducible first | exact HB3.out | apply below_alloc | apply pw_below_drewN | apply below_drew1) | exact HB3.out)) hb); clear hb)))
  all_goals (go_wp2; go_ret; exact ⟨rfl, HB9.out⟩)
theorem done_3 (a0 a1 a2 a3 : Int) (A4 : Option Addr) (c4 : Nat) (l4 : List Int) (A5 : Option Addr) (c5 : Nat) (l5 : List Int) (w : World) (h : ActIn a0 a1 a2 a3 A4 c4 l4 A5 c5 l5 w) (h4 : l4.length ≤ 120) (h5 : l5.length ≤ 120) (hk : a0 % 8 = 3) :
    Calls Try.prog 31 #[.pointer none, .agg #[.int .i64 a0, .int .i64 a1, .int .i64 a2, .int .i64 a3, .slice A4 l4.length c4, .slice A5 l5.length c5]] w fun e w' => e = .returned (.int .i64 1) ∧ Below w.heap.size w w' := by
  have HPick := Aside0.mk (fun W => wayfinderkit_Pick.calls a0 8 (a0 % 8) W (Pick_ex a0 8 (by omega) (by omega)))
  rw [hk] at HPick
  obtain ⟨r1, hr1⟩ := name_c a1
  obtain ⟨r2, hr2⟩ := name_c a2
  have HN1 := Aside0.mk hr1
  have HN2 := Aside0.mk hr2
  have HB0 := Aside0.mk ((Below.refl w.heap.size w).alloc (Nat.le_refl _) (.cells #[.int .i64 a0, .int .i64 a1, .int .i64 a2, .int .i64 a3, .slice A4 l4.length c4, .slice A5 l5.length c5] 46))
  have HO4 := Aside0.mk (fun W (hB : Below w.heap.size w W) => Own_b A4 c4 l4 W (Kd.C_below h.r4 hB) h.c4 h4)
  have HO5 := Aside0.mk (fun W (hB : Below w.heap.size w W) => Own_i A5 c5 l5 W (Kd.C_below h.r5 hB) h.c5 h5)
  have HF := Aside0.mk (fun W (hB : Below w.heap.size w W) => show Calls Try.prog 72 #[.agg #[.int .i64 a0, .int .i64 a1, .int .i64 a2, .int .i64 a3, .slice A4 l4.length c4, .slice A5 l5.length c5]] W fun e w' => (∃ x, e = .returned (.int .i64 x)) ∧ Below W.heap.size W w' from by
    by_cases h3 : a3 < 0
    · exact (wayfinderlaw06_fuse.calls a0 a1 a2 a3 A4 c4 l4 A5 c5 l5 (-1) W (Kd.C_below h.r4 hB) h.c4 (Kd.C_below h.r5 hB) h.c5 (by unfold wayfinderlaw06_fuse.f; rw [if_pos h3])).mono fun e w' ⟨he, hb⟩ => ⟨⟨_, he⟩, hb⟩
    · exact (wayfinderlaw06_fuse.calls a0 a1 a2 a3 A4 c4 l4 A5 c5 l5 (Int.tmod a3 12) W (Kd.C_below h.r4 hB) h.c4 (Kd.C_below h.r5 hB) h.c5 (by unfold wayfinderlaw06_fuse.f; rw [if_neg h3])).mono fun e w' ⟨he, hb⟩ => ⟨⟨_, he⟩, hb⟩)
  clear h hr1 hr2 hk
  go_enter Try.func31, Try.ntmps31
  go_wp2_with (first | (go_at_call 33; ((with_reducible refine (HPick.out _).mono ?_); rintro e w1 ⟨rfl, ⟨nd, rfl⟩⟩; have HB1 := Aside0.mk (pw_below_drewN HB0.out nd))))
  go_region_with (first | (go_at_call 37; ((with_reducible refine (HN1.out _).mono ?_); rintro e w2 ⟨rfl, hb⟩; have hc4 := pw_cell_below (a := ⟨w.heap.size, 2, none⟩) hb (show _ = some (Value.int .i64 a2) from by simp); have HB2 := Aside0.mk (below_step (by repeat (first | (with_reducible first | exact HB0.out | apply below_alloc | apply pw_below_drewN | apply below_drew1) | exact HB0.out)) hb); clear hb)) | (go_at_call 37; ((with_reducible refine (HN2.out _).mono ?_); rintro e w2 ⟨rfl, hb⟩; have HB3 := Aside0.mk (below_step (by repeat (first | (with_reducible first | exact HB2.out | apply below_alloc | apply pw_below_drewN | apply below_drew1) | exact HB2.out)) hb); clear hb)) | (go_at_call 22; ((with_reducible refine (nRename _ _ _).mono ?_); rintro e w9 ⟨rfl, hb⟩; have HB9 := Aside0.mk (below_step (by repeat (first | (with_reducible first | exact HB3.out | apply below_alloc | apply pw_below_drewN | apply below_drew1) | exact HB3.out)) hb); clear hb)))
  all_goals (go_wp2; go_ret; exact ⟨rfl, HB9.out⟩)
theorem done_5 (a0 a1 a2 a3 : Int) (A4 : Option Addr) (c4 : Nat) (l4 : List Int) (A5 : Option Addr) (c5 : Nat) (l5 : List Int) (w : World) (h : ActIn a0 a1 a2 a3 A4 c4 l4 A5 c5 l5 w) (h4 : l4.length ≤ 120) (h5 : l5.length ≤ 120) (hk : a0 % 8 = 5) :
    Calls Try.prog 31 #[.pointer none, .agg #[.int .i64 a0, .int .i64 a1, .int .i64 a2, .int .i64 a3, .slice A4 l4.length c4, .slice A5 l5.length c5]] w fun e w' => e = .returned (.int .i64 1) ∧ Below w.heap.size w w' := by
  have HPick := Aside0.mk (fun W => wayfinderkit_Pick.calls a0 8 (a0 % 8) W (Pick_ex a0 8 (by omega) (by omega)))
  rw [hk] at HPick
  obtain ⟨r1, hr1⟩ := name_c a1
  obtain ⟨r2, hr2⟩ := name_c a2
  have HN1 := Aside0.mk hr1
  have HN2 := Aside0.mk hr2
  have HB0 := Aside0.mk ((Below.refl w.heap.size w).alloc (Nat.le_refl _) (.cells #[.int .i64 a0, .int .i64 a1, .int .i64 a2, .int .i64 a3, .slice A4 l4.length c4, .slice A5 l5.length c5] 46))
  have HO4 := Aside0.mk (fun W (hB : Below w.heap.size w W) => Own_b A4 c4 l4 W (Kd.C_below h.r4 hB) h.c4 h4)
  have HO5 := Aside0.mk (fun W (hB : Below w.heap.size w W) => Own_i A5 c5 l5 W (Kd.C_below h.r5 hB) h.c5 h5)
  have HF := Aside0.mk (fun W (hB : Below w.heap.size w W) => show Calls Try.prog 72 #[.agg #[.int .i64 a0, .int .i64 a1, .int .i64 a2, .int .i64 a3, .slice A4 l4.length c4, .slice A5 l5.length c5]] W fun e w' => (∃ x, e = .returned (.int .i64 x)) ∧ Below W.heap.size W w' from by
    by_cases h3 : a3 < 0
    · exact (wayfinderlaw06_fuse.calls a0 a1 a2 a3 A4 c4 l4 A5 c5 l5 (-1) W (Kd.C_below h.r4 hB) h.c4 (Kd.C_below h.r5 hB) h.c5 (by unfold wayfinderlaw06_fuse.f; rw [if_pos h3])).mono fun e w' ⟨he, hb⟩ => ⟨⟨_, he⟩, hb⟩
    · exact (wayfinderlaw06_fuse.calls a0 a1 a2 a3 A4 c4 l4 A5 c5 l5 (Int.tmod a3 12) W (Kd.C_below h.r4 hB) h.c4 (Kd.C_below h.r5 hB) h.c5 (by unfold wayfinderlaw06_fuse.f; rw [if_neg h3])).mono fun e w' ⟨he, hb⟩ => ⟨⟨_, he⟩, hb⟩)
  clear h hr1 hr2 hk
  go_enter Try.func31, Try.ntmps31
  go_wp2_with (first | (go_at_call 33; ((with_reducible refine (HPick.out _).mono ?_); rintro e w1 ⟨rfl, ⟨nd, rfl⟩⟩; have HB1 := Aside0.mk (pw_below_drewN HB0.out nd))))
  go_region_with (first | (go_at_call 37; ((with_reducible refine (HN1.out _).mono ?_); rintro e w2 ⟨rfl, hb⟩; have hc4 := pw_cell_below (a := ⟨w.heap.size, 3, none⟩) hb (show _ = some (Value.int .i64 a3) from by simp); have HB2 := Aside0.mk (below_step (by repeat (first | (with_reducible first | exact HB0.out | apply below_alloc | apply pw_below_drewN | apply below_drew1) | exact HB0.out)) hb); clear hb)) | (go_at_call 23; ((with_reducible refine (nCut _ _ _).mono ?_); rintro e w9 ⟨rfl, hb⟩; have HB9 := Aside0.mk (below_step (by repeat (first | (with_reducible first | exact HB2.out | apply below_alloc | apply pw_below_drewN | apply below_drew1) | exact HB2.out)) hb); clear hb)))
  all_goals (go_wp2; go_ret; exact ⟨rfl, HB9.out⟩)
theorem done_c (a0 a1 a2 a3 : Int) (A4 : Option Addr) (c4 : Nat) (l4 : List Int) (A5 : Option Addr) (c5 : Nat) (l5 : List Int) (w : World) (h : ActIn a0 a1 a2 a3 A4 c4 l4 A5 c5 l5 w) (h4 : l4.length ≤ 120) (h5 : l5.length ≤ 120) :
    Calls Try.prog 31 #[.pointer none, .agg #[.int .i64 a0, .int .i64 a1, .int .i64 a2, .int .i64 a3, .slice A4 l4.length c4, .slice A5 l5.length c5]] w fun e w' => e = .returned (.int .i64 1) ∧ Below w.heap.size w w' := by
  have g1 := Int.emod_nonneg a0 (show (8 : Int) ≠ 0 by omega)
  have g2 := Int.emod_lt_of_pos a0 (show (0 : Int) < 8 by omega)
  have : a0 % 8 = 0 ∨ a0 % 8 = 1 ∨ a0 % 8 = 2 ∨ a0 % 8 = 3 ∨ a0 % 8 = 4 ∨ a0 % 8 = 5 ∨ a0 % 8 = 6 ∨ a0 % 8 = 7 := by omega
  rcases this with hk | hk | hk | hk | hk | hk | hk | hk
  · exact done_0 a0 a1 a2 a3 A4 c4 l4 A5 c5 l5 w h h4 h5 hk
  · exact done_1 a0 a1 a2 a3 A4 c4 l4 A5 c5 l5 w h h4 h5 hk
  · exact done_2 a0 a1 a2 a3 A4 c4 l4 A5 c5 l5 w h h4 h5 hk
  · exact done_3 a0 a1 a2 a3 A4 c4 l4 A5 c5 l5 w h h4 h5 hk
  · exact done_4 a0 a1 a2 a3 A4 c4 l4 A5 c5 l5 w h h4 h5 hk
  · exact done_5 a0 a1 a2 a3 A4 c4 l4 A5 c5 l5 w h h4 h5 hk
  · exact done_6 a0 a1 a2 a3 A4 c4 l4 A5 c5 l5 w h h4 h5 hk
  · exact done_7 a0 a1 a2 a3 A4 c4 l4 A5 c5 l5 w h h4 h5 hk
end Go.Proofs.Ytcgincjgcdbcfaa.G
