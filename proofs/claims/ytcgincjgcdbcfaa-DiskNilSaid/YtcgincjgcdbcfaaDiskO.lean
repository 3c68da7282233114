/- done, of a disk that was not made: the walk. -/
import Derived.Test.YtcgincjgcdbcfaaDiskN
namespace Go.Proofs.Ytcgincjgcdbcfaa.G
open Go.RowKit Go.Proofs.Ytcgincjgcdbcfaa.Dk Go.Proofs.YtcgincjgcdbcfaaW.PrintWords
set_option linter.unusedVariables false
set_option linter.unusedSimpArgs false
set_option maxRecDepth 100000
set_option maxHeartbeats 2000000
/-- An act that came in. -/
structure ActIn (a0 a1 a2 a3 : Int) (A4 : Option Addr) (c4 : Nat) (l4 : List Int) (A5 : Option Addr) (c5 : Nat) (l5 : List Int) (w : World) : Prop where
  r4 : Kd.C (Kd.int .u8) w A4 l4.length l4
  c4 : l4.length ≤ c4
  r5 : Kd.C (Kd.int .i64) w A5 l5.length l5
  c5 : l5.length ≤ c5
theorem ActIn.below {a0 a1 a2 a3 : Int} {A4 : Option Addr} {c4 : Nat} {l4 : List Int} {A5 : Option Addr} {c5 : Nat} {l5 : List Int} {w w' : World} (h : ActIn a0 a1 a2 a3 A4 c4 l4 A5 c5 l5 w) (hb : Below w.heap.size w w') : ActIn a0 a1 a2 a3 A4 c4 l4 A5 c5 l5 w' :=
  ⟨Kd.C_below h.r4 hb, h.c4, Kd.C_below h.r5 hb, h.c5⟩
theorem done_2 (a0 a1 a2 a3 : Int) (A4 : Option Addr) (c4 : Nat) (l4 : List Int) (A5 : Option Addr) (c5 : Nat) (l5 : List Int) (w : World) (h : ActIn a0 a1 a2 a3 A4 c4 l4 A5 c5 l5 w) (h4 : l4.length ≤ 120) (h5 : l5.length ≤ 120) (hk : a0 % 8 = 2) :
    Calls Try.prog 31 #[.pointer none, .agg #[.int .i64 a0, .int .i64 a1, .int .i64 a2, .int .i64 a3, .slice A4 l4.length c4, .slice A5 l5.length c5]] w fun e w' => e = .returned (.int .i64 1) ∧ Below w.heap.size w w' := by
  have HPick := Aside0.mk (fun W => wayfinderkit_Pick.calls a0 8 (a0 % 8) W (Pick_ex a0 8 (by omega) (by omega)))
  rw [hk] at HPick
  obtain ⟨r1, hr1⟩ := name_c a1
  obtain ⟨r2, hr2⟩ := name_c a2
  have HN1 := Aside0.mk hr1
  have HN2 := Aside0.mk hr2
  have HB0 := Aside0.mk ((Below.refl w.heap.size w).alloc (Nat.le_refl _) (.cells #[.int .i64 a0, .int .i64 a1, .int .i64 a2, .int .i64 a3, .slice A4 l4.length c4, .slice A5 l5.length c5] 46))
  have HO4 := Aside0.mk (fun W (hB : Below w.heap.size w W) => Own_b A4 c4 l4 W (Kd.C_below h.r4 hB) h.c4 h4)
  have HO5 := Aside0.mk (fun W (hB : Below w.heap.size w W) => Own_i A5 c5 l5 W (Kd.C_below h.r5 hB) h.c5 h5)
  have HF := Aside0.mk (fun W (hB : Below w.heap.size w W) => show Calls Try.prog 72 #[.agg #[.int .i64 a0, .int .i64 a1, .int .i64 a2, .int .i64 a3, .slice A4 l4.length c4, .slice A5 l5.length c5]] W fun e w' => (∃ x, e = .returned (.int .i64 x)) ∧ Below W.heap.size W w' from by
    by_cases h3 : a3 < 0
    · exact (wayfinderlaw06_fuse.calls a0 a1 a2 a3 A4 c4 l4 A5 c5 l5 (-1) W (Kd.C_below h.r4 hB) h.c4 (Kd.C_below h.r5 hB) h.c5 (by unfold wayfinderlaw06_fuse.f; rw [if_pos h3])).mono fun e w' ⟨he, hb⟩ => ⟨⟨_, he⟩, hb⟩
    · exact (wayfinderlaw06_fuse.calls a0 a1 a2 a3 A4 c4 l4 A5 c5 l5 (Int.tmod a3 12) W (Kd.C_below h.r4 hB) h.c4 (Kd.C_below h.r5 hB) h.c5 (by unfold wayfinderlaw06_fuse.f; rw [if_neg h3])).mono fun e w' ⟨he, hb⟩ => ⟨⟨_, he⟩, hb⟩)
  clear h hr1 hr2 hk
  go_enter Try.func31, Try.ntmps31
  go_wp2_with (first | (go_at_call 33; ((with_reducible refine (HPick.out _).mono ?_); rintro e w1 ⟨rfl, ⟨nd, rfl⟩⟩; have HB1 := Aside0.mk (pw_below_drewN HB0.out nd))) | (go_at_call 37; ((with_reducible refine (HN1.out _).mono ?_); rintro e w2 ⟨rfl, hb⟩; have HB2 := Aside0.mk (below_then HB1.out HB1.out.size hb); clear hb)) | (go_at_call 18; ((with_reducible refine (nSync _ _).mono ?_); rintro e w9 ⟨rfl, hb⟩; have HB9 := Aside0.mk (below_then HB2.out HB2.out.size hb); clear hb)))
  go_ret
  exact ⟨rfl, HB9.out⟩
theorem done_4 (a0 a1 a2 a3 : Int) (A4 : Option Addr) (c4 : Nat) (l4 : List Int) (A5 : Option Addr) (c5 : Nat) (l5 : List Int) (w : World) (h : ActIn a0 a1 a2 a3 A4 c4 l4 A5 c5 l5 w) (h4 : l4.length ≤ 120) (h5 : l5.length ≤ 120) (hk : a0 % 8 = 4) :
    Calls Try.prog 31 #[.pointer none, .agg #[.int .i64 a0, .int .i64 a1, .int .i64 a2, .int .i64 a3, .slice A4 l4.length c4, .slice A5 l5.length c5]] w fun e w' => e = .returned (.int .i64 1) ∧ Below w.heap.size w w' := by
  have HPick := Aside0.mk (fun W => wayfinderkit_Pick.calls a0 8 (a0 % 8) W (Pick_ex a0 8 (by omega) (by omega)))
  rw [hk] at HPick
  obtain ⟨r1, hr1⟩ := name_c a1
  obtain ⟨r2, hr2⟩ := name_c a2
  have HN1 := Aside0.mk hr1
  have HN2 := Aside0.mk hr2
  have HB0 := Aside0.mk ((Below.refl w.heap.size w).alloc (Nat.le_refl _) (.cells #[.int .i64 a0, .int .i64 a1, .int .i64 a2, .int .i64 a3, .slice A4 l4.length c4, .slice A5 l5.length c5] 46))
  have HO4 := Aside0.mk (fun W (hB : Below w.heap.size w W) => Own_b A4 c4 l4 W (Kd.C_below h.r4 hB) h.c4 h4)
  have HO5 := Aside0.mk (fun W (hB : Below w.heap.size w W) => Own_i A5 c5 l5 W (Kd.C_below h.r5 hB) h.c5 h5)
  have HF := Aside0.mk (fun W (hB : Below w.heap.size w W) => show Calls Try.prog 72 #[.agg #[.int .i64 a0, .int .i64 a1, .int .i64 a2, .int .i64 a3, .slice A4 l4.length c4, .slice A5 l5.length c5]] W fun e w' => (∃ x, e = .returned (.int .i64 x)) ∧ Below W.heap.size W w' from by
    by_cases h3 : a3 < 0
    · exact (wayfinderlaw06_fuse.calls a0 a1 a2 a3 A4 c4 l4 A5 c5 l5 (-1) W (Kd.C_below h.r4 hB) h.c4 (Kd.C_below h.r5 hB) h.c5 (by unfold wayfinderlaw06_fuse.f; rw [if_pos h3])).mono fun e w' ⟨he, hb⟩ => ⟨⟨_, he⟩, hb⟩
    · exact (wayfinderlaw06_fuse.calls a0 a1 a2 a3 A4 c4 l4 A5 c5 l5 (Int.tmod a3 12) W (Kd.C_below h.r4 hB) h.c4 (Kd.C_below h.r5 hB) h.c5 (by unfold wayfinderlaw06_fuse.f; rw [if_neg h3])).mono fun e w' ⟨he, hb⟩ => ⟨⟨_, he⟩, hb⟩)
  clear h hr1 hr2 hk
  go_enter Try.func31, Try.ntmps31
  go_wp2_with (first | (go_at_call 33; ((with_reducible refine (HPick.out _).mono ?_); rintro e w1 ⟨rfl, ⟨nd, rfl⟩⟩; have HB1 := Aside0.mk (pw_below_drewN HB0.out nd))) | (go_at_call 37; ((with_reducible refine (HN1.out _).mono ?_); rintro e w2 ⟨rfl, hb⟩; have HB2 := Aside0.mk (below_then HB1.out HB1.out.size hb); clear hb)) | (go_at_call 35; ((with_reducible refine (nDelete _ _).mono ?_); rintro e w9 ⟨rfl, hb⟩; have HB9 := Aside0.mk (below_then HB2.out HB2.out.size hb); clear hb)))
  go_ret
  exact ⟨rfl, HB9.out⟩
theorem done_6 (a0 a1 a2 a3 : Int) (A4 : Option Addr) (c4 : Nat) (l4 : List Int) (A5 : Option Addr) (c5 : Nat) (l5 : List Int) (w : World) (h : ActIn a0 a1 a2 a3 A4 c4 l4 A5 c5 l5 w) (h4 : l4.length ≤ 120) (h5 : l5.length ≤ 120) (hk : a0 % 8 = 6) :
    Calls Try.prog 31 #[.pointer none, .agg #[.int .i64 a0, .int .i64 a1, .int .i64 a2, .int .i64 a3, .slice A4 l4.length c4, .slice A5 l5.length c5]] w fun e w' => e = .returned (.int .i64 1) ∧ Below w.heap.size w w' := by
  have HPick := Aside0.mk (fun W => wayfinderkit_Pick.calls a0 8 (a0 % 8) W (Pick_ex a0 8 (by omega) (by omega)))
  rw [hk] at HPick
  obtain ⟨r1, hr1⟩ := name_c a1
  obtain ⟨r2, hr2⟩ := name_c a2
  have HN1 := Aside0.mk hr1
  have HN2 := Aside0.mk hr2
  have HB0 := Aside0.mk ((Below.refl w.heap.size w).alloc (Nat.le_refl _) (.cells #[.int .i64 a0, .int .i64 a1, .int .i64 a2, .int .i64 a3, .slice A4 l4.length c4, .slice A5 l5.length c5] 46))
  have HO4 := Aside0.mk (fun W (hB : Below w.heap.size w W) => Own_b A4 c4 l4 W (Kd.C_below h.r4 hB) h.c4 h4)
  have HO5 := Aside0.mk (fun W (hB : Below w.heap.size w W) => Own_i A5 c5 l5 W (Kd.C_below h.r5 hB) h.c5 h5)
  have HF := Aside0.mk (fun W (hB : Below w.heap.size w W) => show Calls Try.prog 72 #[.agg #[.int .i64 a0, .int .i64 a1, .int .i64 a2, .int .i64 a3, .slice A4 l4.length c4, .slice A5 l5.length c5]] W fun e w' => (∃ x, e = .returned (.int .i64 x)) ∧ Below W.heap.size W w' from by
    by_cases h3 : a3 < 0
    · exact (wayfinderlaw06_fuse.calls a0 a1 a2 a3 A4 c4 l4 A5 c5 l5 (-1) W (Kd.C_below h.r4 hB) h.c4 (Kd.C_below h.r5 hB) h.c5 (by unfold wayfinderlaw06_fuse.f; rw [if_pos h3])).mono fun e w' ⟨he, hb⟩ => ⟨⟨_, he⟩, hb⟩
    · exact (wayfinderlaw06_fuse.calls a0 a1 a2 a3 A4 c4 l4 A5 c5 l5 (Int.tmod a3 12) W (Kd.C_below h.r4 hB) h.c4 (Kd.C_below h.r5 hB) h.c5 (by unfold wayfinderlaw06_fuse.f; rw [if_neg h3])).mono fun e w' ⟨he, hb⟩ => ⟨⟨_, he⟩, hb⟩)
  clear h hr1 hr2 hk
  go_enter Try.func31, Try.ntmps31
  go_wp2_with (first | (go_at_call 33; ((with_reducible refine (HPick.out _).mono ?_); rintro e w1 ⟨rfl, ⟨nd, rfl⟩⟩; have HB1 := Aside0.mk (pw_below_drewN HB0.out nd))) | (go_at_call 72; ((with_reducible refine (HF.out _ HB1.out).mono ?_); rintro e w2 ⟨⟨x, rfl⟩, hb⟩; have HB2 := Aside0.mk (below_then HB1.out HB1.out.size hb); clear hb)) | (go_at_call 16; ((with_reducible refine (nFuse _ _).mono ?_); rintro e w9 ⟨rfl, hb⟩; have HB9 := Aside0.mk (below_then HB2.out HB2.out.size hb); clear hb)))
  go_ret
  exact ⟨rfl, HB9.out⟩
theorem done_7 (a0 a1 a2 a3 : Int) (A4 : Option Addr) (c4 : Nat) (l4 : List Int) (A5 : Option Addr) (c5 : Nat) (l5 : List Int) (w : World) (h : ActIn a0 a1 a2 a3 A4 c4 l4 A5 c5 l5 w) (h4 : l4.length ≤ 120) (h5 : l5.length ≤ 120) (hk : a0 % 8 = 7) :
    Calls Try.prog 31 #[.pointer none, .agg #[.int .i64 a0, .int .i64 a1, .int .i64 a2, .int .i64 a3, .slice A4 l4.length c4, .slice A5 l5.length c5]] w fun e w' => e = .returned (.int .i64 1) ∧ Below w.heap.size w w' := by
  have HPick := Aside0.mk (fun W => wayfinderkit_Pick.calls a0 8 (a0 % 8) W (Pick_ex a0 8 (by omega) (by omega)))
  rw [hk] at HPick
  obtain ⟨r1, hr1⟩ := name_c a1
  obtain ⟨r2, hr2⟩ := name_c a2
  have HN1 := Aside0.mk hr1
  have HN2 := Aside0.mk hr2
  have HB0 := Aside0.mk ((Below.refl w.heap.size w).alloc (Nat.le_refl _) (.cells #[.int .i64 a0, .int .i64 a1, .int .i64 a2, .int .i64 a3, .slice A4 l4.length c4, .slice A5 l5.length c5] 46))
  have HO4 := Aside0.mk (fun W (hB : Below w.heap.size w W) => Own_b A4 c4 l4 W (Kd.C_below h.r4 hB) h.c4 h4)
  have HO5 := Aside0.mk (fun W (hB : Below w.heap.size w W) => Own_i A5 c5 l5 W (Kd.C_below h.r5 hB) h.c5 h5)
  have HF := Aside0.mk (fun W (hB : Below w.heap.size w W) => show Calls Try.prog 72 #[.agg #[.int .i64 a0, .int .i64 a1, .int .i64 a2, .int .i64 a3, .slice A4 l4.length c4, .slice A5 l5.length c5]] W fun e w' => (∃ x, e = .returned (.int .i64 x)) ∧ Below W.heap.size W w' from by
    by_cases h3 : a3 < 0
    · exact (wayfinderlaw06_fuse.calls a0 a1 a2 a3 A4 c4 l4 A5 c5 l5 (-1) W (Kd.C_below h.r4 hB) h.c4 (Kd.C_below h.r5 hB) h.c5 (by unfold wayfinderlaw06_fuse.f; rw [if_pos h3])).mono fun e w' ⟨he, hb⟩ => ⟨⟨_, he⟩, hb⟩
    · exact (wayfinderlaw06_fuse.calls a0 a1 a2 a3 A4 c4 l4 A5 c5 l5 (Int.tmod a3 12) W (Kd.C_below h.r4 hB) h.c4 (Kd.C_below h.r5 hB) h.c5 (by unfold wayfinderlaw06_fuse.f; rw [if_neg h3])).mono fun e w' ⟨he, hb⟩ => ⟨⟨_, he⟩, hb⟩)
  clear h hr1 hr2 hk
  go_enter Try.func31, Try.ntmps31
  go_wp2_with (first | (go_at_call 33; ((with_reducible refine (HPick.out _).mono ?_); rintro e w1 ⟨rfl, ⟨nd, rfl⟩⟩; have HB1 := Aside0.mk (pw_below_drewN HB0.out nd))) | (go_at_call 43; ((with_reducible refine (HO5.out _ HB1.out).mono ?_); rintro e w2 ⟨v, rfl, hv, hb⟩; have HV := Aside0.mk hv; have HB2 := Aside0.mk (below_then HB1.out HB1.out.size hb); clear hb hv)) | (go_at_call 21; ((with_reducible refine (nCrash _ _ HV.out).mono ?_); rintro e w9 ⟨rfl, hb⟩; have HB9 := Aside0.mk (below_then HB2.out HB2.out.size hb); clear hb)))
  go_ret
  exact ⟨rfl, HB9.out⟩
end Go.Proofs.Ytcgincjgcdbcfaa.G
