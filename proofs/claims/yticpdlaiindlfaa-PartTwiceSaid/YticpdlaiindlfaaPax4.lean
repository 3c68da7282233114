/- Lean functions with the answers of Go functions, and the proofs that the Go code comes to them (printed by wip/gen/hyb.py). -/
import Derived.Test.YticpdlaiindlfaaPax0
import Derived.Test.YticpdlaiindlfaaPax1
import Derived.Test.YticpdlaiindlfaaPax2
import Derived.Test.YticpdlaiindlfaaECut
import Derived.Test.YticpdlaiindlfaaEJoin
namespace Go.Proofs.Yticpdlaiindlfaa.Pa
open Go.RowKit Go.Proofs.YticpdlaiindlfaaW.PrintWords Go.Proofs.YticpdlaiindlfaaW.PrintLast Go.Proofs.YticpdlaiindlfaaW.PrintMore
attribute [local go_sem] max2_int min2_int max_two min_two max_three min_three max_four min_four   -- for this text's walks alone
set_option linter.unusedVariables false
set_option linter.unusedSimpArgs false

/-! ### wayfinderlaw14_PartTwice: function 9 -/
mutual
def wayfinderlaw14_PartTwice.j0 : Nat → List Int → Int → Int → Int → Bool → Option (Bool)
  | 0, _, _, _, _, _ => none
  | k + 1, x0, x1, x2, x7, x28 => if x28 = true then (some true) else ((wayfinderkit_Pick.f x1 x7).bind fun t194 => (wayfinderlaw14_PartTwice.l0 k x0 x2 x7 (wrap64 (1 + t194))))
def wayfinderlaw14_PartTwice.l0 : Nat → List Int → Int → Int → Int → Option (Bool)
  | 0, _, _, _, _ => none
  | k + 1, x0, x2, x7, x8 => if x8 = 0 then (none) else (if (Int.tmod x7 x8) = 0 then ((wayfinderkit_Pick.f x2 (wrap64 (Int.tdiv x7 x8))).bind fun t195 => (wayfinderlaw14_PartTwice.l1 k x0 x7 x8 (wrap64 (1 + t195)))) else (wayfinderlaw14_PartTwice.l0 k x0 x2 x7 (wrap64 (x8 - 1))))
def wayfinderlaw14_PartTwice.l1 : Nat → List Int → Int → Int → Int → Option (Bool)
  | 0, _, _, _, _ => none
  | k + 1, x0, x7, x8, x9 => if x8 = 0 then (none) else (if x9 = 0 then (none) else (if (Int.tmod (wrap64 (Int.tdiv x7 x8)) x9) = 0 then ((part_Cut.f x0 x8).bind fun bt196 => ((part_Cut.f x0 (wrap64 (x8 * x9))).bind fun bt200 => (if bt196.2 = 0 then (if bt200.2 = 0 then (if (bt196.1.length : Int) = x8 then (wayfinderlaw14_PartTwice.j3 k x0 x8 x9 bt196.1 bt200.1 ((bt200.1.length : Int) != (wrap64 (x8 * x9)))) else (wayfinderlaw14_PartTwice.j3 k x0 x8 x9 bt196.1 bt200.1 true)) else (wayfinderlaw14_PartTwice.j3 k x0 x8 x9 bt196.1 bt200.1 true)) else (wayfinderlaw14_PartTwice.j3 k x0 x8 x9 bt196.1 bt200.1 true)))) else (wayfinderlaw14_PartTwice.l1 k x0 x7 x8 (wrap64 (x9 - 1)))))
def wayfinderlaw14_PartTwice.j3 : Nat → List Int → Int → Int → List (List Int) → List (List Int) → Bool → Option (Bool)
  | 0, _, _, _, _, _, _ => none
  | k + 1, x0, x8, x9, x10, x12, x86 => if x86 = true then (none) else (wayfinderlaw14_PartTwice.l2 k x0 x8 x9 x10 x12 0)
def wayfinderlaw14_PartTwice.l2 : Nat → List Int → Int → Int → List (List Int) → List (List Int) → Int → Option (Bool)
  | 0, _, _, _, _, _, _ => none
  | k + 1, x0, x8, x9, x10, x12, x14 => if x14 < x8 then (if 0 ≤ x14 then (if x14 < (x10.length : Int) then ((part_Cut.f (rd_L1 x10 x14) x9).bind fun bt210 => (if bt210.2 = 0 then (if 0 ≤ (wrap64 (x14 * x9)) then (if (wrap64 (x14 * x9)) ≤ (wrap64 ((wrap64 (x14 * x9)) + x9)) then (if (wrap64 ((wrap64 (x14 * x9)) + x9)) ≤ (x12.length : Int) then ((wayfinderkit_Lists_int32.f k bt210.1 ((x12.take ((wrap64 ((wrap64 (x14 * x9)) + x9)) : Int).toNat).drop ((wrap64 (x14 * x9)) : Int).toNat)).bind fun t218 => (if t218 = true then (wayfinderlaw14_PartTwice.l2 k x0 x8 x9 x10 x12 (wrap64 (x14 + 1))) else (none))) else (none)) else (none)) else (none)) else (none))) else (none)) else (none)) else ((part_Join.f x12).bind fun bt204 => (if bt204.2 = 0 then ((wayfinderkit_Same_int32.f k bt204.1 x0).bind fun t208 => (some t208)) else (none)))
end
def wayfinderlaw14_PartTwice.f (k : Nat) (l0 : List Int) (a1 : Int) (a2 : Int) : Option (Bool) := (wayfinderlaw14_lives.f k).bind fun t193 => (if t193 = true then (if (l0.length : Int) < 1 then (wayfinderlaw14_PartTwice.j0 k l0 a1 a2 (l0.length : Int) true) else (wayfinderlaw14_PartTwice.j0 k l0 a1 a2 (l0.length : Int) (decide ((l0.length : Int) > 1024)))) else (none))
theorem wayfinderlaw14_PartTwice.mono_l : ∀ k, (∀ y0 y1 y2 y3 y4, LeO (wayfinderlaw14_PartTwice.j0 k y0 y1 y2 y3 y4) (wayfinderlaw14_PartTwice.j0 (k + 1) y0 y1 y2 y3 y4)) ∧ (∀ y0 y1 y2 y3, LeO (wayfinderlaw14_PartTwice.l0 k y0 y1 y2 y3) (wayfinderlaw14_PartTwice.l0 (k + 1) y0 y1 y2 y3)) ∧ (∀ y0 y1 y2 y3, LeO (wayfinderlaw14_PartTwice.l1 k y0 y1 y2 y3) (wayfinderlaw14_PartTwice.l1 (k + 1) y0 y1 y2 y3)) ∧ (∀ y0 y1 y2 y3 y4 y5, LeO (wayfinderlaw14_PartTwice.j3 k y0 y1 y2 y3 y4 y5) (wayfinderlaw14_PartTwice.j3 (k + 1) y0 y1 y2 y3 y4 y5)) ∧ (∀ y0 y1 y2 y3 y4 y5, LeO (wayfinderlaw14_PartTwice.l2 k y0 y1 y2 y3 y4 y5) (wayfinderlaw14_PartTwice.l2 (k + 1) y0 y1 y2 y3 y4 y5))
  | 0 => ⟨fun _ _ _ _ _ r h => by simp [wayfinderlaw14_PartTwice.j0] at h, fun _ _ _ _ r h => by simp [wayfinderlaw14_PartTwice.l0] at h, fun _ _ _ _ r h => by simp [wayfinderlaw14_PartTwice.l1] at h, fun _ _ _ _ _ _ r h => by simp [wayfinderlaw14_PartTwice.j3] at h, fun _ _ _ _ _ _ r h => by simp [wayfinderlaw14_PartTwice.l2] at h⟩
  | k + 1 => by
    obtain ⟨ih0, ih1, ih2, ih3, ih4⟩ := wayfinderlaw14_PartTwice.mono_l k
    refine ⟨?_, ?_, ?_, ?_, ?_⟩
    · intro y0 y1 y2 y3 y4
      unfold wayfinderlaw14_PartTwice.j0
      repeat' first
      | (with_reducible exact ih0 _ _ _ _ _)
      | (with_reducible exact ih1 _ _ _ _)
      | (with_reducible exact ih2 _ _ _ _)
      | (with_reducible exact ih3 _ _ _ _ _ _)
      | (with_reducible exact ih4 _ _ _ _ _ _)
      | (with_reducible exact wayfinderkit_Lists_int32.mono _ _ _)
      | (with_reducible exact wayfinderkit_Same_int32.mono _ _ _)
      | (with_reducible exact wayfinderlaw14_lives.mono _)
      | (with_reducible exact LeO.refl _)
      | (with_reducible exact LeO.none _)
      | (with_reducible refine LeO.ite ?_ ?_)
      | (with_reducible refine LeO.bind ?_ (fun _ => ?_))
      | exact ih0 _ _ _ _ _
      | exact ih1 _ _ _ _
      | exact ih2 _ _ _ _
      | exact ih3 _ _ _ _ _ _
      | exact ih4 _ _ _ _ _ _
      | exact wayfinderkit_Lists_int32.mono _ _ _
      | exact wayfinderkit_Same_int32.mono _ _ _
      | exact wayfinderlaw14_lives.mono _
      | exact LeO.none _
      | refine LeO.ite ?_ ?_
      | refine LeO.bind ?_ (fun _ => ?_)
    · intro y0 y1 y2 y3
      unfold wayfinderlaw14_PartTwice.l0
      repeat' first
      | (with_reducible exact ih0 _ _ _ _ _)
      | (with_reducible exact ih1 _ _ _ _)
      | (with_reducible exact ih2 _ _ _ _)
      | (with_reducible exact ih3 _ _ _ _ _ _)
      | (with_reducible exact ih4 _ _ _ _ _ _)
      | (with_reducible exact wayfinderkit_Lists_int32.mono _ _ _)
      | (with_reducible exact wayfinderkit_Same_int32.mono _ _ _)
      | (with_reducible exact wayfinderlaw14_lives.mono _)
      | (with_reducible exact LeO.refl _)
      | (with_reducible exact LeO.none _)
      | (with_reducible refine LeO.ite ?_ ?_)
      | (with_reducible refine LeO.bind ?_ (fun _ => ?_))
      | exact ih0 _ _ _ _ _
      | exact ih1 _ _ _ _
      | exact ih2 _ _ _ _
      | exact ih3 _ _ _ _ _ _
      | exact ih4 _ _ _ _ _ _
      | exact wayfinderkit_Lists_int32.mono _ _ _
      | exact wayfinderkit_Same_int32.mono _ _ _
      | exact wayfinderlaw14_lives.mono _
      | exact LeO.none _
      | refine LeO.ite ?_ ?_
      | refine LeO.bind ?_ (fun _ => ?_)
    · intro y0 y1 y2 y3
      unfold wayfinderlaw14_PartTwice.l1
      repeat' first
      | (with_reducible exact ih0 _ _ _ _ _)
      | (with_reducible exact ih1 _ _ _ _)
      | (with_reducible exact ih2 _ _ _ _)
      | (with_reducible exact ih3 _ _ _ _ _ _)
      | (with_reducible exact ih4 _ _ _ _ _ _)
      | (with_reducible exact wayfinderkit_Lists_int32.mono _ _ _)
      | (with_reducible exact wayfinderkit_Same_int32.mono _ _ _)
      | (with_reducible exact wayfinderlaw14_lives.mono _)
      | (with_reducible exact LeO.refl _)
      | (with_reducible exact LeO.none _)
      | (with_reducible refine LeO.ite ?_ ?_)
      | (with_reducible refine LeO.bind ?_ (fun _ => ?_))
      | exact ih0 _ _ _ _ _
      | exact ih1 _ _ _ _
      | exact ih2 _ _ _ _
      | exact ih3 _ _ _ _ _ _
      | exact ih4 _ _ _ _ _ _
      | exact wayfinderkit_Lists_int32.mono _ _ _
      | exact wayfinderkit_Same_int32.mono _ _ _
      | exact wayfinderlaw14_lives.mono _
      | exact LeO.none _
      | refine LeO.ite ?_ ?_
      | refine LeO.bind ?_ (fun _ => ?_)
    · intro y0 y1 y2 y3 y4 y5
      unfold wayfinderlaw14_PartTwice.j3
      repeat' first
      | (with_reducible exact ih0 _ _ _ _ _)
      | (with_reducible exact ih1 _ _ _ _)
      | (with_reducible exact ih2 _ _ _ _)
      | (with_reducible exact ih3 _ _ _ _ _ _)
      | (with_reducible exact ih4 _ _ _ _ _ _)
      | (with_reducible exact wayfinderkit_Lists_int32.mono _ _ _)
      | (with_reducible exact wayfinderkit_Same_int32.mono _ _ _)
      | (with_reducible exact wayfinderlaw14_lives.mono _)
      | (with_reducible exact LeO.refl _)
      | (with_reducible exact LeO.none _)
      | (with_reducible refine LeO.ite ?_ ?_)
      | (with_reducible refine LeO.bind ?_ (fun _ => ?_))
      | exact ih0 _ _ _ _ _
      | exact ih1 _ _ _ _
      | exact ih2 _ _ _ _
      | exact ih3 _ _ _ _ _ _
      | exact ih4 _ _ _ _ _ _
      | exact wayfinderkit_Lists_int32.mono _ _ _
      | exact wayfinderkit_Same_int32.mono _ _ _
      | exact wayfinderlaw14_lives.mono _
      | exact LeO.none _
      | refine LeO.ite ?_ ?_
      | refine LeO.bind ?_ (fun _ => ?_)
    · intro y0 y1 y2 y3 y4 y5
      unfold wayfinderlaw14_PartTwice.l2
      repeat' first
      | (with_reducible exact ih0 _ _ _ _ _)
      | (with_reducible exact ih1 _ _ _ _)
      | (with_reducible exact ih2 _ _ _ _)
      | (with_reducible exact ih3 _ _ _ _ _ _)
      | (with_reducible exact ih4 _ _ _ _ _ _)
      | (with_reducible exact wayfinderkit_Lists_int32.mono _ _ _)
      | (with_reducible exact wayfinderkit_Same_int32.mono _ _ _)
      | (with_reducible exact wayfinderlaw14_lives.mono _)
      | (with_reducible exact LeO.refl _)
      | (with_reducible exact LeO.none _)
      | (with_reducible refine LeO.ite ?_ ?_)
      | (with_reducible refine LeO.bind ?_ (fun _ => ?_))
      | exact ih0 _ _ _ _ _
      | exact ih1 _ _ _ _
      | exact ih2 _ _ _ _
      | exact ih3 _ _ _ _ _ _
      | exact ih4 _ _ _ _ _ _
      | exact wayfinderkit_Lists_int32.mono _ _ _
      | exact wayfinderkit_Same_int32.mono _ _ _
      | exact wayfinderlaw14_lives.mono _
      | exact LeO.none _
      | refine LeO.ite ?_ ?_
      | refine LeO.bind ?_ (fun _ => ?_)
theorem wayfinderlaw14_PartTwice.mono : ∀ a0 a1 a2 k, LeO (wayfinderlaw14_PartTwice.f k a0 a1 a2) (wayfinderlaw14_PartTwice.f (k + 1) a0 a1 a2) := by
  intro a0 a1 a2 k
  obtain ⟨ih0, ih1, ih2, ih3, ih4⟩ := wayfinderlaw14_PartTwice.mono_l k
  unfold wayfinderlaw14_PartTwice.f
  repeat' first
      | (with_reducible exact ih0 _ _ _ _ _)
      | (with_reducible exact ih1 _ _ _ _)
      | (with_reducible exact ih2 _ _ _ _)
      | (with_reducible exact ih3 _ _ _ _ _ _)
      | (with_reducible exact ih4 _ _ _ _ _ _)
      | (with_reducible exact wayfinderkit_Lists_int32.mono _ _ _)
      | (with_reducible exact wayfinderkit_Same_int32.mono _ _ _)
      | (with_reducible exact wayfinderlaw14_lives.mono _)
      | (with_reducible exact LeO.refl _)
      | (with_reducible exact LeO.none _)
      | (with_reducible refine LeO.ite ?_ ?_)
      | (with_reducible refine LeO.bind ?_ (fun _ => ?_))
      | exact ih0 _ _ _ _ _
      | exact ih1 _ _ _ _
      | exact ih2 _ _ _ _
      | exact ih3 _ _ _ _ _ _
      | exact ih4 _ _ _ _ _ _
      | exact wayfinderkit_Lists_int32.mono _ _ _
      | exact wayfinderkit_Same_int32.mono _ _ _
      | exact wayfinderlaw14_lives.mono _
      | exact LeO.none _
      | refine LeO.ite ?_ ?_
      | refine LeO.bind ?_ (fun _ => ?_)
set_option maxHeartbeats 8000000 in
set_option maxRecDepth 100000 in
theorem wayfinderlaw14_PartTwice.calls (k : Nat) (A0 : Option Addr) (c0 : Nat) (l0 : List Int) (a1 : Int) (a2 : Int) (r : Bool) (w : World) (hr0 : Kd.C (Kd.int .i32) w A0 l0.length l0) (hc0 : l0.length ≤ c0) (h : wayfinderlaw14_PartTwice.f k l0 a1 a2 = some r) :
    Calls Try.prog 9 #[.slice A0 l0.length c0, .int .i64 a1, .int .i64 a2] w fun e w' => e = .returned (.bool r) ∧ Below w.heap.size w w' := by
  have HR0 := Aside0.mk hr0
  have HC0 := Aside0.mk hc0
  clear hr0 hc0
  have HB := Aside0.mk (Below.refl w.heap.size w)
  have H : ((wayfinderlaw14_lives.f k).bind fun t193 => (if t193 = true then (if (l0.length : Int) < 1 then (wayfinderlaw14_PartTwice.j0 k l0 a1 a2 (l0.length : Int) true) else (wayfinderlaw14_PartTwice.j0 k l0 a1 a2 (l0.length : Int) (decide ((l0.length : Int) > 1024)))) else (none))) = some r := h
  clear h
  replace H := Option.bind_eq_some_iff.mp H
  obtain ⟨t193, A40, H⟩ := H
  replace H : (if t193 = true then (if (l0.length : Int) < 1 then (wayfinderlaw14_PartTwice.j0 k l0 a1 a2 (l0.length : Int) true) else (wayfinderlaw14_PartTwice.j0 k l0 a1 a2 (l0.length : Int) (decide ((l0.length : Int) > 1024)))) else (none)) = some r := H
  have A4 := Aside0.mk A40
  clear A40
  by_cases c5 : t193 = true
  · subst c5
    have H1 : (if (l0.length : Int) < 1 then (wayfinderlaw14_PartTwice.j0 k l0 a1 a2 (l0.length : Int) true) else (wayfinderlaw14_PartTwice.j0 k l0 a1 a2 (l0.length : Int) (decide ((l0.length : Int) > 1024)))) = some r := by rw [if_pos rfl] at H; exact H
    clear H
    have H := H1
    clear H1
    have HC6 := Aside0.mk H
    clear H
    go_enter Try.func9, Try.ntmps9
    go_upto_region 4 with (first | ((with_reducible refine gate_callee (f := 26) rfl ?_); refine goesL_ (some 19) rfl rfl Try.func26 (by kernel_rfl) rfl #[] rfl (by (try simp only [List.map_toArray, List.map_cons, List.map_nil]); first | done | rfl | (simp only [List.length_drop, List.length_take]; rfl)) ?_; (with_reducible refine (wayfinderlaw14_lives.calls k  true _ A4.out).mono ?_); rintro e w7 ⟨rfl, hb⟩; refine ⟨_, rfl, ?_⟩; have n0_ := Aside0.mk (below_step (by repeat (first | (with_reducible first | exact HB.out | apply below_alloc | apply pw_below_drewN | apply below_drew1) | exact HB.out)) hb); clear HB; have HB := n0_; clear n0_; (try clear hb); (try clear hb2); (try clear hk); (try clear hi)))
    (try simp only [Act.put, List.setIfInBounds_toArray, List.set_cons_zero, List.set_cons_succ])
    go_cut [28] (fun v28 wc => ∃ (kq : Nat) (x28_5 : Bool), v28 = .bool x28_5 ∧ Aside0 (wayfinderlaw14_PartTwice.j0 kq l0 a1 a2 (l0.length : Int) x28_5 = some r) ∧ Aside0 (kq ≤ k) ∧ Aside0 (Below w.heap.size w wc))
    case first =>
      have H := HC6.out
      clear HC6
      by_cases c8 : (l0.length : Int) < 1
      · rw [if_pos c8] at H
        have c8b0 : decide ((l0.length : Int) < 1) = true := decide_eq_true c8
        have c8b1 : decide (l0.length < 1) = true := decide_eq_true (by omega)
        clear c8
        (first | rw [c8b0] | (simp only [i64_w, i32_w]; rw [c8b0]) | skip)
        have H' := Aside0.mk H
        clear H
        go_wp2
        go_meet
        case rel => exact ⟨_, (true), (by first | rfl | (simp; done) | (simp [*]; done)), H', ⟨by first | omega | exact Nat.le_refl _⟩, ⟨by repeat (first | (with_reducible first | exact HB.out | apply below_alloc | apply pw_below_drewN | apply below_drew1) | exact HB.out)⟩⟩
      · rw [if_neg c8] at H
        have c8b0 : decide ((l0.length : Int) < 1) = false := decide_eq_false c8
        have c8b1 : decide (l0.length < 1) = false := decide_eq_false (by omega)
        clear c8
        (first | rw [c8b0] | (simp only [i64_w, i32_w]; rw [c8b0]) | skip)
        have H' := Aside0.mk H
        clear H
        go_wp2
        go_meet
        case rel => exact ⟨_, (decide ((l0.length : Int) > 1024)), (by first | rfl | (simp; done) | (simp [*]; done)), H', ⟨by first | omega | exact Nat.le_refl _⟩, ⟨by repeat (first | (with_reducible first | exact HB.out | apply below_alloc | apply pw_below_drewN | apply below_drew1) | exact HB.out)⟩⟩
    case rest =>
      clear HC6
      try clear c2
      try clear p2
      try clear c5
      try clear c8
      try clear c8b0
      try clear c8b1
      obtain ⟨kq, x28_5, rfl, HA, HJ5, HB⟩ := hcut
      cases kq with
      | zero => exact absurd HA.out (by simp [wayfinderlaw14_PartTwice.j0])
      | succ kj5 =>
        have H := HA.out
        clear HA
        simp only [wayfinderlaw14_PartTwice.j0] at H
        by_cases c9 : x28_5 = true
        · subst c9
          have H1 : (some true) = some r := by rw [if_pos rfl] at H; exact H
          clear H
          have H := H1
          clear H1
          obtain rfl := Option.some.inj H
          go_wp2
          go_ret
          exact ⟨by first | rfl | (simp [errW_none, errW_some] <;> rfl) | (simp [*, errW_none, errW_some] <;> rfl), by repeat (first | (with_reducible first | exact HB.out | apply below_alloc | apply pw_below_drewN | apply below_drew1) | exact HB.out)⟩
        · replace c9 := Bool.eq_false_iff.mpr c9
          subst c9
          have H1 : ((wayfinderkit_Pick.f a1 (l0.length : Int)).bind fun t194 => (wayfinderlaw14_PartTwice.l0 kj5 l0 a2 (l0.length : Int) (wrap64 (1 + t194)))) = some r := by rw [if_neg (show ¬ (false = true) by decide)] at H; exact H
          clear H
          have H := H1
          clear H1
          replace H := Option.bind_eq_some_iff.mp H
          obtain ⟨t194, A100, H⟩ := H
          replace H : (wayfinderlaw14_PartTwice.l0 kj5 l0 a2 (l0.length : Int) (wrap64 (1 + t194))) = some r := H
          have A10 := Aside0.mk A100
          clear A100
          have H' := Aside0.mk H
          clear H
          go_wp2_with (first | ((with_reducible refine gate_callee (f := 18) rfl ?_); refine goesL_ (some 31) rfl rfl Try.func18 (by kernel_rfl) rfl #[.int .i64 a1, .int .i64 (l0.length : Int)] rfl (by (try simp only [List.map_toArray, List.map_cons, List.map_nil]); first | done | rfl | (simp only [List.length_drop, List.length_take]; rfl)) ?_; (with_reducible refine (wayfinderkit_Pick.calls a1 (l0.length : Int) t194 _ A10.out).mono ?_); rintro e w' ⟨rfl, ⟨nd, rfl⟩⟩; refine ⟨_, rfl, ?_⟩))
          go_loopg [8] kj5 (fun kq v8 w' => ∃ (x8_2 : Int), v8 = .int .i64 x8_2 ∧ Aside0 (wayfinderlaw14_PartTwice.l0 kq l0 a2 (l0.length : Int) x8_2 = some r) ∧ Aside0 (kq ≤ kj5) ∧ Aside0 (Below w.heap.size w w'))
          case atStart => exact ⟨(wrap64 (1 + t194)), (by first | rfl | (simp; done) | (simp [*]; done)), H', ⟨Nat.le_refl _⟩, ⟨by repeat (first | (with_reducible first | exact HB.out | apply below_alloc | apply pw_below_drewN | apply below_drew1) | exact HB.out)⟩⟩
          case round =>
            clear H'
            try clear c1
            try clear c2
            try clear p2
            try clear c5
            try clear p6
            try clear c8
            try clear c8b0
            try clear c8b1
            try clear c9
            try clear p2
            obtain ⟨x8_2, rfl, HA, HK2, HB⟩ := hrel
            cases gk with
            | zero => exact absurd HA.out (by simp [wayfinderlaw14_PartTwice.l0])
            | succ k2 =>
              have H := HA.out
              clear HA
              simp only [wayfinderlaw14_PartTwice.l0] at H
              by_cases c11 : x8_2 = 0
              · rw [if_pos c11] at H
                exact absurd H (by simp)
              · rw [if_neg c11] at H
                have c11b0 : (x8_2 == 0) = false := beq_eq_false_iff_ne.mpr c11
                have c11b1 : (x8_2 != 0) = true := bne_iff_ne.mpr c11
                by_cases c12 : (Int.tmod (l0.length : Int) x8_2) = 0
                · rw [if_pos c12] at H
                  have c12b0 : ((Int.tmod (l0.length : Int) x8_2) == 0) = true := beq_iff_eq.mpr c12
                  have c12b0z : ((((l0.length : Int) % x8_2)) == 0) = true := by simpa only [Int.tdiv_eq_ediv_of_nonneg (Int.natCast_nonneg _), Int.tmod_eq_emod_of_nonneg (Int.natCast_nonneg _)] using c12b0
                  have c12b1 : ((Int.tmod (l0.length : Int) x8_2) != 0) = false := bne_eq_false_iff_eq.mpr c12
                  have c12b1z : ((((l0.length : Int) % x8_2)) != 0) = false := by simpa only [Int.tdiv_eq_ediv_of_nonneg (Int.natCast_nonneg _), Int.tmod_eq_emod_of_nonneg (Int.natCast_nonneg _)] using c12b1
                  clear c12
                  replace H := Option.bind_eq_some_iff.mp H
                  obtain ⟨t195, A130, H⟩ := H
                  replace H : (wayfinderlaw14_PartTwice.l1 k2 l0 (l0.length : Int) x8_2 (wrap64 (1 + t195))) = some r := H
                  have A13 := Aside0.mk A130
                  clear A130
                  have H' := Aside0.mk H
                  clear H
                  go_wp2_with (first | ((with_reducible refine gate_callee (f := 18) rfl ?_); refine goesL_ (some 43) rfl rfl Try.func18 (by kernel_rfl) rfl #[.int .i64 a2, .int .i64 (wrap64 (Int.tdiv (l0.length : Int) x8_2))] rfl (by (try simp only [List.map_toArray, List.map_cons, List.map_nil]); first | done | rfl | (simp only [Int.tdiv_eq_ediv_of_nonneg (Int.natCast_nonneg _), Int.tmod_eq_emod_of_nonneg (Int.natCast_nonneg _)]; first | done | rfl) | (simp only [List.length_drop, List.length_take]; rfl)) ?_; (with_reducible refine (wayfinderkit_Pick.calls a2 (wrap64 (Int.tdiv (l0.length : Int) x8_2)) t195 _ A13.out).mono ?_); rintro e w' ⟨rfl, ⟨nd, rfl⟩⟩; refine ⟨_, rfl, ?_⟩))
                  go_loopg [9] k2 (fun kq v9 w' => ∃ (x9_3 : Int), v9 = .int .i64 x9_3 ∧ Aside0 (wayfinderlaw14_PartTwice.l1 kq l0 (l0.length : Int) x8_2 x9_3 = some r) ∧ Aside0 (kq ≤ k2) ∧ Aside0 (Below w.heap.size w w'))
                  case atStart => exact ⟨(wrap64 (1 + t195)), (by first | rfl | (simp; done) | (simp [*]; done)), H', ⟨Nat.le_refl _⟩, ⟨by repeat (first | (with_reducible first | exact HB.out | apply below_alloc | apply pw_below_drewN | apply below_drew1) | exact HB.out)⟩⟩
                  case round =>
                    clear H'
                    try clear c1
                    try clear c2
                    try clear p2
                    try clear c5
                    try clear p6
                    try clear c8
                    try clear c8b0
                    try clear c8b1
                    try clear c9
                    try clear c11
                    try clear c11b0
                    try clear c11b1
                    try clear c12
                    try clear c12b0
                    try clear c12b1
                    try clear p2
                    try clear p6
                    obtain ⟨x9_3, rfl, HA, HK3, HB⟩ := hrel
                    cases gk with
                    | zero => exact absurd HA.out (by simp [wayfinderlaw14_PartTwice.l1])
                    | succ k3 =>
                      have H := HA.out
                      clear HA
                      simp only [wayfinderlaw14_PartTwice.l1] at H
                      by_cases c14 : x8_2 = 0
                      · rw [if_pos c14] at H
                        exact absurd H (by simp)
                      · rw [if_neg c14] at H
                        have c14b0 : (x8_2 == 0) = false := beq_eq_false_iff_ne.mpr c14
                        have c14b1 : (x8_2 != 0) = true := bne_iff_ne.mpr c14
                        by_cases c15 : x9_3 = 0
                        · rw [if_pos c15] at H
                          exact absurd H (by simp)
                        · rw [if_neg c15] at H
                          have c15b0 : (x9_3 == 0) = false := beq_eq_false_iff_ne.mpr c15
                          have c15b1 : (x9_3 != 0) = true := bne_iff_ne.mpr c15
                          by_cases c16 : (Int.tmod (wrap64 (Int.tdiv (l0.length : Int) x8_2)) x9_3) = 0
                          · rw [if_pos c16] at H
                            have c16b0 : ((Int.tmod (wrap64 (Int.tdiv (l0.length : Int) x8_2)) x9_3) == 0) = true := beq_iff_eq.mpr c16
                            have c16b0z : ((Int.tmod (wrap64 (((l0.length : Int) / x8_2))) x9_3) == 0) = true := by simpa only [Int.tdiv_eq_ediv_of_nonneg (Int.natCast_nonneg _), Int.tmod_eq_emod_of_nonneg (Int.natCast_nonneg _)] using c16b0
                            have c16b1 : ((Int.tmod (wrap64 (Int.tdiv (l0.length : Int) x8_2)) x9_3) != 0) = false := bne_eq_false_iff_eq.mpr c16
                            have c16b1z : ((Int.tmod (wrap64 (((l0.length : Int) / x8_2))) x9_3) != 0) = false := by simpa only [Int.tdiv_eq_ediv_of_nonneg (Int.natCast_nonneg _), Int.tmod_eq_emod_of_nonneg (Int.natCast_nonneg _)] using c16b1
                            clear c16
                            replace H := Option.bind_eq_some_iff.mp H
                            obtain ⟨⟨t196, t197⟩, A170, H⟩ := H
                            replace H : ((part_Cut.f l0 (wrap64 (x8_2 * x9_3))).bind fun bt200 => (if t197 = 0 then (if bt200.2 = 0 then (if (t196.length : Int) = x8_2 then (wayfinderlaw14_PartTwice.j3 k3 l0 x8_2 x9_3 t196 bt200.1 ((bt200.1.length : Int) != (wrap64 (x8_2 * x9_3)))) else (wayfinderlaw14_PartTwice.j3 k3 l0 x8_2 x9_3 t196 bt200.1 true)) else (wayfinderlaw14_PartTwice.j3 k3 l0 x8_2 x9_3 t196 bt200.1 true)) else (wayfinderlaw14_PartTwice.j3 k3 l0 x8_2 x9_3 t196 bt200.1 true))) = some r := H
                            have A17 := Aside0.mk A170
                            clear A170
                            replace H := Option.bind_eq_some_iff.mp H
                            obtain ⟨⟨t200, t201⟩, A180, H⟩ := H
                            replace H : (if t197 = 0 then (if t201 = 0 then (if (t196.length : Int) = x8_2 then (wayfinderlaw14_PartTwice.j3 k3 l0 x8_2 x9_3 t196 t200 ((t200.length : Int) != (wrap64 (x8_2 * x9_3)))) else (wayfinderlaw14_PartTwice.j3 k3 l0 x8_2 x9_3 t196 t200 true)) else (wayfinderlaw14_PartTwice.j3 k3 l0 x8_2 x9_3 t196 t200 true)) else (wayfinderlaw14_PartTwice.j3 k3 l0 x8_2 x9_3 t196 t200 true)) = some r := H
                            have A18 := Aside0.mk A180
                            clear A180
                            have HC19 := Aside0.mk H
                            clear H
                            go_upto_region 14 with (first | ((with_reducible refine gate_callee (f := 29) rfl ?_); refine goesL_ (some 56) rfl rfl Try.func29 (by kernel_rfl) rfl #[.slice A0 l0.length c0, .int .i64 x8_2] rfl (by (try simp only [List.map_toArray, List.map_cons, List.map_nil]); first | done | rfl | (simp only [List.length_drop, List.length_take]; rfl)) ?_; (with_reducible refine (part_Cut.calls _ _ l0 x8_2 t196 t197 _ ?side1 ?side2 A17.out).mono ?_); (case side1 => repeat (first | exact (Kd.C_below HR0.out HB.out) | (with_reducible refine Kd.C_alloc ?_ _) | (with_reducible refine Kd.C_drewN ?_ _) | (with_reducible refine Kd.C_drew ?_))); (case side2 => exact HC0.out); rintro e w20 ⟨v198, rfl, ho0, hb⟩; refine ⟨_, rfl, ?_⟩; have n0_ := Aside0.mk (Kd.R_lower ho0 (below_size (by repeat (first | (with_reducible first | exact HB.out | apply below_alloc | apply pw_below_drewN | apply below_drew1) | exact HB.out)))); have n1_ := Aside0.mk (below_step (by repeat (first | (with_reducible first | exact HB.out | apply below_alloc | apply pw_below_drewN | apply below_drew1) | exact HB.out)) hb); clear HB; have HO199 := n0_; have HB := n1_; clear n0_ n1_; (try clear hb); (try clear hb2); (try clear hk); (try clear hi); (try clear ho0)) | ((with_reducible refine gate_callee (f := 29) rfl ?_); refine goesL_ (some 64) rfl rfl Try.func29 (by kernel_rfl) rfl #[.slice A0 l0.length c0, .int .i64 (wrap64 (x8_2 * x9_3))] rfl (by (try simp only [List.map_toArray, List.map_cons, List.map_nil]); first | done | rfl | (simp only [List.length_drop, List.length_take]; rfl)) ?_; (with_reducible refine (part_Cut.calls _ _ l0 (wrap64 (x8_2 * x9_3)) t200 t201 _ ?side1 ?side2 A18.out).mono ?_); (case side1 => repeat (first | exact (Kd.C_below HR0.out HB.out) | (with_reducible refine Kd.C_alloc ?_ _) | (with_reducible refine Kd.C_drewN ?_ _) | (with_reducible refine Kd.C_drew ?_))); (case side2 => exact HC0.out); rintro e w21 ⟨v202, rfl, ho0, hb⟩; refine ⟨_, rfl, ?_⟩; have n0_ := Aside0.mk (Kd.R_elder' (by (with_reducible repeat (first | apply Kd.R_alloc | apply Kd.R_drewN | apply Kd.R_drew)); exact HO199.out) (Kd.R_base ho0) hb); have n1_ := Aside0.mk (Kd.R_lower (Kd.R_new' ho0 (Kd.R_lt (by (with_reducible repeat (first | apply Kd.R_alloc | apply Kd.R_drewN | apply Kd.R_drew)); exact HO199.out))) (below_size (by repeat (first | (with_reducible first | exact HB.out | apply below_alloc | apply pw_below_drewN | apply below_drew1) | exact HB.out)))); have n2_ := Aside0.mk (below_step (by repeat (first | (with_reducible first | exact HB.out | apply below_alloc | apply pw_below_drewN | apply below_drew1) | exact HB.out)) hb); clear HO199; clear HB; have HO199 := n0_; have HO203 := n1_; have HB := n2_; clear n0_ n1_ n2_; (try clear hb); (try clear hb2); (try clear hk); (try clear hi); (try clear ho0)))
                            (try simp only [Act.put, List.setIfInBounds_toArray, List.set_cons_zero, List.set_cons_succ])
                            go_cut [86] (fun v86 wc => ∃ (kq : Nat) (x86_18 : Bool), v86 = .bool x86_18 ∧ Aside0 (wayfinderlaw14_PartTwice.j3 kq l0 x8_2 x9_3 t196 t200 x86_18 = some r) ∧ Aside0 (kq ≤ k3) ∧ Aside0 (Kd.R (Kd.slice 21 (Kd.int .i32)) 33 wc w.heap.size (fun k_ => some k_ ≠ (v202 : Value).ownBlock) v198 t196) ∧ Aside0 (Kd.R (Kd.slice 21 (Kd.int .i32)) 33 wc w.heap.size (fun k_ => some k_ ≠ (v198 : Value).ownBlock) v202 t200) ∧ Aside0 (Below w.heap.size w wc))
                            case first =>
                              have H := HC19.out
                              clear HC19
                              by_cases c22 : t197 = 0
                              · rw [if_pos c22] at H
                                have c22b0 : (t197 == 0) = true := beq_iff_eq.mpr c22
                                have c22b1 : (t197 != 0) = false := bne_eq_false_iff_eq.mpr c22
                                clear c22
                                (first | rw [c22b0] | (simp only [i64_w, i32_w]; rw [c22b0]) | skip)
                                by_cases c23 : t201 = 0
                                · rw [if_pos c23] at H
                                  have c23b0 : (t201 == 0) = true := beq_iff_eq.mpr c23
                                  have c23b1 : (t201 != 0) = false := bne_eq_false_iff_eq.mpr c23
                                  clear c23
                                  by_cases c24 : (t196.length : Int) = x8_2
                                  · rw [if_pos c24] at H
                                    have c24b0 : ((t196.length : Int) == x8_2) = true := beq_iff_eq.mpr c24
                                    have c24b1 : ((t196.length : Int) != x8_2) = false := bne_eq_false_iff_eq.mpr c24
                                    clear c24
                                    have H' := Aside0.mk H
                                    clear H
                                    obtain ⟨Ao25, co25, eo25⟩ := Kd.R_slice HO199.out
                                    subst eo25
                                    obtain ⟨Ao26, co26, eo26⟩ := Kd.R_slice HO203.out
                                    subst eo26
                                    go_wp2
                                    go_meet
                                    case rel => exact ⟨_, (((t200.length : Int) != (wrap64 (x8_2 * x9_3)))), (by first | rfl | (simp; done) | (simp [*]; done)), H', ⟨by have := HJ5.out; have := HK2.out; have := HK3.out; first | omega | exact Nat.le_refl _⟩, ⟨by (with_reducible repeat (first | apply Kd.R_alloc | apply Kd.R_drewN | apply Kd.R_drew)); exact Kd.R_mono HO199.out (fun _ hk => hk.2)⟩, ⟨by (with_reducible repeat (first | apply Kd.R_alloc | apply Kd.R_drewN | apply Kd.R_drew)); exact Kd.R_mono HO203.out (fun _ hk => hk.2)⟩, ⟨by repeat (first | (with_reducible first | exact HB.out | apply below_alloc | apply pw_below_drewN | apply below_drew1) | exact HB.out)⟩⟩
                                  · rw [if_neg c24] at H
                                    have c24b0 : ((t196.length : Int) == x8_2) = false := beq_eq_false_iff_ne.mpr c24
                                    have c24b1 : ((t196.length : Int) != x8_2) = true := bne_iff_ne.mpr c24
                                    have H' := Aside0.mk H
                                    clear H
                                    obtain ⟨Ao27, co27, eo27⟩ := Kd.R_slice HO199.out
                                    subst eo27
                                    go_wp2
                                    go_meet
                                    case rel => exact ⟨_, (true), (by first | rfl | (simp; done) | (simp [*]; done)), H', ⟨by have := HJ5.out; have := HK2.out; have := HK3.out; first | omega | exact Nat.le_refl _⟩, ⟨by (with_reducible repeat (first | apply Kd.R_alloc | apply Kd.R_drewN | apply Kd.R_drew)); exact Kd.R_mono HO199.out (fun _ hk => hk.2)⟩, ⟨by (with_reducible repeat (first | apply Kd.R_alloc | apply Kd.R_drewN | apply Kd.R_drew)); exact Kd.R_mono HO203.out (fun _ hk => hk.2)⟩, ⟨by repeat (first | (with_reducible first | exact HB.out | apply below_alloc | apply pw_below_drewN | apply below_drew1) | exact HB.out)⟩⟩
                                · rw [if_neg c23] at H
                                  have c23b0 : (t201 == 0) = false := beq_eq_false_iff_ne.mpr c23
                                  have c23b1 : (t201 != 0) = true := bne_iff_ne.mpr c23
                                  have H' := Aside0.mk H
                                  clear H
                                  go_wp2
                                  go_meet
                                  case rel => exact ⟨_, (true), (by first | rfl | (simp; done) | (simp [*]; done)), H', ⟨by have := HJ5.out; have := HK2.out; have := HK3.out; first | omega | exact Nat.le_refl _⟩, ⟨by (with_reducible repeat (first | apply Kd.R_alloc | apply Kd.R_drewN | apply Kd.R_drew)); exact Kd.R_mono HO199.out (fun _ hk => hk.2)⟩, ⟨by (with_reducible repeat (first | apply Kd.R_alloc | apply Kd.R_drewN | apply Kd.R_drew)); exact Kd.R_mono HO203.out (fun _ hk => hk.2)⟩, ⟨by repeat (first | (with_reducible first | exact HB.out | apply below_alloc | apply pw_below_drewN | apply below_drew1) | exact HB.out)⟩⟩
                              · rw [if_neg c22] at H
                                have c22b0 : (t197 == 0) = false := beq_eq_false_iff_ne.mpr c22
                                have c22b1 : (t197 != 0) = true := bne_iff_ne.mpr c22
                                (first | rw [c22b0] | (simp only [i64_w, i32_w]; rw [c22b0]) | skip)
                                have H' := Aside0.mk H
                                clear H
                                go_wp2
                                go_meet
                                case rel => exact ⟨_, (true), (by first | rfl | (simp; done) | (simp [*]; done)), H', ⟨by have := HJ5.out; have := HK2.out; have := HK3.out; first | omega | exact Nat.le_refl _⟩, ⟨by (with_reducible repeat (first | apply Kd.R_alloc | apply Kd.R_drewN | apply Kd.R_drew)); exact Kd.R_mono HO199.out (fun _ hk => hk.2)⟩, ⟨by (with_reducible repeat (first | apply Kd.R_alloc | apply Kd.R_drewN | apply Kd.R_drew)); exact Kd.R_mono HO203.out (fun _ hk => hk.2)⟩, ⟨by repeat (first | (with_reducible first | exact HB.out | apply below_alloc | apply pw_below_drewN | apply below_drew1) | exact HB.out)⟩⟩
                            case rest =>
                              clear HC19
                              try clear c1
                              try clear c2
                              try clear p2
                              try clear c5
                              try clear p6
                              try clear c8
                              try clear c8b0
                              try clear c8b1
                              try clear c9
                              try clear c11
                              try clear c11b0
                              try clear c11b1
                              try clear c12
                              try clear c12b0
                              try clear c12b1
                              try clear c14
                              try clear c14b0
                              try clear c14b1
                              try clear c15
                              try clear c15b0
                              try clear c15b1
                              try clear c16
                              try clear c16b0
                              try clear c16b1
                              try clear c18
                              try clear c22
                              try clear c22b0
                              try clear c22b1
                              try clear c23
                              try clear c23b0
                              try clear c23b1
                              try clear c24
                              try clear c24b0
                              try clear c24b1
                              try clear c26
                              try clear p2
                              try clear p6
                              obtain ⟨kq, x86_18, rfl, HA, HJ18, HO_10, HO_12, HB⟩ := hcut
                              cases kq with
                              | zero => exact absurd HA.out (by simp [wayfinderlaw14_PartTwice.j3])
                              | succ kj18 =>
                                have H := HA.out
                                clear HA
                                simp only [wayfinderlaw14_PartTwice.j3] at H
                                by_cases c28 : x86_18 = true
                                · subst c28
                                  have H1 : (none) = some r := by rw [if_pos rfl] at H; exact H
                                  clear H
                                  have H := H1
                                  clear H1
                                  exact absurd H (by simp)
                                · replace c28 := Bool.eq_false_iff.mpr c28
                                  subst c28
                                  have H1 : (wayfinderlaw14_PartTwice.l2 kj18 l0 x8_2 x9_3 t196 t200 0) = some r := by rw [if_neg (show ¬ (false = true) by decide)] at H; exact H
                                  clear H
                                  have H := H1
                                  clear H1
                                  have H' := Aside0.mk H
                                  clear H
                                  go_wp2
                                  go_loopg [14] kj18 (fun kq v14 w' => ∃ (x14_5 : Int), v14 = .int .i64 x14_5 ∧ Aside0 (wayfinderlaw14_PartTwice.l2 kq l0 x8_2 x9_3 t196 t200 x14_5 = some r) ∧ Aside0 (kq ≤ kj18) ∧ Aside0 (Kd.R (Kd.slice 21 (Kd.int .i32)) 33 w' w.heap.size (fun k_ => some k_ ≠ (v202 : Value).ownBlock) v198 t196) ∧ Aside0 (Kd.R (Kd.slice 21 (Kd.int .i32)) 33 w' w.heap.size (fun k_ => some k_ ≠ (v198 : Value).ownBlock) v202 t200) ∧ Aside0 (Below w.heap.size w w'))
                                  case atStart => exact ⟨(0), (by first | rfl | (simp; done) | (simp [*]; done)), H', ⟨Nat.le_refl _⟩, ⟨by (with_reducible repeat (first | apply Kd.R_alloc | apply Kd.R_drewN | apply Kd.R_drew)); exact HO_10.out⟩, ⟨by (with_reducible repeat (first | apply Kd.R_alloc | apply Kd.R_drewN | apply Kd.R_drew)); exact HO_12.out⟩, ⟨by repeat (first | (with_reducible first | exact HB.out | apply below_alloc | apply pw_below_drewN | apply below_drew1) | exact HB.out)⟩⟩
                                  case round =>
                                    clear H'
                                    try clear c1
                                    try clear c2
                                    try clear p2
                                    try clear c5
                                    try clear p6
                                    try clear c8
                                    try clear c8b0
                                    try clear c8b1
                                    try clear c9
                                    try clear c11
                                    try clear c11b0
                                    try clear c11b1
                                    try clear c12
                                    try clear c12b0
                                    try clear c12b1
                                    try clear c14
                                    try clear c14b0
                                    try clear c14b1
                                    try clear c15
                                    try clear c15b0
                                    try clear c15b1
                                    try clear c16
                                    try clear c16b0
                                    try clear c16b1
                                    try clear c18
                                    try clear c22
                                    try clear c22b0
                                    try clear c22b1
                                    try clear c23
                                    try clear c23b0
                                    try clear c23b1
                                    try clear c24
                                    try clear c24b0
                                    try clear c24b1
                                    try clear c26
                                    try clear c28
                                    try clear p2
                                    try clear p6
                                    obtain ⟨x14_5, rfl, HA, HK5, HO_10, HO_12, HB⟩ := hrel
                                    cases gk with
                                    | zero => exact absurd HA.out (by simp [wayfinderlaw14_PartTwice.l2])
                                    | succ k5 =>
                                      have H := HA.out
                                      clear HA
                                      simp only [wayfinderlaw14_PartTwice.l2] at H
                                      by_cases c29 : x14_5 < x8_2
                                      · rw [if_pos c29] at H
                                        have c29b0 : decide (x14_5 < x8_2) = true := decide_eq_true c29
                                        clear c29
                                        by_cases c30 : 0 ≤ x14_5
                                        · rw [if_pos c30] at H
                                          have c30b0 : decide (0 ≤ x14_5) = true := decide_eq_true c30
                                          clear c30
                                          by_cases c31 : x14_5 < (t196.length : Int)
                                          · rw [if_pos c31] at H
                                            have c31b0 : decide (x14_5 < (t196.length : Int)) = true := decide_eq_true c31
                                            clear c31
                                            replace H := Option.bind_eq_some_iff.mp H
                                            obtain ⟨⟨t210, t211⟩, A320, H⟩ := H
                                            replace H : (if t211 = 0 then (if 0 ≤ (wrap64 (x14_5 * x9_3)) then (if (wrap64 (x14_5 * x9_3)) ≤ (wrap64 ((wrap64 (x14_5 * x9_3)) + x9_3)) then (if (wrap64 ((wrap64 (x14_5 * x9_3)) + x9_3)) ≤ (t200.length : Int) then ((wayfinderkit_Lists_int32.f k5 t210 ((t200.take ((wrap64 ((wrap64 (x14_5 * x9_3)) + x9_3)) : Int).toNat).drop ((wrap64 (x14_5 * x9_3)) : Int).toNat)).bind fun t218 => (if t218 = true then (wayfinderlaw14_PartTwice.l2 k5 l0 x8_2 x9_3 t196 t200 (wrap64 (x14_5 + 1))) else (none))) else (none)) else (none)) else (none)) else (none)) = some r := H
                                            have A32 := Aside0.mk A320
                                            clear A320
                                            by_cases c33 : t211 = 0
                                            · rw [if_pos c33] at H
                                              have c33b0 : (t211 == 0) = true := beq_iff_eq.mpr c33
                                              have c33b1 : (t211 != 0) = false := bne_eq_false_iff_eq.mpr c33
                                              clear c33
                                              obtain ⟨ji34, hji34⟩ : ∃ j_ : Int, (wrap64 (x14_5 * x9_3)) = j_ := ⟨_, rfl⟩
                                              replace H : (if 0 ≤ (ji34) then (if (ji34) ≤ (wrap64 ((ji34) + x9_3)) then (if (wrap64 ((ji34) + x9_3)) ≤ (t200.length : Int) then ((wayfinderkit_Lists_int32.f k5 t210 ((t200.take ((wrap64 ((ji34) + x9_3)) : Int).toNat).drop ((ji34) : Int).toNat)).bind fun t218 => (if t218 = true then (wayfinderlaw14_PartTwice.l2 k5 l0 x8_2 x9_3 t196 t200 (wrap64 (x14_5 + 1))) else (none))) else (none)) else (none)) else (none)) = some r := by first | (rw [hji34] at H; exact H) | (simp only [hji34] at H ⊢; exact H)
                                              (try rw [hji34] at A32)
                                              have hji34w : (IntKind.i64.wrap (x14_5 * x9_3)) = ji34 := (i64_w _).trans hji34
                                              by_cases c35 : 0 ≤ (ji34)
                                              · rw [if_pos c35] at H
                                                have c35b0 := eq_true c35
                                                have c35b1 : decide (0 ≤ (ji34)) = true := decide_eq_true c35
                                                clear c35
                                                by_cases c36 : (ji34) ≤ (wrap64 ((ji34) + x9_3))
                                                · rw [if_pos c36] at H
                                                  have c36b0 := eq_true c36
                                                  have c36b1 : decide ((ji34) ≤ (wrap64 ((ji34) + x9_3))) = true := decide_eq_true c36
                                                  by_cases c37 : (wrap64 ((ji34) + x9_3)) ≤ (t200.length : Int)
                                                  · rw [if_pos c37] at H
                                                    have c37b0 := eq_true c37
                                                    have c37b1 : decide ((wrap64 ((ji34) + x9_3)) ≤ (t200.length : Int)) = true := decide_eq_true c37
                                                    obtain ⟨y214, hy214⟩ : ∃ y_ : List (List Int), y_ = ((t200.take ((wrap64 ((ji34) + x9_3)) : Int).toNat).drop ((ji34) : Int).toNat) := ⟨_, rfl⟩
                                                    replace H : ((wayfinderkit_Lists_int32.f k5 t210 y214).bind fun t218 => (if t218 = true then (wayfinderlaw14_PartTwice.l2 k5 l0 x8_2 x9_3 t196 t200 (wrap64 (x14_5 + 1))) else (none))) = some r := by first | (rw [hy214]; with_reducible exact H) | (have H2_ := (Option.bind_some _ _).symm.trans H; rw [hy214]; with_reducible exact H2_) | (have H2_ := (Option.bind_some _ _).symm.trans H; with_reducible exact H2_) | with_reducible exact H | (rw [hy214]; exact H) | exact H
                                                    have Ny214 := Aside0.mk hy214
                                                    clear hy214
                                                    replace H := Option.bind_eq_some_iff.mp H
                                                    obtain ⟨t218, A380, H⟩ := H
                                                    replace H : (if t218 = true then (wayfinderlaw14_PartTwice.l2 k5 l0 x8_2 x9_3 t196 t200 (wrap64 (x14_5 + 1))) else (none)) = some r := H
                                                    have A38 := Aside0.mk A380
                                                    clear A380
                                                    by_cases c39 : t218 = true
                                                    · subst c39
                                                      have H1 : (wayfinderlaw14_PartTwice.l2 k5 l0 x8_2 x9_3 t196 t200 (wrap64 (x14_5 + 1))) = some r := by rw [if_pos rfl] at H; exact H
                                                      clear H
                                                      have H := H1
                                                      clear H1
                                                      have H' := Aside0.mk H
                                                      clear H
                                                      obtain ⟨Ao40, co40, eo40⟩ := Kd.R_slice HO_10.out
                                                      subst eo40
                                                      have p209 : 0 ≤ (x14_5 : Int) := of_decide_eq_true (by first | (with_reducible assumption) | assumption)
                                                      have q209 : x14_5 < (t196.length : Int) := of_decide_eq_true (by first | (with_reducible assumption) | assumption)
                                                      obtain ⟨ad209, A209_0, c209_0, e209, hx209_0, hl209_0, hi209_0⟩ := at_L1 (Kd.R_reads' HO_10.out).2.2 x14_5 p209 q209
                                                      cases e209
                                                      obtain ⟨ce209, hce209, hMe209, hcc209⟩ := Kd.R_get HO_10.out [] x14_5 p209 (by first | exact q209 | exact of_decide_eq_true (by first | (with_reducible assumption) | assumption) | (have e_ := (Kd.R_reads' HO_10.out).1; omega))
                                                      obtain ⟨ve209_0, rfl, ge209_0⟩ := hMe209
                                                      have hv209_0 := hcc209 0 _ rfl
                                                      rw [Nat.add_zero, show ((Kd.slice 21 (Kd.int .i32))).sz = 1 from rfl, Nat.mul_one] at hv209_0
                                                      replace hv209_0 := Option.some.inj (hv209_0.symm.trans hx209_0)
                                                      rw [hv209_0] at ge209_0
                                                      have HL209_0 := Aside0.mk (show Kd.R (Kd.int .i32) 21 _ _ _ _ (rd_L1 t196 x14_5) from ge209_0)
                                                      clear hv209_0 ge209_0
                                                      clear hcc209 hce209
                                                      have HR209_0 := Aside0.mk hi209_0
                                                      have HC209_0 := Aside0.mk hl209_0
                                                      clear hi209_0 hl209_0
                                                      replace p209 := eq_true p209
                                                      replace q209 := eq_true q209
                                                      go_wp2_with (first | ((with_reducible refine gate_callee (f := 29) rfl ?_); refine goesL_ (some 98) rfl rfl Try.func29 (by kernel_rfl) rfl #[.slice A209_0 (rd_L1 t196 x14_5).length c209_0, .int .i64 x9_3] rfl (by (try simp only [List.map_toArray, List.map_cons, List.map_nil]); first | done | rfl | (simp only [List.length_drop, List.length_take]; rfl)) ?_; (with_reducible refine (part_Cut.calls _ _ (rd_L1 t196 x14_5) x9_3 t210 t211 _ ?side1 ?side2 A32.out).mono ?_); (case side1 => repeat (first | exact (by repeat (first | (with_reducible exact HR209_0.out) | (with_reducible refine Kd.C_alloc ?_ _) | (with_reducible refine Kd.C_drewN ?_ _) | (with_reducible refine Kd.C_drew ?_) | exact HR209_0.out)) | (with_reducible refine Kd.C_alloc ?_ _) | (with_reducible refine Kd.C_drewN ?_ _) | (with_reducible refine Kd.C_drew ?_))); (case side2 => exact HC209_0.out); rintro e w41 ⟨v212, rfl, ho0, hb⟩; refine ⟨_, rfl, ?_⟩; have n0_ := Aside0.mk (Kd.R_elder' (by (with_reducible repeat (first | apply Kd.R_alloc | apply Kd.R_drewN | apply Kd.R_drew)); exact HO_10.out) (Kd.R_base ho0) hb); have n1_ := Aside0.mk (Kd.R_elder' (by (with_reducible repeat (first | apply Kd.R_alloc | apply Kd.R_drewN | apply Kd.R_drew)); exact HO_12.out) (Kd.R_base ho0) hb); have n2_ := Aside0.mk (Kd.R_below (by (with_reducible repeat (first | apply Kd.R_alloc | apply Kd.R_drewN | apply Kd.R_drew)); exact HL209_0.out) hb); have n3_ := Aside0.mk (Kd.R_lower (Kd.R_new' (Kd.R_new' (Kd.R_new' ho0 (Kd.R_lt (by (with_reducible repeat (first | apply Kd.R_alloc | apply Kd.R_drewN | apply Kd.R_drew)); exact HO_10.out))) (Kd.R_lt (by (with_reducible repeat (first | apply Kd.R_alloc | apply Kd.R_drewN | apply Kd.R_drew)); exact HO_12.out))) (Kd.R_lt (by (with_reducible repeat (first | apply Kd.R_alloc | apply Kd.R_drewN | apply Kd.R_drew)); exact HL209_0.out))) (below_size (by repeat (first | (with_reducible first | exact HB.out | apply below_alloc | apply pw_below_drewN | apply below_drew1) | exact HB.out)))); have n4_ := Aside0.mk (Kd.C_below (by repeat (first | (with_reducible exact HR209_0.out) | (with_reducible refine Kd.C_alloc ?_ _) | (with_reducible refine Kd.C_drewN ?_ _) | (with_reducible refine Kd.C_drew ?_) | exact HR209_0.out)) hb); have n5_ := Aside0.mk (below_step (by repeat (first | (with_reducible first | exact HB.out | apply below_alloc | apply pw_below_drewN | apply below_drew1) | exact HB.out)) hb); clear HO_10; clear HO_12; clear HL209_0; clear HR209_0; clear HB; have HO_10 := n0_; have HO_12 := n1_; have HL209_0 := n2_; have HO213 := n3_; have HR209_0 := n4_; have HB := n5_; clear n0_ n1_ n2_ n3_ n4_ n5_; (try clear hb); (try clear hb2); (try clear hk); (try clear hi); (try clear ho0); obtain ⟨Ao43, co43, eo43⟩ := Kd.R_slice HO_12.out; subst eo43; have q42 : ((wrap64 ((ji34) + x9_3)) : Int) ≤ ((t200.length : Int) : Int) := of_decide_eq_true (by first | (with_reducible assumption) | assumption); obtain ⟨i042, hi042, _, hsz42, _⟩ := info_parts info33; have hroom42 : t200.length ≤ co43 := (Kd.R_reads' HO_12.out).2.1; have hC42 : Kd.C (Kd.slice 21 (Kd.int .i32)) _ Ao43 t200.length t200 := (Kd.R_reads' HO_12.out).2.2; have ql42 : ((ji34) : Int) ≤ ((wrap64 ((ji34) + x9_3)) : Int) := of_decide_eq_true (by first | (with_reducible assumption) | assumption); have q042 : (0 : Int) ≤ ((ji34) : Int) := of_decide_eq_true (by first | (with_reducible assumption) | assumption); have hcut42 := cut_mid (P := Try.prog) 43 33 .i64 .i64 Try.underlying43 hi042 1 hsz42 Ao43 t200.length co43 (ji34) (wrap64 ((ji34) + x9_3)) q042 ql42 q42 hroom42; have hr42 := Kd.C_mid (lo := ((ji34) : Int).toNat) (hi := ((wrap64 ((ji34) + x9_3)) : Int).toNat) (c := co43) hC42 (by omega) (by omega) hroom42; obtain ⟨A42, hA42⟩ : ∃ A1, A1 = (if co43 = ((ji34) : Int).toNat then Ao43 else (Ao43 : Option Addr).map (·.add (((ji34) : Int).toNat * 1))) := ⟨_, rfl⟩; obtain ⟨c42, hc42⟩ : ∃ c1, c1 = co43 - ((ji34) : Int).toNat := ⟨_, rfl⟩; have hy42 : y214.length = ((wrap64 ((ji34) + x9_3)) : Int).toNat - ((ji34) : Int).toNat := (by rw [Ny214.out, List.length_drop, List.length_take] <;> omega); rw [show ((t200).take ((wrap64 ((ji34) + x9_3)) : Int).toNat).drop ((ji34) : Int).toNat = y214 from Ny214.out.symm] at hr42; replace hr42 : Kd.C (Kd.slice 21 (Kd.int .i32)) _ A42 y214.length y214 := (by rw [hA42]; exact hr42); rw [← hy42, ← hA42, ← hc42] at hcut42; have HR217 := Aside0.mk hr42; have HC217 := Aside0.mk (show y214.length ≤ c42 from by rw [hy42, hc42]; exact Nat.sub_le_sub_right (Nat.le_trans (by omega) hroom42) _); clear hr42 hC42 hroom42 hi042 hsz42 hc42; have KY42 := Aside0.mk hy42; have KA42 := Aside0.mk hA42; clear hy42 hA42; have KL42 := Aside0.mk (show ((wrap64 ((ji34) + x9_3)) : Int).toNat ≤ t200.length from by omega); have KM42 := Aside0.mk (show ((ji34) : Int).toNat ≤ ((wrap64 ((ji34) + x9_3)) : Int).toNat from by omega); replace q42 := eq_true q42; obtain ⟨Ao44, co44, eo44⟩ := Kd.R_slice HO213.out; subst eo44) | (go_at_call 34; (with_reducible refine (wayfinderkit_Lists_int32.calls k5 _ _ t210 _ _ y214 true _ ?side1 ?side2 ?side3 ?side4 A38.out).mono ?_); (case side1 => repeat (first | exact (Kd.R_reads' HO213.out).2.2 | (with_reducible refine Kd.C_alloc ?_ _) | (with_reducible refine Kd.C_drewN ?_ _) | (with_reducible refine Kd.C_drew ?_))); (case side2 => exact (Kd.R_reads' HO213.out).2.1); (case side3 => repeat (first | exact (by repeat (first | (with_reducible exact HR217.out) | (with_reducible refine Kd.C_alloc ?_ _) | (with_reducible refine Kd.C_drewN ?_ _) | (with_reducible refine Kd.C_drew ?_) | exact HR217.out)) | (with_reducible refine Kd.C_alloc ?_ _) | (with_reducible refine Kd.C_drewN ?_ _) | (with_reducible refine Kd.C_drew ?_))); (case side4 => exact HC217.out); rintro e w' ⟨rfl, ⟨nd, rfl⟩⟩))
                                                      go_roundg k5
                                                      case measure => have := HJ5.out; have := HK2.out; have := HK3.out; have := HJ18.out; have := HK5.out; omega
                                                      case rel => exact ⟨(wrap64 (x14_5 + 1)), (by first | rfl | (simp; done) | (simp [*]; done)), H', ⟨by have := HJ5.out; have := HK2.out; have := HK3.out; have := HJ18.out; have := HK5.out; omega⟩, ⟨by (with_reducible repeat (first | apply Kd.R_alloc | apply Kd.R_drewN | apply Kd.R_drew)); exact Kd.R_mono HO_10.out (fun _ hk => hk.1)⟩, ⟨by (with_reducible repeat (first | apply Kd.R_alloc | apply Kd.R_drewN | apply Kd.R_drew)); exact Kd.R_mono HO_12.out (fun _ hk => hk.1)⟩, ⟨by repeat (first | (with_reducible first | exact HB.out | apply below_alloc | apply pw_below_drewN | apply below_drew1) | exact HB.out)⟩⟩
                                                    · replace c39 := Bool.eq_false_iff.mpr c39
                                                      subst c39
                                                      have H1 : (none) = some r := by rw [if_neg (show ¬ (false = true) by decide)] at H; exact H
                                                      clear H
                                                      have H := H1
                                                      clear H1
                                                      exact absurd H (by simp)
                                                  · rw [if_neg c37] at H
                                                    exact absurd H (by simp)
                                                · rw [if_neg c36] at H
                                                  exact absurd H (by simp)
                                              · rw [if_neg c35] at H
                                                exact absurd H (by simp)
                                            · rw [if_neg c33] at H
                                              exact absurd H (by simp)
                                          · rw [if_neg c31] at H
                                            exact absurd H (by simp)
                                        · rw [if_neg c30] at H
                                          exact absurd H (by simp)
                                      · rw [if_neg c29] at H
                                        have c29b0 : decide (x14_5 < x8_2) = false := decide_eq_false c29
                                        clear c29
                                        replace H := Option.bind_eq_some_iff.mp H
                                        obtain ⟨⟨t204, t205⟩, A450, H⟩ := H
                                        replace H : (if t205 = 0 then ((wayfinderkit_Same_int32.f k5 t204 l0).bind fun t208 => (some t208)) else (none)) = some r := H
                                        have A45 := Aside0.mk A450
                                        clear A450
                                        by_cases c46 : t205 = 0
                                        · rw [if_pos c46] at H
                                          have c46b0 : (t205 == 0) = true := beq_iff_eq.mpr c46
                                          have c46b1 : (t205 != 0) = false := bne_eq_false_iff_eq.mpr c46
                                          clear c46
                                          replace H := Option.bind_eq_some_iff.mp H
                                          obtain ⟨t208, A470, H⟩ := H
                                          replace H : (some t208) = some r := H
                                          have A47 := Aside0.mk A470
                                          clear A470
                                          obtain rfl := Option.some.inj H
                                          obtain ⟨Ao48, co48, eo48⟩ := Kd.R_slice HO_12.out
                                          subst eo48
                                          go_wp2_with (first | ((with_reducible refine gate_callee (f := 30) rfl ?_); refine goesL_ (some 120) rfl rfl Try.func30 (by kernel_rfl) rfl #[.slice Ao48 t200.length co48] rfl (by (try simp only [List.map_toArray, List.map_cons, List.map_nil]); first | done | rfl | (simp only [List.length_drop, List.length_take]; rfl)) ?_; (with_reducible refine (part_Join.calls _ _ t200 t204 t205 _ ?side1 ?side2 A45.out).mono ?_); (case side1 => repeat (first | exact (Kd.R_reads' HO_12.out).2.2 | (with_reducible refine Kd.C_alloc ?_ _) | (with_reducible refine Kd.C_drewN ?_ _) | (with_reducible refine Kd.C_drew ?_))); (case side2 => exact (Kd.R_reads' HO_12.out).2.1); rintro e w49 ⟨v206, rfl, ho0, hb⟩; refine ⟨_, rfl, ?_⟩; have n0_ := Aside0.mk (Kd.R_elder' (by (with_reducible repeat (first | apply Kd.R_alloc | apply Kd.R_drewN | apply Kd.R_drew)); exact HO_10.out) (Kd.R_base ho0) hb); have n1_ := Aside0.mk (Kd.R_elder' (by (with_reducible repeat (first | apply Kd.R_alloc | apply Kd.R_drewN | apply Kd.R_drew)); exact HO_12.out) (Kd.R_base ho0) hb); have n2_ := Aside0.mk (Kd.R_lower ho0 (below_size (by repeat (first | (with_reducible first | exact HB.out | apply below_alloc | apply pw_below_drewN | apply below_drew1) | exact HB.out)))); have n3_ := Aside0.mk (below_step (by repeat (first | (with_reducible first | exact HB.out | apply below_alloc | apply pw_below_drewN | apply below_drew1) | exact HB.out)) hb); clear HO_10; clear HO_12; clear HB; have HO_10 := n0_; have HO_12 := n1_; have HO207 := n2_; have HB := n3_; clear n0_ n1_ n2_ n3_; (try clear hb); (try clear hb2); (try clear hk); (try clear hi); (try clear ho0); obtain ⟨Ao50, co50, eo50⟩ := Kd.R_slice HO207.out; subst eo50) | (go_at_call 21; (with_reducible refine (wayfinderkit_Same_int32.calls k5 _ _ t204 _ _ l0 t208 _ ?side1 ?side2 ?side3 ?side4 A47.out).mono ?_); (case side1 => repeat (first | exact (Kd.R_reads' HO207.out).2.2 | (with_reducible refine Kd.C_alloc ?_ _) | (with_reducible refine Kd.C_drewN ?_ _) | (with_reducible refine Kd.C_drew ?_))); (case side2 => exact (Kd.R_reads' HO207.out).2.1); (case side3 => repeat (first | exact (Kd.C_below HR0.out HB.out) | (with_reducible refine Kd.C_alloc ?_ _) | (with_reducible refine Kd.C_drewN ?_ _) | (with_reducible refine Kd.C_drew ?_))); (case side4 => exact HC0.out); rintro e w' ⟨rfl, ⟨nd, rfl⟩⟩))
                                          go_ret
                                          exact ⟨by first | rfl | (simp [errW_none, errW_some] <;> rfl) | (simp [*, errW_none, errW_some] <;> rfl), by repeat (first | (with_reducible first | exact HB.out | apply below_alloc | apply pw_below_drewN | apply below_drew1) | exact HB.out)⟩
                                        · rw [if_neg c46] at H
                                          exact absurd H (by simp)
                          · rw [if_neg c16] at H
                            have c16b0 : ((Int.tmod (wrap64 (Int.tdiv (l0.length : Int) x8_2)) x9_3) == 0) = false := beq_eq_false_iff_ne.mpr c16
                            have c16b0z : ((Int.tmod (wrap64 (((l0.length : Int) / x8_2))) x9_3) == 0) = false := by simpa only [Int.tdiv_eq_ediv_of_nonneg (Int.natCast_nonneg _), Int.tmod_eq_emod_of_nonneg (Int.natCast_nonneg _)] using c16b0
                            have c16b1 : ((Int.tmod (wrap64 (Int.tdiv (l0.length : Int) x8_2)) x9_3) != 0) = true := bne_iff_ne.mpr c16
                            have c16b1z : ((Int.tmod (wrap64 (((l0.length : Int) / x8_2))) x9_3) != 0) = true := by simpa only [Int.tdiv_eq_ediv_of_nonneg (Int.natCast_nonneg _), Int.tmod_eq_emod_of_nonneg (Int.natCast_nonneg _)] using c16b1
                            have H' := Aside0.mk H
                            clear H
                            go_wp2
                            go_roundg k3
                            case measure => have := HJ5.out; have := HK2.out; have := HK3.out; omega
                            case rel => exact ⟨(wrap64 (x9_3 - 1)), (by first | rfl | (simp; done) | (simp [*]; done)), H', ⟨by have := HJ5.out; have := HK2.out; have := HK3.out; omega⟩, ⟨by repeat (first | (with_reducible first | exact HB.out | apply below_alloc | apply pw_below_drewN | apply below_drew1) | exact HB.out)⟩⟩
                · rw [if_neg c12] at H
                  have c12b0 : ((Int.tmod (l0.length : Int) x8_2) == 0) = false := beq_eq_false_iff_ne.mpr c12
                  have c12b0z : ((((l0.length : Int) % x8_2)) == 0) = false := by simpa only [Int.tdiv_eq_ediv_of_nonneg (Int.natCast_nonneg _), Int.tmod_eq_emod_of_nonneg (Int.natCast_nonneg _)] using c12b0
                  have c12b1 : ((Int.tmod (l0.length : Int) x8_2) != 0) = true := bne_iff_ne.mpr c12
                  have c12b1z : ((((l0.length : Int) % x8_2)) != 0) = true := by simpa only [Int.tdiv_eq_ediv_of_nonneg (Int.natCast_nonneg _), Int.tmod_eq_emod_of_nonneg (Int.natCast_nonneg _)] using c12b1
                  have H' := Aside0.mk H
                  clear H
                  go_wp2
                  go_roundg k2
                  case measure => have := HJ5.out; have := HK2.out; omega
                  case rel => exact ⟨(wrap64 (x8_2 - 1)), (by first | rfl | (simp; done) | (simp [*]; done)), H', ⟨by have := HJ5.out; have := HK2.out; omega⟩, ⟨by repeat (first | (with_reducible first | exact HB.out | apply below_alloc | apply pw_below_drewN | apply below_drew1) | exact HB.out)⟩⟩
  · replace c5 := Bool.eq_false_iff.mpr c5
    subst c5
    have H1 : (none) = some r := by rw [if_neg (show ¬ (false = true) by decide)] at H; exact H
    clear H
    have H := H1
    clear H1
    exact absurd H (by simp)

/-- THE ONE PURE STATEMENT of wayfinderlaw14_PartTwice: yours. -/
def wayfinderlaw14_PartTwice.Pure : Prop := ∀ (l0 : List Int) (a1 : Int) (a2 : Int), l0.length ≤ maxLen → l0.length * 4 ≤ 140737488351232 → (∀ x ∈ l0, (Lit.int .i32 x).wf = true) → (Lit.int .i64 a1).wf = true → (Lit.int .i64 a2).wf = true → ∃ k, wayfinderlaw14_PartTwice.f k l0 a1 a2 = some true
theorem wayfinderlaw14_PartTwice.walk (P : wayfinderlaw14_PartTwice.Pure) (a0 : Option Addr) (len0 cap0 : Nat) (z0 : List Int) (a1 : Int) (a2 : Int) (w : World) (w0 : (a0 = none ∧ len0 = 0 ∧ cap0 = 0 ∧ z0 = []) ∨ ∃ x, a0 = some x ∧ len0 ≤ cap0 ∧ cap0 ≤ maxLen ∧ z0.length = cap0 ∧ (∀ i, i < z0.length → w.cell? (x.add i) = some (.int .i32 (z0.getD i 0))) ∧ ∀ n ∈ z0, (Lit.int .i32 n).wf = true) (y0 : len0 * 4 ≤ 140737488351232) (w1 : (Lit.int .i64 a1).wf = true) (w2 : (Lit.int .i64 a2).wf = true) :
    Calls Try.prog 9 #[.slice a0 len0 cap0, .int .i64 a1, .int .i64 a2] w fun e w' => e = .returned (.bool true) ∧ Below w.heap.size w w' := by
  obtain ⟨l0, rfl, hr0, hm0, hw0, hc0⟩ := ReadsInt.ofRowC w0
  obtain ⟨k, h⟩ := P l0 a1 a2 hm0 y0 hw0 w1 w2
  refine (wayfinderlaw14_PartTwice.calls k _ _ l0 a1 a2 true w (Kd.C_of_reads (d := (0 : Int)) (h1 := fun _ => rfl) hr0) hc0 h).mono ?_
  rintro e w' ⟨rfl, hd⟩
  exact ⟨rfl, hd⟩

end Go.Proofs.Yticpdlaiindlfaa.Pa
