/- Lean functions with the answers of Go functions, and the proofs that the Go code comes to them (printed by wip/gen/hyb.py). -/
import Derived.Test.YticpdlaiindlfaaPax0
import Derived.Test.YticpdlaiindlfaaPax1
import Derived.Test.YticpdlaiindlfaaPax2
import Derived.Test.YticpdlaiindlfaaPax5
import Derived.Test.YticpdlaiindlfaaPax6
import Derived.Test.YticpdlaiindlfaaEColumn
import Derived.Test.YticpdlaiindlfaaECut
import Derived.Test.YticpdlaiindlfaaEJoin
namespace Go.Proofs.Yticpdlaiindlfaa.Pa
open Go.RowKit Go.Proofs.YticpdlaiindlfaaW.PrintWords Go.Proofs.YticpdlaiindlfaaW.PrintLast Go.Proofs.YticpdlaiindlfaaW.PrintMore
attribute [local go_sem] max2_int min2_int max_two min_two max_three min_three max_four min_four   -- for this text's walks alone
set_option linter.unusedVariables false
set_option linter.unusedSimpArgs false

/-! ### wayfinderlaw14_PartCalls: function 13 -/
def wayfinderlaw14_PartCalls.j0 : Nat → List Int → List Int → List (List Int) → Int → Int → Bool → Option (Bool)
  | 0, _, _, _, _, _, _ => none
  | k + 1, x0, x1, x2, x3, x4, x41 => if x41 = true then (some true) else ((wayfinderkit_Own_int32.f x0).bind fun t369 => ((part_Cut.f t369 x3).bind fun bt372 => ((wayfinderref14_Cut.f k x0 x3).bind fun bt376 => ((wayfinderkit_OwnLists_int32.f k x2).bind fun t380 => ((part_Join.f t380).bind fun bt383 => ((wayfinderref14_Join.f k x2).bind fun bt387 => ((part_Column.f x2 x3 x4).bind fun bt391 => ((wayfinderref14_Column.f k x2 x3 x4).bind fun bt395 => ((part_Dist.f k x0 x1 x3).bind fun bt399 => ((wayfinderref14_Dist.f k x0 x1 x3).bind fun bt403 => ((wayfinderkit_Lists_int32.f k bt372.1 bt376.1).bind fun t407 => (if t407 = true then (if bt372.2 = bt376.2 then ((wayfinderkit_Same_int32.f k bt383.1 bt387.1).bind fun t408 => (if t408 = true then (if bt383.2 = bt387.2 then ((wayfinderkit_Lists_int32.f k bt391.1 bt395.1).bind fun t409 => (if t409 = true then (if bt391.2 = bt395.2 then ((wayfinderkit_Same_int64.f k bt399.1 bt403.1).bind fun t410 => (if t410 = true then (if bt399.2 = bt403.2 then ((part_Check.f (x0.length : Int) x3).bind fun t411 => ((wayfinderref14_Check.f (x0.length : Int) x3).bind fun t412 => (if t411 = t412 then ((part_Check.f x4 x3).bind fun t413 => ((wayfinderref14_Check.f x4 x3).bind fun t414 => (if t413 = t414 then ((part_Width.f x4 x3).bind fun t415 => ((wayfinderref14_Width.f x4 x3).bind fun t416 => (some (t415 == t416)))) else (none)))) else (none)))) else (none)) else (none))) else (none)) else (none))) else (none)) else (none))) else (none)) else (none)))))))))))))
def wayfinderlaw14_PartCalls.f (k : Nat) (l0 : List Int) (l1 : List Int) (l2 : List (List Int)) (a3 : Int) (a4 : Int) : Option (Bool) := (wayfinderlaw14_lives.f k).bind fun t367 => (if t367 = true then (if (l0.length : Int) > 1100 then (wayfinderlaw14_PartCalls.j0 k l0 l1 l2 a3 a4 true) else (if (l1.length : Int) > 1100 then (wayfinderlaw14_PartCalls.j0 k l0 l1 l2 a3 a4 true) else ((wayfinderkit_Light_int32.f k l2 60 60).bind fun t368 => (wayfinderlaw14_PartCalls.j0 k l0 l1 l2 a3 a4 (!t368))))) else (none))
theorem wayfinderlaw14_PartCalls.mono_l : ∀ k, (∀ y0 y1 y2 y3 y4 y5, LeO (wayfinderlaw14_PartCalls.j0 k y0 y1 y2 y3 y4 y5) (wayfinderlaw14_PartCalls.j0 (k + 1) y0 y1 y2 y3 y4 y5))
  | 0 => fun _ _ _ _ _ _ r h => by simp [wayfinderlaw14_PartCalls.j0] at h
  | k + 1 => by
    have ih0 := wayfinderlaw14_PartCalls.mono_l k
    · intro y0 y1 y2 y3 y4 y5
      unfold wayfinderlaw14_PartCalls.j0
      repeat' first
      | (with_reducible exact ih0 _ _ _ _ _ _)
      | (with_reducible exact part_Dist.mono _ _ _ _)
      | (with_reducible exact wayfinderkit_Light_int32.mono _ _ _ _)
      | (with_reducible exact wayfinderkit_Lists_int32.mono _ _ _)
      | (with_reducible exact wayfinderkit_OwnLists_int32.mono _ _)
      | (with_reducible exact wayfinderkit_Same_int32.mono _ _ _)
      | (with_reducible exact wayfinderkit_Same_int64.mono _ _ _)
      | (with_reducible exact wayfinderlaw14_lives.mono _)
      | (with_reducible exact wayfinderref14_Column.mono _ _ _ _)
      | (with_reducible exact wayfinderref14_Cut.mono _ _ _)
      | (with_reducible exact wayfinderref14_Dist.mono _ _ _ _)
      | (with_reducible exact wayfinderref14_Join.mono _ _)
      | (with_reducible exact LeO.refl _)
      | (with_reducible exact LeO.none _)
      | (with_reducible refine LeO.ite ?_ ?_)
      | (with_reducible refine LeO.bind ?_ (fun _ => ?_))
      | exact ih0 _ _ _ _ _ _
      | exact part_Dist.mono _ _ _ _
      | exact wayfinderkit_Light_int32.mono _ _ _ _
      | exact wayfinderkit_Lists_int32.mono _ _ _
      | exact wayfinderkit_OwnLists_int32.mono _ _
      | exact wayfinderkit_Same_int32.mono _ _ _
      | exact wayfinderkit_Same_int64.mono _ _ _
      | exact wayfinderlaw14_lives.mono _
      | exact wayfinderref14_Column.mono _ _ _ _
      | exact wayfinderref14_Cut.mono _ _ _
      | exact wayfinderref14_Dist.mono _ _ _ _
      | exact wayfinderref14_Join.mono _ _
      | exact LeO.none _
      | refine LeO.ite ?_ ?_
      | refine LeO.bind ?_ (fun _ => ?_)
theorem wayfinderlaw14_PartCalls.mono : ∀ a0 a1 a2 a3 a4 k, LeO (wayfinderlaw14_PartCalls.f k a0 a1 a2 a3 a4) (wayfinderlaw14_PartCalls.f (k + 1) a0 a1 a2 a3 a4) := by
  intro a0 a1 a2 a3 a4 k
  have ih0 := wayfinderlaw14_PartCalls.mono_l k
  unfold wayfinderlaw14_PartCalls.f
  repeat' first
      | (with_reducible exact ih0 _ _ _ _ _ _)
      | (with_reducible exact part_Dist.mono _ _ _ _)
      | (with_reducible exact wayfinderkit_Light_int32.mono _ _ _ _)
      | (with_reducible exact wayfinderkit_Lists_int32.mono _ _ _)
      | (with_reducible exact wayfinderkit_OwnLists_int32.mono _ _)
      | (with_reducible exact wayfinderkit_Same_int32.mono _ _ _)
      | (with_reducible exact wayfinderkit_Same_int64.mono _ _ _)
      | (with_reducible exact wayfinderlaw14_lives.mono _)
      | (with_reducible exact wayfinderref14_Column.mono _ _ _ _)
      | (with_reducible exact wayfinderref14_Cut.mono _ _ _)
      | (with_reducible exact wayfinderref14_Dist.mono _ _ _ _)
      | (with_reducible exact wayfinderref14_Join.mono _ _)
      | (with_reducible exact LeO.refl _)
      | (with_reducible exact LeO.none _)
      | (with_reducible refine LeO.ite ?_ ?_)
      | (with_reducible refine LeO.bind ?_ (fun _ => ?_))
      | exact ih0 _ _ _ _ _ _
      | exact part_Dist.mono _ _ _ _
      | exact wayfinderkit_Light_int32.mono _ _ _ _
      | exact wayfinderkit_Lists_int32.mono _ _ _
      | exact wayfinderkit_OwnLists_int32.mono _ _
      | exact wayfinderkit_Same_int32.mono _ _ _
      | exact wayfinderkit_Same_int64.mono _ _ _
      | exact wayfinderlaw14_lives.mono _
      | exact wayfinderref14_Column.mono _ _ _ _
      | exact wayfinderref14_Cut.mono _ _ _
      | exact wayfinderref14_Dist.mono _ _ _ _
      | exact wayfinderref14_Join.mono _ _
      | exact LeO.none _
      | refine LeO.ite ?_ ?_
      | refine LeO.bind ?_ (fun _ => ?_)
set_option maxHeartbeats 8000000 in
set_option maxRecDepth 100000 in
theorem wayfinderlaw14_PartCalls.calls (k : Nat) (A0 : Option Addr) (c0 : Nat) (l0 : List Int) (A1 : Option Addr) (c1 : Nat) (l1 : List Int) (A2 : Option Addr) (c2 : Nat) (l2 : List (List Int)) (a3 : Int) (a4 : Int) (r : Bool) (w : World) (hr0 : Kd.C (Kd.int .i32) w A0 l0.length l0) (hc0 : l0.length ≤ c0) (hr1 : Kd.C (Kd.int .i32) w A1 l1.length l1) (hc1 : l1.length ≤ c1) (hr2 : Kd.C (Kd.slice 21 (Kd.int .i32)) w A2 l2.length l2) (hc2 : l2.length ≤ c2) (h : wayfinderlaw14_PartCalls.f k l0 l1 l2 a3 a4 = some r) :
    Calls Try.prog 13 #[.slice A0 l0.length c0, .slice A1 l1.length c1, .slice A2 l2.length c2, .int .i64 a3, .int .i64 a4] w fun e w' => e = .returned (.bool r) ∧ Below w.heap.size w w' := by
  have HR0 := Aside0.mk hr0
  have HC0 := Aside0.mk hc0
  clear hr0 hc0
  have HR1 := Aside0.mk hr1
  have HC1 := Aside0.mk hc1
  clear hr1 hc1
  have HR2 := Aside0.mk hr2
  have HC2 := Aside0.mk hc2
  clear hr2 hc2
  have HB := Aside0.mk (Below.refl w.heap.size w)
  have H : ((wayfinderlaw14_lives.f k).bind fun t367 => (if t367 = true then (if (l0.length : Int) > 1100 then (wayfinderlaw14_PartCalls.j0 k l0 l1 l2 a3 a4 true) else (if (l1.length : Int) > 1100 then (wayfinderlaw14_PartCalls.j0 k l0 l1 l2 a3 a4 true) else ((wayfinderkit_Light_int32.f k l2 60 60).bind fun t368 => (wayfinderlaw14_PartCalls.j0 k l0 l1 l2 a3 a4 (!t368))))) else (none))) = some r := h
  clear h
  replace H := Option.bind_eq_some_iff.mp H
  obtain ⟨t367, A60, H⟩ := H
  replace H : (if t367 = true then (if (l0.length : Int) > 1100 then (wayfinderlaw14_PartCalls.j0 k l0 l1 l2 a3 a4 true) else (if (l1.length : Int) > 1100 then (wayfinderlaw14_PartCalls.j0 k l0 l1 l2 a3 a4 true) else ((wayfinderkit_Light_int32.f k l2 60 60).bind fun t368 => (wayfinderlaw14_PartCalls.j0 k l0 l1 l2 a3 a4 (!t368))))) else (none)) = some r := H
  have A6 := Aside0.mk A60
  clear A60
  by_cases c7 : t367 = true
  · subst c7
    have H1 : (if (l0.length : Int) > 1100 then (wayfinderlaw14_PartCalls.j0 k l0 l1 l2 a3 a4 true) else (if (l1.length : Int) > 1100 then (wayfinderlaw14_PartCalls.j0 k l0 l1 l2 a3 a4 true) else ((wayfinderkit_Light_int32.f k l2 60 60).bind fun t368 => (wayfinderlaw14_PartCalls.j0 k l0 l1 l2 a3 a4 (!t368))))) = some r := by rw [if_pos rfl] at H; exact H
    clear H
    have H := H1
    clear H1
    have HC8 := Aside0.mk H
    clear H
    go_enter Try.func13, Try.ntmps13
    go_upto_region 3 with (first | ((with_reducible refine gate_callee (f := 26) rfl ?_); refine goesL_ (some 27) rfl rfl Try.func26 (by kernel_rfl) rfl #[] rfl (by (try simp only [List.map_toArray, List.map_cons, List.map_nil]); first | done | rfl | (simp only [List.length_drop, List.length_take]; rfl)) ?_; (with_reducible refine (wayfinderlaw14_lives.calls k  true _ A6.out).mono ?_); rintro e w9 ⟨rfl, hb⟩; refine ⟨_, rfl, ?_⟩; have n0_ := Aside0.mk (below_step (by repeat (first | (with_reducible first | exact HB.out | apply below_alloc | apply pw_below_drewN | apply below_drew1) | exact HB.out)) hb); clear HB; have HB := n0_; clear n0_; (try clear hb); (try clear hb2); (try clear hk); (try clear hi)))
    (try simp only [Act.put, List.setIfInBounds_toArray, List.set_cons_zero, List.set_cons_succ])
    go_cut [41] (fun v41 wc => ∃ (kq : Nat) (x41_7 : Bool), v41 = .bool x41_7 ∧ Aside0 (wayfinderlaw14_PartCalls.j0 kq l0 l1 l2 a3 a4 x41_7 = some r) ∧ Aside0 (kq ≤ k) ∧ Aside0 (Below w.heap.size w wc))
    case first =>
      have H := HC8.out
      clear HC8
      by_cases c10 : (l0.length : Int) > 1100
      · rw [if_pos c10] at H
        have c10b0 : decide (1100 < (l0.length : Int)) = true := decide_eq_true c10
        have c10b1 : decide (1100 < l0.length) = true := decide_eq_true (by omega)
        clear c10
        (first | rw [c10b0] | (simp only [i64_w, i32_w]; rw [c10b0]) | skip)
        have H' := Aside0.mk H
        clear H
        go_wp2
        go_meet
        case rel => exact ⟨_, (true), (by first | rfl | (simp; done) | (simp [*]; done)), H', ⟨by first | omega | exact Nat.le_refl _⟩, ⟨by repeat (first | (with_reducible first | exact HB.out | apply below_alloc | apply pw_below_drewN | apply below_drew1) | exact HB.out)⟩⟩
      · rw [if_neg c10] at H
        have c10b0 : decide (1100 < (l0.length : Int)) = false := decide_eq_false c10
        have c10b1 : decide (1100 < l0.length) = false := decide_eq_false (by omega)
        clear c10
        (first | rw [c10b0] | (simp only [i64_w, i32_w]; rw [c10b0]) | skip)
        by_cases c11 : (l1.length : Int) > 1100
        · rw [if_pos c11] at H
          have c11b0 : decide (1100 < (l1.length : Int)) = true := decide_eq_true c11
          have c11b1 : decide (1100 < l1.length) = true := decide_eq_true (by omega)
          clear c11
          have H' := Aside0.mk H
          clear H
          go_wp2
          go_meet
          case rel => exact ⟨_, (true), (by first | rfl | (simp; done) | (simp [*]; done)), H', ⟨by first | omega | exact Nat.le_refl _⟩, ⟨by repeat (first | (with_reducible first | exact HB.out | apply below_alloc | apply pw_below_drewN | apply below_drew1) | exact HB.out)⟩⟩
        · rw [if_neg c11] at H
          have c11b0 : decide (1100 < (l1.length : Int)) = false := decide_eq_false c11
          have c11b1 : decide (1100 < l1.length) = false := decide_eq_false (by omega)
          clear c11
          replace H := Option.bind_eq_some_iff.mp H
          obtain ⟨t368, A120, H⟩ := H
          replace H : (wayfinderlaw14_PartCalls.j0 k l0 l1 l2 a3 a4 (!t368)) = some r := H
          have A12 := Aside0.mk A120
          clear A120
          have H' := Aside0.mk H
          clear H
          go_wp2_with (first | (go_at_call 27; (with_reducible refine (wayfinderkit_Light_int32.calls k _ _ l2 60 60 t368 _ ?side1 ?side2 A12.out).mono ?_); (case side1 => repeat (first | exact (Kd.C_below HR2.out HB.out) | (with_reducible refine Kd.C_alloc ?_ _) | (with_reducible refine Kd.C_drewN ?_ _) | (with_reducible refine Kd.C_drew ?_))); (case side2 => exact HC2.out); rintro e w' ⟨rfl, ⟨nd, rfl⟩⟩))
          go_meet
          case rel => exact ⟨_, (!t368), (by first | rfl | (simp; done) | (simp [*]; done)), H', ⟨by first | omega | exact Nat.le_refl _⟩, ⟨by repeat (first | (with_reducible first | exact HB.out | apply below_alloc | apply pw_below_drewN | apply below_drew1) | exact HB.out)⟩⟩
    case rest =>
      clear HC8
      try clear c1
      try clear c2
      try clear p2
      try clear c7
      try clear c10
      try clear c10b0
      try clear c10b1
      try clear c11
      try clear c11b0
      try clear c11b1
      obtain ⟨kq, x41_7, rfl, HA, HJ7, HB⟩ := hcut
      cases kq with
      | zero => exact absurd HA.out (by simp [wayfinderlaw14_PartCalls.j0])
      | succ kj7 =>
        have H := HA.out
        clear HA
        simp only [wayfinderlaw14_PartCalls.j0] at H
        by_cases c13 : x41_7 = true
        · subst c13
          have H1 : (some true) = some r := by rw [if_pos rfl] at H; exact H
          clear H
          have H := H1
          clear H1
          obtain rfl := Option.some.inj H
          go_wp2
          go_ret
          exact ⟨by first | rfl | (simp [errW_none, errW_some] <;> rfl) | (simp [*, errW_none, errW_some] <;> rfl), by repeat (first | (with_reducible first | exact HB.out | apply below_alloc | apply pw_below_drewN | apply below_drew1) | exact HB.out)⟩
        · replace c13 := Bool.eq_false_iff.mpr c13
          subst c13
          have H1 : ((wayfinderkit_Own_int32.f l0).bind fun t369 => ((part_Cut.f t369 a3).bind fun bt372 => ((wayfinderref14_Cut.f kj7 l0 a3).bind fun bt376 => ((wayfinderkit_OwnLists_int32.f kj7 l2).bind fun t380 => ((part_Join.f t380).bind fun bt383 => ((wayfinderref14_Join.f kj7 l2).bind fun bt387 => ((part_Column.f l2 a3 a4).bind fun bt391 => ((wayfinderref14_Column.f kj7 l2 a3 a4).bind fun bt395 => ((part_Dist.f kj7 l0 l1 a3).bind fun bt399 => ((wayfinderref14_Dist.f kj7 l0 l1 a3).bind fun bt403 => ((wayfinderkit_Lists_int32.f kj7 bt372.1 bt376.1).bind fun t407 => (if t407 = true then (if bt372.2 = bt376.2 then ((wayfinderkit_Same_int32.f kj7 bt383.1 bt387.1).bind fun t408 => (if t408 = true then (if bt383.2 = bt387.2 then ((wayfinderkit_Lists_int32.f kj7 bt391.1 bt395.1).bind fun t409 => (if t409 = true then (if bt391.2 = bt395.2 then ((wayfinderkit_Same_int64.f kj7 bt399.1 bt403.1).bind fun t410 => (if t410 = true then (if bt399.2 = bt403.2 then ((part_Check.f (l0.length : Int) a3).bind fun t411 => ((wayfinderref14_Check.f (l0.length : Int) a3).bind fun t412 => (if t411 = t412 then ((part_Check.f a4 a3).bind fun t413 => ((wayfinderref14_Check.f a4 a3).bind fun t414 => (if t413 = t414 then ((part_Width.f a4 a3).bind fun t415 => ((wayfinderref14_Width.f a4 a3).bind fun t416 => (some (t415 == t416)))) else (none)))) else (none)))) else (none)) else (none))) else (none)) else (none))) else (none)) else (none))) else (none)) else (none))))))))))))) = some r := by rw [if_neg (show ¬ (false = true) by decide)] at H; exact H
          clear H
          have H := H1
          clear H1
          replace H := Option.bind_eq_some_iff.mp H
          obtain ⟨t369, A140, H⟩ := H
          replace H : ((part_Cut.f t369 a3).bind fun bt372 => ((wayfinderref14_Cut.f kj7 l0 a3).bind fun bt376 => ((wayfinderkit_OwnLists_int32.f kj7 l2).bind fun t380 => ((part_Join.f t380).bind fun bt383 => ((wayfinderref14_Join.f kj7 l2).bind fun bt387 => ((part_Column.f l2 a3 a4).bind fun bt391 => ((wayfinderref14_Column.f kj7 l2 a3 a4).bind fun bt395 => ((part_Dist.f kj7 l0 l1 a3).bind fun bt399 => ((wayfinderref14_Dist.f kj7 l0 l1 a3).bind fun bt403 => ((wayfinderkit_Lists_int32.f kj7 bt372.1 bt376.1).bind fun t407 => (if t407 = true then (if bt372.2 = bt376.2 then ((wayfinderkit_Same_int32.f kj7 bt383.1 bt387.1).bind fun t408 => (if t408 = true then (if bt383.2 = bt387.2 then ((wayfinderkit_Lists_int32.f kj7 bt391.1 bt395.1).bind fun t409 => (if t409 = true then (if bt391.2 = bt395.2 then ((wayfinderkit_Same_int64.f kj7 bt399.1 bt403.1).bind fun t410 => (if t410 = true then (if bt399.2 = bt403.2 then ((part_Check.f (l0.length : Int) a3).bind fun t411 => ((wayfinderref14_Check.f (l0.length : Int) a3).bind fun t412 => (if t411 = t412 then ((part_Check.f a4 a3).bind fun t413 => ((wayfinderref14_Check.f a4 a3).bind fun t414 => (if t413 = t414 then ((part_Width.f a4 a3).bind fun t415 => ((wayfinderref14_Width.f a4 a3).bind fun t416 => (some (t415 == t416)))) else (none)))) else (none)))) else (none)) else (none))) else (none)) else (none))) else (none)) else (none))) else (none)) else (none)))))))))))) = some r := H
          have A14 := Aside0.mk A140
          clear A140
          replace H := Option.bind_eq_some_iff.mp H
          obtain ⟨⟨t372, t373⟩, A150, H⟩ := H
          replace H : ((wayfinderref14_Cut.f kj7 l0 a3).bind fun bt376 => ((wayfinderkit_OwnLists_int32.f kj7 l2).bind fun t380 => ((part_Join.f t380).bind fun bt383 => ((wayfinderref14_Join.f kj7 l2).bind fun bt387 => ((part_Column.f l2 a3 a4).bind fun bt391 => ((wayfinderref14_Column.f kj7 l2 a3 a4).bind fun bt395 => ((part_Dist.f kj7 l0 l1 a3).bind fun bt399 => ((wayfinderref14_Dist.f kj7 l0 l1 a3).bind fun bt403 => ((wayfinderkit_Lists_int32.f kj7 t372 bt376.1).bind fun t407 => (if t407 = true then (if t373 = bt376.2 then ((wayfinderkit_Same_int32.f kj7 bt383.1 bt387.1).bind fun t408 => (if t408 = true then (if bt383.2 = bt387.2 then ((wayfinderkit_Lists_int32.f kj7 bt391.1 bt395.1).bind fun t409 => (if t409 = true then (if bt391.2 = bt395.2 then ((wayfinderkit_Same_int64.f kj7 bt399.1 bt403.1).bind fun t410 => (if t410 = true then (if bt399.2 = bt403.2 then ((part_Check.f (l0.length : Int) a3).bind fun t411 => ((wayfinderref14_Check.f (l0.length : Int) a3).bind fun t412 => (if t411 = t412 then ((part_Check.f a4 a3).bind fun t413 => ((wayfinderref14_Check.f a4 a3).bind fun t414 => (if t413 = t414 then ((part_Width.f a4 a3).bind fun t415 => ((wayfinderref14_Width.f a4 a3).bind fun t416 => (some (t415 == t416)))) else (none)))) else (none)))) else (none)) else (none))) else (none)) else (none))) else (none)) else (none))) else (none)) else (none))))))))))) = some r := H
          have A15 := Aside0.mk A150
          clear A150
          replace H := Option.bind_eq_some_iff.mp H
          obtain ⟨⟨t376, t377⟩, A160, H⟩ := H
          replace H : ((wayfinderkit_OwnLists_int32.f kj7 l2).bind fun t380 => ((part_Join.f t380).bind fun bt383 => ((wayfinderref14_Join.f kj7 l2).bind fun bt387 => ((part_Column.f l2 a3 a4).bind fun bt391 => ((wayfinderref14_Column.f kj7 l2 a3 a4).bind fun bt395 => ((part_Dist.f kj7 l0 l1 a3).bind fun bt399 => ((wayfinderref14_Dist.f kj7 l0 l1 a3).bind fun bt403 => ((wayfinderkit_Lists_int32.f kj7 t372 t376).bind fun t407 => (if t407 = true then (if t373 = t377 then ((wayfinderkit_Same_int32.f kj7 bt383.1 bt387.1).bind fun t408 => (if t408 = true then (if bt383.2 = bt387.2 then ((wayfinderkit_Lists_int32.f kj7 bt391.1 bt395.1).bind fun t409 => (if t409 = true then (if bt391.2 = bt395.2 then ((wayfinderkit_Same_int64.f kj7 bt399.1 bt403.1).bind fun t410 => (if t410 = true then (if bt399.2 = bt403.2 then ((part_Check.f (l0.length : Int) a3).bind fun t411 => ((wayfinderref14_Check.f (l0.length : Int) a3).bind fun t412 => (if t411 = t412 then ((part_Check.f a4 a3).bind fun t413 => ((wayfinderref14_Check.f a4 a3).bind fun t414 => (if t413 = t414 then ((part_Width.f a4 a3).bind fun t415 => ((wayfinderref14_Width.f a4 a3).bind fun t416 => (some (t415 == t416)))) else (none)))) else (none)))) else (none)) else (none))) else (none)) else (none))) else (none)) else (none))) else (none)) else (none)))))))))) = some r := H
          have A16 := Aside0.mk A160
          clear A160
          replace H := Option.bind_eq_some_iff.mp H
          obtain ⟨t380, A170, H⟩ := H
          replace H : ((part_Join.f t380).bind fun bt383 => ((wayfinderref14_Join.f kj7 l2).bind fun bt387 => ((part_Column.f l2 a3 a4).bind fun bt391 => ((wayfinderref14_Column.f kj7 l2 a3 a4).bind fun bt395 => ((part_Dist.f kj7 l0 l1 a3).bind fun bt399 => ((wayfinderref14_Dist.f kj7 l0 l1 a3).bind fun bt403 => ((wayfinderkit_Lists_int32.f kj7 t372 t376).bind fun t407 => (if t407 = true then (if t373 = t377 then ((wayfinderkit_Same_int32.f kj7 bt383.1 bt387.1).bind fun t408 => (if t408 = true then (if bt383.2 = bt387.2 then ((wayfinderkit_Lists_int32.f kj7 bt391.1 bt395.1).bind fun t409 => (if t409 = true then (if bt391.2 = bt395.2 then ((wayfinderkit_Same_int64.f kj7 bt399.1 bt403.1).bind fun t410 => (if t410 = true then (if bt399.2 = bt403.2 then ((part_Check.f (l0.length : Int) a3).bind fun t411 => ((wayfinderref14_Check.f (l0.length : Int) a3).bind fun t412 => (if t411 = t412 then ((part_Check.f a4 a3).bind fun t413 => ((wayfinderref14_Check.f a4 a3).bind fun t414 => (if t413 = t414 then ((part_Width.f a4 a3).bind fun t415 => ((wayfinderref14_Width.f a4 a3).bind fun t416 => (some (t415 == t416)))) else (none)))) else (none)))) else (none)) else (none))) else (none)) else (none))) else (none)) else (none))) else (none)) else (none))))))))) = some r := H
          have A17 := Aside0.mk A170
          clear A170
          replace H := Option.bind_eq_some_iff.mp H
          obtain ⟨⟨t383, t384⟩, A180, H⟩ := H
          replace H : ((wayfinderref14_Join.f kj7 l2).bind fun bt387 => ((part_Column.f l2 a3 a4).bind fun bt391 => ((wayfinderref14_Column.f kj7 l2 a3 a4).bind fun bt395 => ((part_Dist.f kj7 l0 l1 a3).bind fun bt399 => ((wayfinderref14_Dist.f kj7 l0 l1 a3).bind fun bt403 => ((wayfinderkit_Lists_int32.f kj7 t372 t376).bind fun t407 => (if t407 = true then (if t373 = t377 then ((wayfinderkit_Same_int32.f kj7 t383 bt387.1).bind fun t408 => (if t408 = true then (if t384 = bt387.2 then ((wayfinderkit_Lists_int32.f kj7 bt391.1 bt395.1).bind fun t409 => (if t409 = true then (if bt391.2 = bt395.2 then ((wayfinderkit_Same_int64.f kj7 bt399.1 bt403.1).bind fun t410 => (if t410 = true then (if bt399.2 = bt403.2 then ((part_Check.f (l0.length : Int) a3).bind fun t411 => ((wayfinderref14_Check.f (l0.length : Int) a3).bind fun t412 => (if t411 = t412 then ((part_Check.f a4 a3).bind fun t413 => ((wayfinderref14_Check.f a4 a3).bind fun t414 => (if t413 = t414 then ((part_Width.f a4 a3).bind fun t415 => ((wayfinderref14_Width.f a4 a3).bind fun t416 => (some (t415 == t416)))) else (none)))) else (none)))) else (none)) else (none))) else (none)) else (none))) else (none)) else (none))) else (none)) else (none)))))))) = some r := H
          have A18 := Aside0.mk A180
          clear A180
          replace H := Option.bind_eq_some_iff.mp H
          obtain ⟨⟨t387, t388⟩, A190, H⟩ := H
          replace H : ((part_Column.f l2 a3 a4).bind fun bt391 => ((wayfinderref14_Column.f kj7 l2 a3 a4).bind fun bt395 => ((part_Dist.f kj7 l0 l1 a3).bind fun bt399 => ((wayfinderref14_Dist.f kj7 l0 l1 a3).bind fun bt403 => ((wayfinderkit_Lists_int32.f kj7 t372 t376).bind fun t407 => (if t407 = true then (if t373 = t377 then ((wayfinderkit_Same_int32.f kj7 t383 t387).bind fun t408 => (if t408 = true then (if t384 = t388 then ((wayfinderkit_Lists_int32.f kj7 bt391.1 bt395.1).bind fun t409 => (if t409 = true then (if bt391.2 = bt395.2 then ((wayfinderkit_Same_int64.f kj7 bt399.1 bt403.1).bind fun t410 => (if t410 = true then (if bt399.2 = bt403.2 then ((part_Check.f (l0.length : Int) a3).bind fun t411 => ((wayfinderref14_Check.f (l0.length : Int) a3).bind fun t412 => (if t411 = t412 then ((part_Check.f a4 a3).bind fun t413 => ((wayfinderref14_Check.f a4 a3).bind fun t414 => (if t413 = t414 then ((part_Width.f a4 a3).bind fun t415 => ((wayfinderref14_Width.f a4 a3).bind fun t416 => (some (t415 == t416)))) else (none)))) else (none)))) else (none)) else (none))) else (none)) else (none))) else (none)) else (none))) else (none)) else (none))))))) = some r := H
          have A19 := Aside0.mk A190
          clear A190
          replace H := Option.bind_eq_some_iff.mp H
          obtain ⟨⟨t391, t392⟩, A200, H⟩ := H
          replace H : ((wayfinderref14_Column.f kj7 l2 a3 a4).bind fun bt395 => ((part_Dist.f kj7 l0 l1 a3).bind fun bt399 => ((wayfinderref14_Dist.f kj7 l0 l1 a3).bind fun bt403 => ((wayfinderkit_Lists_int32.f kj7 t372 t376).bind fun t407 => (if t407 = true then (if t373 = t377 then ((wayfinderkit_Same_int32.f kj7 t383 t387).bind fun t408 => (if t408 = true then (if t384 = t388 then ((wayfinderkit_Lists_int32.f kj7 t391 bt395.1).bind fun t409 => (if t409 = true then (if t392 = bt395.2 then ((wayfinderkit_Same_int64.f kj7 bt399.1 bt403.1).bind fun t410 => (if t410 = true then (if bt399.2 = bt403.2 then ((part_Check.f (l0.length : Int) a3).bind fun t411 => ((wayfinderref14_Check.f (l0.length : Int) a3).bind fun t412 => (if t411 = t412 then ((part_Check.f a4 a3).bind fun t413 => ((wayfinderref14_Check.f a4 a3).bind fun t414 => (if t413 = t414 then ((part_Width.f a4 a3).bind fun t415 => ((wayfinderref14_Width.f a4 a3).bind fun t416 => (some (t415 == t416)))) else (none)))) else (none)))) else (none)) else (none))) else (none)) else (none))) else (none)) else (none))) else (none)) else (none)))))) = some r := H
          have A20 := Aside0.mk A200
          clear A200
          replace H := Option.bind_eq_some_iff.mp H
          obtain ⟨⟨t395, t398⟩, A210, H⟩ := H
          replace H : ((part_Dist.f kj7 l0 l1 a3).bind fun bt399 => ((wayfinderref14_Dist.f kj7 l0 l1 a3).bind fun bt403 => ((wayfinderkit_Lists_int32.f kj7 t372 t376).bind fun t407 => (if t407 = true then (if t373 = t377 then ((wayfinderkit_Same_int32.f kj7 t383 t387).bind fun t408 => (if t408 = true then (if t384 = t388 then ((wayfinderkit_Lists_int32.f kj7 t391 t395).bind fun t409 => (if t409 = true then (if t392 = t398 then ((wayfinderkit_Same_int64.f kj7 bt399.1 bt403.1).bind fun t410 => (if t410 = true then (if bt399.2 = bt403.2 then ((part_Check.f (l0.length : Int) a3).bind fun t411 => ((wayfinderref14_Check.f (l0.length : Int) a3).bind fun t412 => (if t411 = t412 then ((part_Check.f a4 a3).bind fun t413 => ((wayfinderref14_Check.f a4 a3).bind fun t414 => (if t413 = t414 then ((part_Width.f a4 a3).bind fun t415 => ((wayfinderref14_Width.f a4 a3).bind fun t416 => (some (t415 == t416)))) else (none)))) else (none)))) else (none)) else (none))) else (none)) else (none))) else (none)) else (none))) else (none)) else (none))))) = some r := H
          have A21 := Aside0.mk A210
          clear A210
          replace H := Option.bind_eq_some_iff.mp H
          obtain ⟨⟨t399, t400⟩, A220, H⟩ := H
          replace H : ((wayfinderref14_Dist.f kj7 l0 l1 a3).bind fun bt403 => ((wayfinderkit_Lists_int32.f kj7 t372 t376).bind fun t407 => (if t407 = true then (if t373 = t377 then ((wayfinderkit_Same_int32.f kj7 t383 t387).bind fun t408 => (if t408 = true then (if t384 = t388 then ((wayfinderkit_Lists_int32.f kj7 t391 t395).bind fun t409 => (if t409 = true then (if t392 = t398 then ((wayfinderkit_Same_int64.f kj7 t399 bt403.1).bind fun t410 => (if t410 = true then (if t400 = bt403.2 then ((part_Check.f (l0.length : Int) a3).bind fun t411 => ((wayfinderref14_Check.f (l0.length : Int) a3).bind fun t412 => (if t411 = t412 then ((part_Check.f a4 a3).bind fun t413 => ((wayfinderref14_Check.f a4 a3).bind fun t414 => (if t413 = t414 then ((part_Width.f a4 a3).bind fun t415 => ((wayfinderref14_Width.f a4 a3).bind fun t416 => (some (t415 == t416)))) else (none)))) else (none)))) else (none)) else (none))) else (none)) else (none))) else (none)) else (none))) else (none)) else (none)))) = some r := H
          have A22 := Aside0.mk A220
          clear A220
          replace H := Option.bind_eq_some_iff.mp H
          obtain ⟨⟨t403, t404⟩, A230, H⟩ := H
          replace H : ((wayfinderkit_Lists_int32.f kj7 t372 t376).bind fun t407 => (if t407 = true then (if t373 = t377 then ((wayfinderkit_Same_int32.f kj7 t383 t387).bind fun t408 => (if t408 = true then (if t384 = t388 then ((wayfinderkit_Lists_int32.f kj7 t391 t395).bind fun t409 => (if t409 = true then (if t392 = t398 then ((wayfinderkit_Same_int64.f kj7 t399 t403).bind fun t410 => (if t410 = true then (if t400 = t404 then ((part_Check.f (l0.length : Int) a3).bind fun t411 => ((wayfinderref14_Check.f (l0.length : Int) a3).bind fun t412 => (if t411 = t412 then ((part_Check.f a4 a3).bind fun t413 => ((wayfinderref14_Check.f a4 a3).bind fun t414 => (if t413 = t414 then ((part_Width.f a4 a3).bind fun t415 => ((wayfinderref14_Width.f a4 a3).bind fun t416 => (some (t415 == t416)))) else (none)))) else (none)))) else (none)) else (none))) else (none)) else (none))) else (none)) else (none))) else (none)) else (none))) = some r := H
          have A23 := Aside0.mk A230
          clear A230
          replace H := Option.bind_eq_some_iff.mp H
          obtain ⟨t407, A240, H⟩ := H
          replace H : (if t407 = true then (if t373 = t377 then ((wayfinderkit_Same_int32.f kj7 t383 t387).bind fun t408 => (if t408 = true then (if t384 = t388 then ((wayfinderkit_Lists_int32.f kj7 t391 t395).bind fun t409 => (if t409 = true then (if t392 = t398 then ((wayfinderkit_Same_int64.f kj7 t399 t403).bind fun t410 => (if t410 = true then (if t400 = t404 then ((part_Check.f (l0.length : Int) a3).bind fun t411 => ((wayfinderref14_Check.f (l0.length : Int) a3).bind fun t412 => (if t411 = t412 then ((part_Check.f a4 a3).bind fun t413 => ((wayfinderref14_Check.f a4 a3).bind fun t414 => (if t413 = t414 then ((part_Width.f a4 a3).bind fun t415 => ((wayfinderref14_Width.f a4 a3).bind fun t416 => (some (t415 == t416)))) else (none)))) else (none)))) else (none)) else (none))) else (none)) else (none))) else (none)) else (none))) else (none)) else (none)) = some r := H
          have A24 := Aside0.mk A240
          clear A240
          by_cases c25 : t407 = true
          · subst c25
            have H1 : (if t373 = t377 then ((wayfinderkit_Same_int32.f kj7 t383 t387).bind fun t408 => (if t408 = true then (if t384 = t388 then ((wayfinderkit_Lists_int32.f kj7 t391 t395).bind fun t409 => (if t409 = true then (if t392 = t398 then ((wayfinderkit_Same_int64.f kj7 t399 t403).bind fun t410 => (if t410 = true then (if t400 = t404 then ((part_Check.f (l0.length : Int) a3).bind fun t411 => ((wayfinderref14_Check.f (l0.length : Int) a3).bind fun t412 => (if t411 = t412 then ((part_Check.f a4 a3).bind fun t413 => ((wayfinderref14_Check.f a4 a3).bind fun t414 => (if t413 = t414 then ((part_Width.f a4 a3).bind fun t415 => ((wayfinderref14_Width.f a4 a3).bind fun t416 => (some (t415 == t416)))) else (none)))) else (none)))) else (none)) else (none))) else (none)) else (none))) else (none)) else (none))) else (none)) = some r := by rw [if_pos rfl] at H; exact H
            clear H
            have H := H1
            clear H1
            by_cases c26 : t373 = t377
            · rw [if_pos c26] at H
              have c26b0 : (t373 == t377) = true := beq_iff_eq.mpr c26
              have c26b1 : (t373 != t377) = false := bne_eq_false_iff_eq.mpr c26
              clear c26
              replace H := Option.bind_eq_some_iff.mp H
              obtain ⟨t408, A270, H⟩ := H
              replace H : (if t408 = true then (if t384 = t388 then ((wayfinderkit_Lists_int32.f kj7 t391 t395).bind fun t409 => (if t409 = true then (if t392 = t398 then ((wayfinderkit_Same_int64.f kj7 t399 t403).bind fun t410 => (if t410 = true then (if t400 = t404 then ((part_Check.f (l0.length : Int) a3).bind fun t411 => ((wayfinderref14_Check.f (l0.length : Int) a3).bind fun t412 => (if t411 = t412 then ((part_Check.f a4 a3).bind fun t413 => ((wayfinderref14_Check.f a4 a3).bind fun t414 => (if t413 = t414 then ((part_Width.f a4 a3).bind fun t415 => ((wayfinderref14_Width.f a4 a3).bind fun t416 => (some (t415 == t416)))) else (none)))) else (none)))) else (none)) else (none))) else (none)) else (none))) else (none)) else (none)) = some r := H
              have A27 := Aside0.mk A270
              clear A270
              by_cases c28 : t408 = true
              · subst c28
                have H1 : (if t384 = t388 then ((wayfinderkit_Lists_int32.f kj7 t391 t395).bind fun t409 => (if t409 = true then (if t392 = t398 then ((wayfinderkit_Same_int64.f kj7 t399 t403).bind fun t410 => (if t410 = true then (if t400 = t404 then ((part_Check.f (l0.length : Int) a3).bind fun t411 => ((wayfinderref14_Check.f (l0.length : Int) a3).bind fun t412 => (if t411 = t412 then ((part_Check.f a4 a3).bind fun t413 => ((wayfinderref14_Check.f a4 a3).bind fun t414 => (if t413 = t414 then ((part_Width.f a4 a3).bind fun t415 => ((wayfinderref14_Width.f a4 a3).bind fun t416 => (some (t415 == t416)))) else (none)))) else (none)))) else (none)) else (none))) else (none)) else (none))) else (none)) = some r := by rw [if_pos rfl] at H; exact H
                clear H
                have H := H1
                clear H1
                by_cases c29 : t384 = t388
                · rw [if_pos c29] at H
                  have c29b0 : (t384 == t388) = true := beq_iff_eq.mpr c29
                  have c29b1 : (t384 != t388) = false := bne_eq_false_iff_eq.mpr c29
                  clear c29
                  replace H := Option.bind_eq_some_iff.mp H
                  obtain ⟨t409, A300, H⟩ := H
                  replace H : (if t409 = true then (if t392 = t398 then ((wayfinderkit_Same_int64.f kj7 t399 t403).bind fun t410 => (if t410 = true then (if t400 = t404 then ((part_Check.f (l0.length : Int) a3).bind fun t411 => ((wayfinderref14_Check.f (l0.length : Int) a3).bind fun t412 => (if t411 = t412 then ((part_Check.f a4 a3).bind fun t413 => ((wayfinderref14_Check.f a4 a3).bind fun t414 => (if t413 = t414 then ((part_Width.f a4 a3).bind fun t415 => ((wayfinderref14_Width.f a4 a3).bind fun t416 => (some (t415 == t416)))) else (none)))) else (none)))) else (none)) else (none))) else (none)) else (none)) = some r := H
                  have A30 := Aside0.mk A300
                  clear A300
                  by_cases c31 : t409 = true
                  · subst c31
                    have H1 : (if t392 = t398 then ((wayfinderkit_Same_int64.f kj7 t399 t403).bind fun t410 => (if t410 = true then (if t400 = t404 then ((part_Check.f (l0.length : Int) a3).bind fun t411 => ((wayfinderref14_Check.f (l0.length : Int) a3).bind fun t412 => (if t411 = t412 then ((part_Check.f a4 a3).bind fun t413 => ((wayfinderref14_Check.f a4 a3).bind fun t414 => (if t413 = t414 then ((part_Width.f a4 a3).bind fun t415 => ((wayfinderref14_Width.f a4 a3).bind fun t416 => (some (t415 == t416)))) else (none)))) else (none)))) else (none)) else (none))) else (none)) = some r := by rw [if_pos rfl] at H; exact H
                    clear H
                    have H := H1
                    clear H1
                    by_cases c32 : t392 = t398
                    · rw [if_pos c32] at H
                      have c32b0 : (t392 == t398) = true := beq_iff_eq.mpr c32
                      have c32b1 : (t392 != t398) = false := bne_eq_false_iff_eq.mpr c32
                      clear c32
                      replace H := Option.bind_eq_some_iff.mp H
                      obtain ⟨t410, A330, H⟩ := H
                      replace H : (if t410 = true then (if t400 = t404 then ((part_Check.f (l0.length : Int) a3).bind fun t411 => ((wayfinderref14_Check.f (l0.length : Int) a3).bind fun t412 => (if t411 = t412 then ((part_Check.f a4 a3).bind fun t413 => ((wayfinderref14_Check.f a4 a3).bind fun t414 => (if t413 = t414 then ((part_Width.f a4 a3).bind fun t415 => ((wayfinderref14_Width.f a4 a3).bind fun t416 => (some (t415 == t416)))) else (none)))) else (none)))) else (none)) else (none)) = some r := H
                      have A33 := Aside0.mk A330
                      clear A330
                      by_cases c34 : t410 = true
                      · subst c34
                        have H1 : (if t400 = t404 then ((part_Check.f (l0.length : Int) a3).bind fun t411 => ((wayfinderref14_Check.f (l0.length : Int) a3).bind fun t412 => (if t411 = t412 then ((part_Check.f a4 a3).bind fun t413 => ((wayfinderref14_Check.f a4 a3).bind fun t414 => (if t413 = t414 then ((part_Width.f a4 a3).bind fun t415 => ((wayfinderref14_Width.f a4 a3).bind fun t416 => (some (t415 == t416)))) else (none)))) else (none)))) else (none)) = some r := by rw [if_pos rfl] at H; exact H
                        clear H
                        have H := H1
                        clear H1
                        by_cases c35 : t400 = t404
                        · rw [if_pos c35] at H
                          have c35b0 : (t400 == t404) = true := beq_iff_eq.mpr c35
                          have c35b1 : (t400 != t404) = false := bne_eq_false_iff_eq.mpr c35
                          clear c35
                          replace H := Option.bind_eq_some_iff.mp H
                          obtain ⟨t411, A360, H⟩ := H
                          replace H : ((wayfinderref14_Check.f (l0.length : Int) a3).bind fun t412 => (if t411 = t412 then ((part_Check.f a4 a3).bind fun t413 => ((wayfinderref14_Check.f a4 a3).bind fun t414 => (if t413 = t414 then ((part_Width.f a4 a3).bind fun t415 => ((wayfinderref14_Width.f a4 a3).bind fun t416 => (some (t415 == t416)))) else (none)))) else (none))) = some r := H
                          have A36 := Aside0.mk A360
                          clear A360
                          replace H := Option.bind_eq_some_iff.mp H
                          obtain ⟨t412, A370, H⟩ := H
                          replace H : (if t411 = t412 then ((part_Check.f a4 a3).bind fun t413 => ((wayfinderref14_Check.f a4 a3).bind fun t414 => (if t413 = t414 then ((part_Width.f a4 a3).bind fun t415 => ((wayfinderref14_Width.f a4 a3).bind fun t416 => (some (t415 == t416)))) else (none)))) else (none)) = some r := H
                          have A37 := Aside0.mk A370
                          clear A370
                          by_cases c38 : t411 = t412
                          · rw [if_pos c38] at H
                            have c38b0 : (t411 == t412) = true := beq_iff_eq.mpr c38
                            have c38b1 : (t411 != t412) = false := bne_eq_false_iff_eq.mpr c38
                            clear c38
                            replace H := Option.bind_eq_some_iff.mp H
                            obtain ⟨t413, A390, H⟩ := H
                            replace H : ((wayfinderref14_Check.f a4 a3).bind fun t414 => (if t413 = t414 then ((part_Width.f a4 a3).bind fun t415 => ((wayfinderref14_Width.f a4 a3).bind fun t416 => (some (t415 == t416)))) else (none))) = some r := H
                            have A39 := Aside0.mk A390
                            clear A390
                            replace H := Option.bind_eq_some_iff.mp H
                            obtain ⟨t414, A400, H⟩ := H
                            replace H : (if t413 = t414 then ((part_Width.f a4 a3).bind fun t415 => ((wayfinderref14_Width.f a4 a3).bind fun t416 => (some (t415 == t416)))) else (none)) = some r := H
                            have A40 := Aside0.mk A400
                            clear A400
                            by_cases c41 : t413 = t414
                            · rw [if_pos c41] at H
                              have c41b0 : (t413 == t414) = true := beq_iff_eq.mpr c41
                              have c41b1 : (t413 != t414) = false := bne_eq_false_iff_eq.mpr c41
                              clear c41
                              replace H := Option.bind_eq_some_iff.mp H
                              obtain ⟨t415, A420, H⟩ := H
                              replace H : ((wayfinderref14_Width.f a4 a3).bind fun t416 => (some (t415 == t416))) = some r := H
                              have A42 := Aside0.mk A420
                              clear A420
                              replace H := Option.bind_eq_some_iff.mp H
                              obtain ⟨t416, A430, H⟩ := H
                              replace H : (some (t415 == t416)) = some r := H
                              have A43 := Aside0.mk A430
                              clear A430
                              obtain rfl := Option.some.inj H
                              go_wp2_with (first | ((with_reducible refine gate_callee (f := 25) rfl ?_); refine goesL_ (some 44) rfl rfl Try.func25 (by kernel_rfl) rfl #[.slice A0 l0.length c0] rfl (by (try simp only [List.map_toArray, List.map_cons, List.map_nil]); first | done | rfl | (simp only [List.length_drop, List.length_take]; rfl)) ?_; (with_reducible refine (wayfinderkit_Own_int32.calls _ _ l0 t369 _ ?side1 ?side2 A14.out).mono ?_); (case side1 => repeat (first | exact (Kd.C_below HR0.out HB.out) | (with_reducible refine Kd.C_alloc ?_ _) | (with_reducible refine Kd.C_drewN ?_ _) | (with_reducible refine Kd.C_drew ?_))); (case side2 => exact HC0.out); rintro e w44 ⟨v370, rfl, ho0, hb⟩; refine ⟨_, rfl, ?_⟩; have n0_ := Aside0.mk (Kd.R_lower ho0 (below_size (by repeat (first | (with_reducible first | exact HB.out | apply below_alloc | apply pw_below_drewN | apply below_drew1) | exact HB.out)))); have n1_ := Aside0.mk (below_step (by repeat (first | (with_reducible first | exact HB.out | apply below_alloc | apply pw_below_drewN | apply below_drew1) | exact HB.out)) hb); clear HB; have HO371 := n0_; have HB := n1_; clear n0_ n1_; (try clear hb); (try clear hb2); (try clear hk); (try clear hi); (try clear ho0); obtain ⟨Ao45, co45, eo45⟩ := Kd.R_slice HO371.out; subst eo45) | ((with_reducible refine gate_callee (f := 29) rfl ?_); refine goesL_ (some 46) rfl rfl Try.func29 (by kernel_rfl) rfl #[.slice Ao45 t369.length co45, .int .i64 a3] rfl (by (try simp only [List.map_toArray, List.map_cons, List.map_nil]); first | done | rfl | (simp only [List.length_drop, List.length_take]; rfl)) ?_; (with_reducible refine (part_Cut.calls _ _ t369 a3 t372 t373 _ ?side1 ?side2 A15.out).mono ?_); (case side1 => repeat (first | exact (Kd.R_reads' HO371.out).2.2 | (with_reducible refine Kd.C_alloc ?_ _) | (with_reducible refine Kd.C_drewN ?_ _) | (with_reducible refine Kd.C_drew ?_))); (case side2 => exact (Kd.R_reads' HO371.out).2.1); rintro e w46 ⟨v374, rfl, ho0, hb⟩; refine ⟨_, rfl, ?_⟩; have n0_ := Aside0.mk (Kd.R_below (by (with_reducible repeat (first | apply Kd.R_alloc | apply Kd.R_drewN | apply Kd.R_drew)); exact HO371.out) hb); have n1_ := Aside0.mk (Kd.N_lower (Kd.N_mono (ok' := fun k_ => some k_ ≠ (.slice Ao45 t369.length co45 : Value).ownBlock) (Kd.R_N (Kd.R_bound ho0)) (fun k_ hk_ => (Kd.fresh' (Kd.R_lt (by (with_reducible repeat (first | apply Kd.R_alloc | apply Kd.R_drewN | apply Kd.R_drew)); exact HO371.out)) k_ hk_.2.1))) (below_size (by repeat (first | (with_reducible first | exact HB.out | apply below_alloc | apply pw_below_drewN | apply below_drew1) | exact HB.out)))); have n2_ := Aside0.mk (below_step (by repeat (first | (with_reducible first | exact HB.out | apply below_alloc | apply pw_below_drewN | apply below_drew1) | exact HB.out)) hb); clear HO371; clear HB; have HO371 := n0_; have HO375 := n1_; have HB := n2_; clear n0_ n1_ n2_; (try clear hb); (try clear hb2); (try clear hk); (try clear hi); (try clear ho0)) | ((with_reducible refine gate_callee (f := 42) rfl ?_); refine goesL_ (some 52) rfl rfl Try.func42 (by kernel_rfl) rfl #[.slice A0 l0.length c0, .int .i64 a3] rfl (by (try simp only [List.map_toArray, List.map_cons, List.map_nil]); first | done | rfl | (simp only [List.length_drop, List.length_take]; rfl)) ?_; (with_reducible refine (wayfinderref14_Cut.calls kj7 _ _ l0 a3 t376 t377 _ ?side1 ?side2 A16.out).mono ?_); (case side1 => repeat (first | exact (Kd.C_below HR0.out HB.out) | (with_reducible refine Kd.C_alloc ?_ _) | (with_reducible refine Kd.C_drewN ?_ _) | (with_reducible refine Kd.C_drew ?_))); (case side2 => exact HC0.out); rintro e w47 ⟨v378, rfl, ho0, hb⟩; refine ⟨_, rfl, ?_⟩; have n0_ := Aside0.mk (Kd.R_below (by (with_reducible repeat (first | apply Kd.R_alloc | apply Kd.R_drewN | apply Kd.R_drew)); exact HO371.out) hb); have n1_ := Aside0.mk (Kd.N_elder' (by (with_reducible repeat (first | apply Kd.N_alloc | apply Kd.N_drewN | apply Kd.N_drew)); exact HO375.out) (by first | exact Kd.R_base ho0 | exact Kd.N_base ho0) hb); have n2_ := Aside0.mk (Kd.N_lower (Kd.N_mono (ok' := fun k_ => some k_ ≠ (.slice Ao45 t369.length co45 : Value).ownBlock ∧ some k_ ≠ (v374 : Value).ownBlock) (Kd.R_N (Kd.R_bound ho0)) (fun k_ hk_ => ⟨(Kd.fresh' (Kd.R_lt (by (with_reducible repeat (first | apply Kd.R_alloc | apply Kd.R_drewN | apply Kd.R_drew)); exact HO371.out)) k_ hk_.2.1), (Kd.fresh' (Kd.N_lt (by (with_reducible repeat (first | apply Kd.N_alloc | apply Kd.N_drewN | apply Kd.N_drew)); exact HO375.out)) k_ hk_.2.1)⟩)) (below_size (by repeat (first | (with_reducible first | exact HB.out | apply below_alloc | apply pw_below_drewN | apply below_drew1) | exact HB.out)))); have n3_ := Aside0.mk (below_step (by repeat (first | (with_reducible first | exact HB.out | apply below_alloc | apply pw_below_drewN | apply below_drew1) | exact HB.out)) hb); clear HO371; clear HO375; clear HB; have HO371 := n0_; have HO375 := n1_; have HO379 := n2_; have HB := n3_; clear n0_ n1_ n2_ n3_; (try clear hb); (try clear hb2); (try clear hk); (try clear hi); (try clear ho0)) | ((with_reducible refine gate_callee (f := 43) rfl ?_); refine goesL_ (some 57) rfl rfl Try.func43 (by kernel_rfl) rfl #[.slice A2 l2.length c2] rfl (by (try simp only [List.map_toArray, List.map_cons, List.map_nil]); first | done | rfl | (simp only [List.length_drop, List.length_take]; rfl)) ?_; (with_reducible refine (wayfinderkit_OwnLists_int32.calls kj7 _ _ l2 t380 _ ?side1 ?side2 A17.out).mono ?_); (case side1 => repeat (first | exact (Kd.C_below HR2.out HB.out) | (with_reducible refine Kd.C_alloc ?_ _) | (with_reducible refine Kd.C_drewN ?_ _) | (with_reducible refine Kd.C_drew ?_))); (case side2 => exact HC2.out); rintro e w48 ⟨v381, rfl, ho0, hb⟩; refine ⟨_, rfl, ?_⟩; have n0_ := Aside0.mk (Kd.R_below (by (with_reducible repeat (first | apply Kd.R_alloc | apply Kd.R_drewN | apply Kd.R_drew)); exact HO371.out) hb); have n1_ := Aside0.mk (Kd.N_elder' (by (with_reducible repeat (first | apply Kd.N_alloc | apply Kd.N_drewN | apply Kd.N_drew)); exact HO375.out) (by first | exact Kd.R_base ho0 | exact Kd.N_base ho0) hb); have n2_ := Aside0.mk (Kd.N_elder' (by (with_reducible repeat (first | apply Kd.N_alloc | apply Kd.N_drewN | apply Kd.N_drew)); exact HO379.out) (by first | exact Kd.R_base ho0 | exact Kd.N_base ho0) hb); have n3_ := Aside0.mk (Kd.N_lower (Kd.N_mono (ok' := fun k_ => some k_ ≠ (.slice Ao45 t369.length co45 : Value).ownBlock ∧ some k_ ≠ (v374 : Value).ownBlock ∧ some k_ ≠ (v378 : Value).ownBlock) (Kd.R_N (Kd.R_bound ho0)) (fun k_ hk_ => ⟨(Kd.fresh' (Kd.R_lt (by (with_reducible repeat (first | apply Kd.R_alloc | apply Kd.R_drewN | apply Kd.R_drew)); exact HO371.out)) k_ hk_.2.1), (Kd.fresh' (Kd.N_lt (by (with_reducible repeat (first | apply Kd.N_alloc | apply Kd.N_drewN | apply Kd.N_drew)); exact HO375.out)) k_ hk_.2.1), (Kd.fresh' (Kd.N_lt (by (with_reducible repeat (first | apply Kd.N_alloc | apply Kd.N_drewN | apply Kd.N_drew)); exact HO379.out)) k_ hk_.2.1)⟩)) (below_size (by repeat (first | (with_reducible first | exact HB.out | apply below_alloc | apply pw_below_drewN | apply below_drew1) | exact HB.out)))); have n4_ := Aside0.mk (below_step (by repeat (first | (with_reducible first | exact HB.out | apply below_alloc | apply pw_below_drewN | apply below_drew1) | exact HB.out)) hb); clear HO371; clear HO375; clear HO379; clear HB; have HO371 := n0_; have HO375 := n1_; have HO379 := n2_; have HO382 := n3_; have HB := n4_; clear n0_ n1_ n2_ n3_ n4_; (try clear hb); (try clear hb2); (try clear hk); (try clear hi); (try clear ho0); obtain ⟨Ao49, co49, eo49⟩ := Kd.N_slice HO382.out; subst eo49) | ((with_reducible refine gate_callee (f := 30) rfl ?_); refine goesL_ (some 58) rfl rfl Try.func30 (by kernel_rfl) rfl #[.slice Ao49 t380.length co49] rfl (by (try simp only [List.map_toArray, List.map_cons, List.map_nil]); first | done | rfl | (simp only [List.length_drop, List.length_take]; rfl)) ?_; (with_reducible refine (part_Join.calls _ _ t380 t383 t384 _ ?side1 ?side2 A18.out).mono ?_); (case side1 => repeat (first | exact (Kd.N_reads' HO382.out).2.2 | (with_reducible refine Kd.C_alloc ?_ _) | (with_reducible refine Kd.C_drewN ?_ _) | (with_reducible refine Kd.C_drew ?_))); (case side2 => exact (Kd.N_reads' HO382.out).2.1); rintro e w50 ⟨v385, rfl, ho0, hb⟩; refine ⟨_, rfl, ?_⟩; have n0_ := Aside0.mk (Kd.R_elder' (by (with_reducible repeat (first | apply Kd.R_alloc | apply Kd.R_drewN | apply Kd.R_drew)); exact HO371.out) (Kd.R_base ho0) hb); have n1_ := Aside0.mk (Kd.N_elder' (by (with_reducible repeat (first | apply Kd.N_alloc | apply Kd.N_drewN | apply Kd.N_drew)); exact HO375.out) (Kd.R_base ho0) hb); have n2_ := Aside0.mk (Kd.N_elder' (by (with_reducible repeat (first | apply Kd.N_alloc | apply Kd.N_drewN | apply Kd.N_drew)); exact HO379.out) (Kd.R_base ho0) hb); have n3_ := Aside0.mk (Kd.N_elder' (by (with_reducible repeat (first | apply Kd.N_alloc | apply Kd.N_drewN | apply Kd.N_drew)); exact HO382.out) (Kd.R_base ho0) hb); have n4_ := Aside0.mk (Kd.R_lower (Kd.R_new' ho0 (Kd.R_lt (by (with_reducible repeat (first | apply Kd.R_alloc | apply Kd.R_drewN | apply Kd.R_drew)); exact HO371.out))) (below_size (by repeat (first | (with_reducible first | exact HB.out | apply below_alloc | apply pw_below_drewN | apply below_drew1) | exact HB.out)))); have n5_ := Aside0.mk (below_step (by repeat (first | (with_reducible first | exact HB.out | apply below_alloc | apply pw_below_drewN | apply below_drew1) | exact HB.out)) hb); clear HO371; clear HO375; clear HO379; clear HO382; clear HB; have HO371 := n0_; have HO375 := n1_; have HO379 := n2_; have HO382 := n3_; have HO386 := n4_; have HB := n5_; clear n0_ n1_ n2_ n3_ n4_ n5_; (try clear hb); (try clear hb2); (try clear hk); (try clear hi); (try clear ho0)) | ((with_reducible refine gate_callee (f := 44) rfl ?_); refine goesL_ (some 63) rfl rfl Try.func44 (by kernel_rfl) rfl #[.slice A2 l2.length c2] rfl (by (try simp only [List.map_toArray, List.map_cons, List.map_nil]); first | done | rfl | (simp only [List.length_drop, List.length_take]; rfl)) ?_; (with_reducible refine (wayfinderref14_Join.calls kj7 _ _ l2 t387 t388 _ ?side1 ?side2 A19.out).mono ?_); (case side1 => repeat (first | exact (Kd.C_below HR2.out HB.out) | (with_reducible refine Kd.C_alloc ?_ _) | (with_reducible refine Kd.C_drewN ?_ _) | (with_reducible refine Kd.C_drew ?_))); (case side2 => exact HC2.out); rintro e w51 ⟨v389, rfl, ho0, hb⟩; refine ⟨_, rfl, ?_⟩; have n0_ := Aside0.mk (Kd.R_elder' (by (with_reducible repeat (first | apply Kd.R_alloc | apply Kd.R_drewN | apply Kd.R_drew)); exact HO371.out) (Kd.R_base ho0) hb); have n1_ := Aside0.mk (Kd.N_elder' (by (with_reducible repeat (first | apply Kd.N_alloc | apply Kd.N_drewN | apply Kd.N_drew)); exact HO375.out) (Kd.R_base ho0) hb); have n2_ := Aside0.mk (Kd.N_elder' (by (with_reducible repeat (first | apply Kd.N_alloc | apply Kd.N_drewN | apply Kd.N_drew)); exact HO379.out) (Kd.R_base ho0) hb); have n3_ := Aside0.mk (Kd.N_elder' (by (with_reducible repeat (first | apply Kd.N_alloc | apply Kd.N_drewN | apply Kd.N_drew)); exact HO382.out) (Kd.R_base ho0) hb); have n4_ := Aside0.mk (Kd.R_elder' (by (with_reducible repeat (first | apply Kd.R_alloc | apply Kd.R_drewN | apply Kd.R_drew)); exact HO386.out) (Kd.R_base ho0) hb); have n5_ := Aside0.mk (Kd.R_lower (Kd.R_new' (Kd.R_new' ho0 (Kd.R_lt (by (with_reducible repeat (first | apply Kd.R_alloc | apply Kd.R_drewN | apply Kd.R_drew)); exact HO371.out))) (Kd.R_lt (by (with_reducible repeat (first | apply Kd.R_alloc | apply Kd.R_drewN | apply Kd.R_drew)); exact HO386.out))) (below_size (by repeat (first | (with_reducible first | exact HB.out | apply below_alloc | apply pw_below_drewN | apply below_drew1) | exact HB.out)))); have n6_ := Aside0.mk (below_step (by repeat (first | (with_reducible first | exact HB.out | apply below_alloc | apply pw_below_drewN | apply below_drew1) | exact HB.out)) hb); clear HO371; clear HO375; clear HO379; clear HO382; clear HO386; clear HB; have HO371 := n0_; have HO375 := n1_; have HO379 := n2_; have HO382 := n3_; have HO386 := n4_; have HO390 := n5_; have HB := n6_; clear n0_ n1_ n2_ n3_ n4_ n5_ n6_; (try clear hb); (try clear hb2); (try clear hk); (try clear hi); (try clear ho0)) | ((with_reducible refine gate_callee (f := 28) rfl ?_); refine goesL_ (some 70) rfl rfl Try.func28 (by kernel_rfl) rfl #[.slice A2 l2.length c2, .int .i64 a3, .int .i64 a4] rfl (by (try simp only [List.map_toArray, List.map_cons, List.map_nil]); first | done | rfl | (simp only [List.length_drop, List.length_take]; rfl)) ?_; (with_reducible refine (part_Column.calls _ _ l2 a3 a4 t391 t392 _ ?side1 ?side2 A20.out).mono ?_); (case side1 => repeat (first | exact (Kd.C_below HR2.out HB.out) | (with_reducible refine Kd.C_alloc ?_ _) | (with_reducible refine Kd.C_drewN ?_ _) | (with_reducible refine Kd.C_drew ?_))); (case side2 => exact HC2.out); rintro e w52 ⟨v393, rfl, ho0, hb⟩; refine ⟨_, rfl, ?_⟩; have n0_ := Aside0.mk (Kd.R_below (by (with_reducible repeat (first | apply Kd.R_alloc | apply Kd.R_drewN | apply Kd.R_drew)); exact HO371.out) hb); have n1_ := Aside0.mk (Kd.N_elder' (by (with_reducible repeat (first | apply Kd.N_alloc | apply Kd.N_drewN | apply Kd.N_drew)); exact HO375.out) (by first | exact Kd.R_base ho0 | exact Kd.N_base ho0) hb); have n2_ := Aside0.mk (Kd.N_elder' (by (with_reducible repeat (first | apply Kd.N_alloc | apply Kd.N_drewN | apply Kd.N_drew)); exact HO379.out) (by first | exact Kd.R_base ho0 | exact Kd.N_base ho0) hb); have n3_ := Aside0.mk (Kd.N_elder' (by (with_reducible repeat (first | apply Kd.N_alloc | apply Kd.N_drewN | apply Kd.N_drew)); exact HO382.out) (by first | exact Kd.R_base ho0 | exact Kd.N_base ho0) hb); have n4_ := Aside0.mk (Kd.R_below (by (with_reducible repeat (first | apply Kd.R_alloc | apply Kd.R_drewN | apply Kd.R_drew)); exact HO386.out) hb); have n5_ := Aside0.mk (Kd.R_below (by (with_reducible repeat (first | apply Kd.R_alloc | apply Kd.R_drewN | apply Kd.R_drew)); exact HO390.out) hb); have n6_ := Aside0.mk (Kd.N_lower (Kd.N_mono (ok' := fun k_ => some k_ ≠ (.slice Ao45 t369.length co45 : Value).ownBlock ∧ some k_ ≠ (v374 : Value).ownBlock ∧ some k_ ≠ (v378 : Value).ownBlock ∧ some k_ ≠ (.slice Ao49 t380.length co49 : Value).ownBlock ∧ some k_ ≠ (v385 : Value).ownBlock ∧ some k_ ≠ (v389 : Value).ownBlock) (Kd.R_N (Kd.R_bound ho0)) (fun k_ hk_ => ⟨(Kd.fresh' (Kd.R_lt (by (with_reducible repeat (first | apply Kd.R_alloc | apply Kd.R_drewN | apply Kd.R_drew)); exact HO371.out)) k_ hk_.2.1), (Kd.fresh' (Kd.N_lt (by (with_reducible repeat (first | apply Kd.N_alloc | apply Kd.N_drewN | apply Kd.N_drew)); exact HO375.out)) k_ hk_.2.1), (Kd.fresh' (Kd.N_lt (by (with_reducible repeat (first | apply Kd.N_alloc | apply Kd.N_drewN | apply Kd.N_drew)); exact HO379.out)) k_ hk_.2.1), (Kd.fresh' (Kd.N_lt (by (with_reducible repeat (first | apply Kd.N_alloc | apply Kd.N_drewN | apply Kd.N_drew)); exact HO382.out)) k_ hk_.2.1), (Kd.fresh' (Kd.R_lt (by (with_reducible repeat (first | apply Kd.R_alloc | apply Kd.R_drewN | apply Kd.R_drew)); exact HO386.out)) k_ hk_.2.1), (Kd.fresh' (Kd.R_lt (by (with_reducible repeat (first | apply Kd.R_alloc | apply Kd.R_drewN | apply Kd.R_drew)); exact HO390.out)) k_ hk_.2.1)⟩)) (below_size (by repeat (first | (with_reducible first | exact HB.out | apply below_alloc | apply pw_below_drewN | apply below_drew1) | exact HB.out)))); have n7_ := Aside0.mk (below_step (by repeat (first | (with_reducible first | exact HB.out | apply below_alloc | apply pw_below_drewN | apply below_drew1) | exact HB.out)) hb); clear HO371; clear HO375; clear HO379; clear HO382; clear HO386; clear HO390; clear HB; have HO371 := n0_; have HO375 := n1_; have HO379 := n2_; have HO382 := n3_; have HO386 := n4_; have HO390 := n5_; have HO394 := n6_; have HB := n7_; clear n0_ n1_ n2_ n3_ n4_ n5_ n6_ n7_; (try clear hb); (try clear hb2); (try clear hk); (try clear hi); (try clear ho0)) | ((with_reducible refine gate_callee (f := 45) rfl ?_); refine goesL_ (some 77) rfl rfl Try.func45 (by kernel_rfl) rfl #[.slice A2 l2.length c2, .int .i64 a3, .int .i64 a4] rfl (by (try simp only [List.map_toArray, List.map_cons, List.map_nil]); first | done | rfl | (simp only [List.length_drop, List.length_take]; rfl)) ?_; (with_reducible refine (wayfinderref14_Column.calls kj7 _ _ l2 a3 a4 t395 t398 _ ?side1 ?side2 A21.out).mono ?_); (case side1 => repeat (first | exact (Kd.C_below HR2.out HB.out) | (with_reducible refine Kd.C_alloc ?_ _) | (with_reducible refine Kd.C_drewN ?_ _) | (with_reducible refine Kd.C_drew ?_))); (case side2 => exact HC2.out); rintro e w53 ⟨v396, rfl, ho0, hb⟩; refine ⟨_, rfl, ?_⟩; have n0_ := Aside0.mk (Kd.R_below (by (with_reducible repeat (first | apply Kd.R_alloc | apply Kd.R_drewN | apply Kd.R_drew)); exact HO371.out) hb); have n1_ := Aside0.mk (Kd.N_elder' (by (with_reducible repeat (first | apply Kd.N_alloc | apply Kd.N_drewN | apply Kd.N_drew)); exact HO375.out) (by first | exact Kd.R_base ho0 | exact Kd.N_base ho0) hb); have n2_ := Aside0.mk (Kd.N_elder' (by (with_reducible repeat (first | apply Kd.N_alloc | apply Kd.N_drewN | apply Kd.N_drew)); exact HO379.out) (by first | exact Kd.R_base ho0 | exact Kd.N_base ho0) hb); have n3_ := Aside0.mk (Kd.N_elder' (by (with_reducible repeat (first | apply Kd.N_alloc | apply Kd.N_drewN | apply Kd.N_drew)); exact HO382.out) (by first | exact Kd.R_base ho0 | exact Kd.N_base ho0) hb); have n4_ := Aside0.mk (Kd.R_below (by (with_reducible repeat (first | apply Kd.R_alloc | apply Kd.R_drewN | apply Kd.R_drew)); exact HO386.out) hb); have n5_ := Aside0.mk (Kd.R_below (by (with_reducible repeat (first | apply Kd.R_alloc | apply Kd.R_drewN | apply Kd.R_drew)); exact HO390.out) hb); have n6_ := Aside0.mk (Kd.N_elder' (by (with_reducible repeat (first | apply Kd.N_alloc | apply Kd.N_drewN | apply Kd.N_drew)); exact HO394.out) (by first | exact Kd.R_base ho0 | exact Kd.N_base ho0) hb); have n7_ := Aside0.mk (Kd.N_lower (Kd.N_mono (ok' := fun k_ => some k_ ≠ (.slice Ao45 t369.length co45 : Value).ownBlock ∧ some k_ ≠ (v374 : Value).ownBlock ∧ some k_ ≠ (v378 : Value).ownBlock ∧ some k_ ≠ (.slice Ao49 t380.length co49 : Value).ownBlock ∧ some k_ ≠ (v385 : Value).ownBlock ∧ some k_ ≠ (v389 : Value).ownBlock ∧ some k_ ≠ (v393 : Value).ownBlock) ho0 (fun k_ hk_ => ⟨(Kd.fresh' (Kd.R_lt (by (with_reducible repeat (first | apply Kd.R_alloc | apply Kd.R_drewN | apply Kd.R_drew)); exact HO371.out)) k_ hk_), (Kd.fresh' (Kd.N_lt (by (with_reducible repeat (first | apply Kd.N_alloc | apply Kd.N_drewN | apply Kd.N_drew)); exact HO375.out)) k_ hk_), (Kd.fresh' (Kd.N_lt (by (with_reducible repeat (first | apply Kd.N_alloc | apply Kd.N_drewN | apply Kd.N_drew)); exact HO379.out)) k_ hk_), (Kd.fresh' (Kd.N_lt (by (with_reducible repeat (first | apply Kd.N_alloc | apply Kd.N_drewN | apply Kd.N_drew)); exact HO382.out)) k_ hk_), (Kd.fresh' (Kd.R_lt (by (with_reducible repeat (first | apply Kd.R_alloc | apply Kd.R_drewN | apply Kd.R_drew)); exact HO386.out)) k_ hk_), (Kd.fresh' (Kd.R_lt (by (with_reducible repeat (first | apply Kd.R_alloc | apply Kd.R_drewN | apply Kd.R_drew)); exact HO390.out)) k_ hk_), (Kd.fresh' (Kd.N_lt (by (with_reducible repeat (first | apply Kd.N_alloc | apply Kd.N_drewN | apply Kd.N_drew)); exact HO394.out)) k_ hk_)⟩)) (below_size (by repeat (first | (with_reducible first | exact HB.out | apply below_alloc | apply pw_below_drewN | apply below_drew1) | exact HB.out)))); have n8_ := Aside0.mk (below_step (by repeat (first | (with_reducible first | exact HB.out | apply below_alloc | apply pw_below_drewN | apply below_drew1) | exact HB.out)) hb); clear HO371; clear HO375; clear HO379; clear HO382; clear HO386; clear HO390; clear HO394; clear HB; have HO371 := n0_; have HO375 := n1_; have HO379 := n2_; have HO382 := n3_; have HO386 := n4_; have HO390 := n5_; have HO394 := n6_; have HO397 := n7_; have HB := n8_; clear n0_ n1_ n2_ n3_ n4_ n5_ n6_ n7_ n8_; (try clear hb); (try clear hb2); (try clear hk); (try clear hi); (try clear ho0)) | ((with_reducible refine gate_callee (f := 32) rfl ?_); refine goesL_ (some 84) rfl rfl Try.func32 (by kernel_rfl) rfl #[.slice A0 l0.length c0, .slice A1 l1.length c1, .int .i64 a3] rfl (by (try simp only [List.map_toArray, List.map_cons, List.map_nil]); first | done | rfl | (simp only [List.length_drop, List.length_take]; rfl)) ?_; (with_reducible refine (part_Dist.calls kj7 _ _ l0 _ _ l1 a3 t399 t400 _ ?side1 ?side2 ?side3 ?side4 A22.out).mono ?_); (case side1 => repeat (first | exact (Kd.C_below HR0.out HB.out) | (with_reducible refine Kd.C_alloc ?_ _) | (with_reducible refine Kd.C_drewN ?_ _) | (with_reducible refine Kd.C_drew ?_))); (case side2 => exact HC0.out); (case side3 => repeat (first | exact (Kd.C_below HR1.out HB.out) | (with_reducible refine Kd.C_alloc ?_ _) | (with_reducible refine Kd.C_drewN ?_ _) | (with_reducible refine Kd.C_drew ?_))); (case side4 => exact HC1.out); rintro e w54 ⟨v401, rfl, ho0, hb⟩; refine ⟨_, rfl, ?_⟩; have n0_ := Aside0.mk (Kd.R_below (by (with_reducible repeat (first | apply Kd.R_alloc | apply Kd.R_drewN | apply Kd.R_drew)); exact HO371.out) hb); have n1_ := Aside0.mk (Kd.N_elder' (by (with_reducible repeat (first | apply Kd.N_alloc | apply Kd.N_drewN | apply Kd.N_drew)); exact HO375.out) (Kd.R_base ho0) hb); have n2_ := Aside0.mk (Kd.N_elder' (by (with_reducible repeat (first | apply Kd.N_alloc | apply Kd.N_drewN | apply Kd.N_drew)); exact HO379.out) (Kd.R_base ho0) hb); have n3_ := Aside0.mk (Kd.N_elder' (by (with_reducible repeat (first | apply Kd.N_alloc | apply Kd.N_drewN | apply Kd.N_drew)); exact HO382.out) (Kd.R_base ho0) hb); have n4_ := Aside0.mk (Kd.R_below (by (with_reducible repeat (first | apply Kd.R_alloc | apply Kd.R_drewN | apply Kd.R_drew)); exact HO386.out) hb); have n5_ := Aside0.mk (Kd.R_below (by (with_reducible repeat (first | apply Kd.R_alloc | apply Kd.R_drewN | apply Kd.R_drew)); exact HO390.out) hb); have n6_ := Aside0.mk (Kd.N_elder' (by (with_reducible repeat (first | apply Kd.N_alloc | apply Kd.N_drewN | apply Kd.N_drew)); exact HO394.out) (Kd.R_base ho0) hb); have n7_ := Aside0.mk (Kd.N_elder' (by (with_reducible repeat (first | apply Kd.N_alloc | apply Kd.N_drewN | apply Kd.N_drew)); exact HO397.out) (Kd.R_base ho0) hb); have n8_ := Aside0.mk (Kd.R_lower ho0 (below_size (by repeat (first | (with_reducible first | exact HB.out | apply below_alloc | apply pw_below_drewN | apply below_drew1) | exact HB.out)))); have n9_ := Aside0.mk (below_step (by repeat (first | (with_reducible first | exact HB.out | apply below_alloc | apply pw_below_drewN | apply below_drew1) | exact HB.out)) hb); clear HO371; clear HO375; clear HO379; clear HO382; clear HO386; clear HO390; clear HO394; clear HO397; clear HB; have HO371 := n0_; have HO375 := n1_; have HO379 := n2_; have HO382 := n3_; have HO386 := n4_; have HO390 := n5_; have HO394 := n6_; have HO397 := n7_; have HO402 := n8_; have HB := n9_; clear n0_ n1_ n2_ n3_ n4_ n5_ n6_ n7_ n8_ n9_; (try clear hb); (try clear hb2); (try clear hk); (try clear hi); (try clear ho0)) | ((with_reducible refine gate_callee (f := 46) rfl ?_); refine goesL_ (some 91) rfl rfl Try.func46 (by kernel_rfl) rfl #[.slice A0 l0.length c0, .slice A1 l1.length c1, .int .i64 a3] rfl (by (try simp only [List.map_toArray, List.map_cons, List.map_nil]); first | done | rfl | (simp only [List.length_drop, List.length_take]; rfl)) ?_; (with_reducible refine (wayfinderref14_Dist.calls kj7 _ _ l0 _ _ l1 a3 t403 t404 _ ?side1 ?side2 ?side3 ?side4 A23.out).mono ?_); (case side1 => repeat (first | exact (Kd.C_below HR0.out HB.out) | (with_reducible refine Kd.C_alloc ?_ _) | (with_reducible refine Kd.C_drewN ?_ _) | (with_reducible refine Kd.C_drew ?_))); (case side2 => exact HC0.out); (case side3 => repeat (first | exact (Kd.C_below HR1.out HB.out) | (with_reducible refine Kd.C_alloc ?_ _) | (with_reducible refine Kd.C_drewN ?_ _) | (with_reducible refine Kd.C_drew ?_))); (case side4 => exact HC1.out); rintro e w55 ⟨v405, rfl, ho0, hb⟩; refine ⟨_, rfl, ?_⟩; have n0_ := Aside0.mk (Kd.R_below (by (with_reducible repeat (first | apply Kd.R_alloc | apply Kd.R_drewN | apply Kd.R_drew)); exact HO371.out) hb); have n1_ := Aside0.mk (Kd.N_elder' (by (with_reducible repeat (first | apply Kd.N_alloc | apply Kd.N_drewN | apply Kd.N_drew)); exact HO375.out) (Kd.R_base ho0) hb); have n2_ := Aside0.mk (Kd.N_elder' (by (with_reducible repeat (first | apply Kd.N_alloc | apply Kd.N_drewN | apply Kd.N_drew)); exact HO379.out) (Kd.R_base ho0) hb); have n3_ := Aside0.mk (Kd.N_elder' (by (with_reducible repeat (first | apply Kd.N_alloc | apply Kd.N_drewN | apply Kd.N_drew)); exact HO382.out) (Kd.R_base ho0) hb); have n4_ := Aside0.mk (Kd.R_below (by (with_reducible repeat (first | apply Kd.R_alloc | apply Kd.R_drewN | apply Kd.R_drew)); exact HO386.out) hb); have n5_ := Aside0.mk (Kd.R_below (by (with_reducible repeat (first | apply Kd.R_alloc | apply Kd.R_drewN | apply Kd.R_drew)); exact HO390.out) hb); have n6_ := Aside0.mk (Kd.N_elder' (by (with_reducible repeat (first | apply Kd.N_alloc | apply Kd.N_drewN | apply Kd.N_drew)); exact HO394.out) (Kd.R_base ho0) hb); have n7_ := Aside0.mk (Kd.N_elder' (by (with_reducible repeat (first | apply Kd.N_alloc | apply Kd.N_drewN | apply Kd.N_drew)); exact HO397.out) (Kd.R_base ho0) hb); have n8_ := Aside0.mk (Kd.R_elder' (by (with_reducible repeat (first | apply Kd.R_alloc | apply Kd.R_drewN | apply Kd.R_drew)); exact HO402.out) (Kd.R_base ho0) hb); have n9_ := Aside0.mk (Kd.R_lower (Kd.R_new' ho0 (Kd.R_lt (by (with_reducible repeat (first | apply Kd.R_alloc | apply Kd.R_drewN | apply Kd.R_drew)); exact HO402.out))) (below_size (by repeat (first | (with_reducible first | exact HB.out | apply below_alloc | apply pw_below_drewN | apply below_drew1) | exact HB.out)))); have n10_ := Aside0.mk (below_step (by repeat (first | (with_reducible first | exact HB.out | apply below_alloc | apply pw_below_drewN | apply below_drew1) | exact HB.out)) hb); clear HO371; clear HO375; clear HO379; clear HO382; clear HO386; clear HO390; clear HO394; clear HO397; clear HO402; clear HB; have HO371 := n0_; have HO375 := n1_; have HO379 := n2_; have HO382 := n3_; have HO386 := n4_; have HO390 := n5_; have HO394 := n6_; have HO397 := n7_; have HO402 := n8_; have HO406 := n9_; have HB := n10_; clear n0_ n1_ n2_ n3_ n4_ n5_ n6_ n7_ n8_ n9_ n10_; (try clear hb); (try clear hb2); (try clear hk); (try clear hi); (try clear ho0); obtain ⟨Ao56, co56, eo56⟩ := Kd.N_slice HO375.out; subst eo56; obtain ⟨Ao57, co57, eo57⟩ := Kd.N_slice HO379.out; subst eo57) | ((with_reducible refine gate_callee (f := 34) rfl ?_); refine goesL_ (some 96) rfl rfl Try.func34 (by kernel_rfl) rfl #[.slice Ao56 t372.length co56, .slice Ao57 t376.length co57] rfl (by (try simp only [List.map_toArray, List.map_cons, List.map_nil]); first | done | rfl | (simp only [List.length_drop, List.length_take]; rfl)) ?_; (with_reducible refine (wayfinderkit_Lists_int32.calls kj7 _ _ t372 _ _ t376 true _ ?side1 ?side2 ?side3 ?side4 A24.out).mono ?_); (case side1 => repeat (first | exact (Kd.N_reads' HO375.out).2.2 | (with_reducible refine Kd.C_alloc ?_ _) | (with_reducible refine Kd.C_drewN ?_ _) | (with_reducible refine Kd.C_drew ?_))); (case side2 => exact (Kd.N_reads' HO375.out).2.1); (case side3 => repeat (first | exact (Kd.N_reads' HO379.out).2.2 | (with_reducible refine Kd.C_alloc ?_ _) | (with_reducible refine Kd.C_drewN ?_ _) | (with_reducible refine Kd.C_drew ?_))); (case side4 => exact (Kd.N_reads' HO379.out).2.1); rintro e w' ⟨rfl, ⟨nd, rfl⟩⟩; refine ⟨_, rfl, ?_⟩; obtain ⟨Ao58, co58, eo58⟩ := Kd.R_slice HO386.out; subst eo58; obtain ⟨Ao59, co59, eo59⟩ := Kd.R_slice HO390.out; subst eo59) | (go_at_call 34; (with_reducible refine (wayfinderkit_Lists_int32.calls kj7 _ _ t372 _ _ t376 true _ ?side1 ?side2 ?side3 ?side4 A24.out).mono ?_); (case side1 => repeat (first | exact (Kd.N_reads' HO375.out).2.2 | (with_reducible refine Kd.C_alloc ?_ _) | (with_reducible refine Kd.C_drewN ?_ _) | (with_reducible refine Kd.C_drew ?_))); (case side2 => exact (Kd.N_reads' HO375.out).2.1); (case side3 => repeat (first | exact (Kd.N_reads' HO379.out).2.2 | (with_reducible refine Kd.C_alloc ?_ _) | (with_reducible refine Kd.C_drewN ?_ _) | (with_reducible refine Kd.C_drew ?_))); (case side4 => exact (Kd.N_reads' HO379.out).2.1); rintro e w' ⟨rfl, ⟨nd, rfl⟩⟩; obtain ⟨Ao58, co58, eo58⟩ := Kd.R_slice HO386.out; subst eo58; obtain ⟨Ao59, co59, eo59⟩ := Kd.R_slice HO390.out; subst eo59) | (go_at_call 21; (with_reducible refine (wayfinderkit_Same_int32.calls kj7 _ _ t383 _ _ t387 true _ ?side1 ?side2 ?side3 ?side4 A27.out).mono ?_); (case side1 => repeat (first | exact (Kd.R_reads' HO386.out).2.2 | (with_reducible refine Kd.C_alloc ?_ _) | (with_reducible refine Kd.C_drewN ?_ _) | (with_reducible refine Kd.C_drew ?_))); (case side2 => exact (Kd.R_reads' HO386.out).2.1); (case side3 => repeat (first | exact (Kd.R_reads' HO390.out).2.2 | (with_reducible refine Kd.C_alloc ?_ _) | (with_reducible refine Kd.C_drewN ?_ _) | (with_reducible refine Kd.C_drew ?_))); (case side4 => exact (Kd.R_reads' HO390.out).2.1); rintro e w' ⟨rfl, ⟨nd, rfl⟩⟩; obtain ⟨Ao60, co60, eo60⟩ := Kd.N_slice HO394.out; subst eo60; obtain ⟨Ao61, co61, eo61⟩ := Kd.N_slice HO397.out; subst eo61) | (go_at_call 34; (with_reducible refine (wayfinderkit_Lists_int32.calls kj7 _ _ t391 _ _ t395 true _ ?side1 ?side2 ?side3 ?side4 A30.out).mono ?_); (case side1 => repeat (first | exact (Kd.N_reads' HO394.out).2.2 | (with_reducible refine Kd.C_alloc ?_ _) | (with_reducible refine Kd.C_drewN ?_ _) | (with_reducible refine Kd.C_drew ?_))); (case side2 => exact (Kd.N_reads' HO394.out).2.1); (case side3 => repeat (first | exact (Kd.N_reads' HO397.out).2.2 | (with_reducible refine Kd.C_alloc ?_ _) | (with_reducible refine Kd.C_drewN ?_ _) | (with_reducible refine Kd.C_drew ?_))); (case side4 => exact (Kd.N_reads' HO397.out).2.1); rintro e w' ⟨rfl, ⟨nd, rfl⟩⟩; obtain ⟨Ao62, co62, eo62⟩ := Kd.R_slice HO402.out; subst eo62; obtain ⟨Ao63, co63, eo63⟩ := Kd.R_slice HO406.out; subst eo63) | (go_at_call 47; (with_reducible refine (wayfinderkit_Same_int64.calls kj7 _ _ t399 _ _ t403 true _ ?side1 ?side2 ?side3 ?side4 A33.out).mono ?_); (case side1 => repeat (first | exact (Kd.R_reads' HO402.out).2.2 | (with_reducible refine Kd.C_alloc ?_ _) | (with_reducible refine Kd.C_drewN ?_ _) | (with_reducible refine Kd.C_drew ?_))); (case side2 => exact (Kd.R_reads' HO402.out).2.1); (case side3 => repeat (first | exact (Kd.R_reads' HO406.out).2.2 | (with_reducible refine Kd.C_alloc ?_ _) | (with_reducible refine Kd.C_drewN ?_ _) | (with_reducible refine Kd.C_drew ?_))); (case side4 => exact (Kd.R_reads' HO406.out).2.1); rintro e w' ⟨rfl, ⟨nd, rfl⟩⟩) | (go_at_call 41; (with_reducible refine (part_Check.calls (l0.length : Int) a3 t411 _ A36.out).mono ?_); rintro e w' ⟨rfl, ⟨nd, rfl⟩⟩) | (go_at_call 48; (with_reducible refine (wayfinderref14_Check.calls (l0.length : Int) a3 t412 _ A37.out).mono ?_); rintro e w' ⟨rfl, ⟨nd, rfl⟩⟩) | (go_at_call 41; (with_reducible refine (part_Check.calls a4 a3 t413 _ A39.out).mono ?_); rintro e w' ⟨rfl, ⟨nd, rfl⟩⟩) | (go_at_call 48; (with_reducible refine (wayfinderref14_Check.calls a4 a3 t414 _ A40.out).mono ?_); rintro e w' ⟨rfl, ⟨nd, rfl⟩⟩) | (go_at_call 31; (with_reducible refine (part_Width.calls a4 a3 t415 _ A42.out).mono ?_); rintro e w' ⟨rfl, ⟨nd, rfl⟩⟩) | (go_at_call 49; (with_reducible refine (wayfinderref14_Width.calls a4 a3 t416 _ A43.out).mono ?_); rintro e w' ⟨rfl, ⟨nd, rfl⟩⟩))
                              go_ret
                              exact ⟨by first | rfl | (simp [errW_none, errW_some] <;> rfl) | (simp [*, errW_none, errW_some] <;> rfl), by repeat (first | (with_reducible first | exact HB.out | apply below_alloc | apply pw_below_drewN | apply below_drew1) | exact HB.out)⟩
                            · rw [if_neg c41] at H
                              exact absurd H (by simp)
                          · rw [if_neg c38] at H
                            exact absurd H (by simp)
                        · rw [if_neg c35] at H
                          exact absurd H (by simp)
                      · replace c34 := Bool.eq_false_iff.mpr c34
                        subst c34
                        have H1 : (none) = some r := by rw [if_neg (show ¬ (false = true) by decide)] at H; exact H
                        clear H
                        have H := H1
                        clear H1
                        exact absurd H (by simp)
                    · rw [if_neg c32] at H
                      exact absurd H (by simp)
                  · replace c31 := Bool.eq_false_iff.mpr c31
                    subst c31
                    have H1 : (none) = some r := by rw [if_neg (show ¬ (false = true) by decide)] at H; exact H
                    clear H
                    have H := H1
                    clear H1
                    exact absurd H (by simp)
                · rw [if_neg c29] at H
                  exact absurd H (by simp)
              · replace c28 := Bool.eq_false_iff.mpr c28
                subst c28
                have H1 : (none) = some r := by rw [if_neg (show ¬ (false = true) by decide)] at H; exact H
                clear H
                have H := H1
                clear H1
                exact absurd H (by simp)
            · rw [if_neg c26] at H
              exact absurd H (by simp)
          · replace c25 := Bool.eq_false_iff.mpr c25
            subst c25
            have H1 : (none) = some r := by rw [if_neg (show ¬ (false = true) by decide)] at H; exact H
            clear H
            have H := H1
            clear H1
            exact absurd H (by simp)
  · replace c7 := Bool.eq_false_iff.mpr c7
    subst c7
    have H1 : (none) = some r := by rw [if_neg (show ¬ (false = true) by decide)] at H; exact H
    clear H
    have H := H1
    clear H1
    exact absurd H (by simp)

end Go.Proofs.Yticpdlaiindlfaa.Pa
