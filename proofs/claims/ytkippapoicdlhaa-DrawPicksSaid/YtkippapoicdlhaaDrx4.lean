/- Lean functions with the answers of Go functions, and the proofs that the Go code comes to them (printed by wip/gen/hyb.py). -/
import Derived.Test.YtkippapoicdlhaaDrx0
import Derived.Test.YtkippapoicdlhaaDrx1
import Derived.Test.YtkippapoicdlhaaDistinct
import Derived.Test.YtkippapoicdlhaaPicks
namespace Go.Proofs.Ytkippapoicdlhaa.Dr
open Go.RowKit Go.Proofs.YtkippapoicdlhaaW.PrintWords Go.Proofs.YtkippapoicdlhaaW.PrintLast Go.Proofs.YtkippapoicdlhaaW.PrintMore
attribute [local go_sem] max2_int min2_int max_two min_two max_three min_three max_four min_four   -- for this text's walks alone
set_option linter.unusedVariables false
set_option linter.unusedSimpArgs false

/-! ### wayfinderlaw11_DrawPicks: function 5 -/
mutual
def wayfinderlaw11_DrawPicks.j0 : Nat → Int → Int → List Int → Bool → Option (Bool)
  | 0, _, _, _, _ => none
  | k + 1, x1, x2, x9, x76 => if x76 = true then (some false) else (wayfinderlaw11_DrawPicks.l0 k x1 x2 x9 0)
def wayfinderlaw11_DrawPicks.l0 : Nat → Int → Int → List Int → Int → Option (Bool)
  | 0, _, _, _, _ => none
  | k + 1, x1, x2, x9, x13 => if x13 < x2 then (if 0 ≤ x13 then (if x13 < (x9.length : Int) then (if (rd x9 x13) < 0 then (some false) else (if (rd x9 x13) ≥ x1 then (some false) else (if x13 ≥ x1 then (if 0 ≤ (wrap64 (x13 - x1)) then (if (wrap64 (x13 - x1)) < (x9.length : Int) then (if (rd x9 x13) = (rd x9 (wrap64 (x13 - x1))) then (wayfinderlaw11_DrawPicks.l0 k x1 x2 x9 (wrap64 (x13 + 1))) else (some false)) else (none)) else (none)) else (wayfinderlaw11_DrawPicks.l0 k x1 x2 x9 (wrap64 (x13 + 1)))))) else (none)) else (none)) else (some true)
end
def wayfinderlaw11_DrawPicks.f (k : Nat) (l0 : List Int) (a1 : Int) (a2 : Int) (a3 : Int) : Option (Bool) := (wayfinderlaw11_lives.f k).bind fun t197 => (if t197 = true then (if (l0.length : Int) > 300 then (some true) else ((wayfinderkit_Pick.f a1 300).bind fun t198 => ((wayfinderkit_Pick.f a2 600).bind fun t199 => ((wayfinderkit_Pick.f a3 (wrap64 (t199 + 1))).bind fun t200 => ((draw_Picks.f l0 (wrap64 (1 + t198)) t199).bind fun bt201 => ((draw_Picks.f l0 (wrap64 (1 + t198)) t200).bind fun bt205 => (if bt201.2 = 0 then (if bt205.2 = 0 then (if (bt201.1.length : Int) = t199 then (if (bt205.1.length : Int) = t200 then (if 0 ≤ t200 then (if t200 ≤ (bt201.1.length : Int) then ((wayfinderkit_Same_int.f k bt205.1 (bt201.1.take (t200 : Int).toNat)).bind fun t214 => (if t214 = true then (if 0 ≤ (mn (wrap64 (1 + t198)) t199) then (if (mn (wrap64 (1 + t198)) t199) ≤ (bt201.1.length : Int) then ((draw_Distinct.f (bt201.1.take ((mn (wrap64 (1 + t198)) t199) : Int).toNat)).bind fun t220 => (wayfinderlaw11_DrawPicks.j0 k (wrap64 (1 + t198)) t199 bt201.1 (!t220))) else (none)) else (none)) else (wayfinderlaw11_DrawPicks.j0 k (wrap64 (1 + t198)) t199 bt201.1 true))) else (none)) else (none)) else (wayfinderlaw11_DrawPicks.j0 k (wrap64 (1 + t198)) t199 bt201.1 true)) else (wayfinderlaw11_DrawPicks.j0 k (wrap64 (1 + t198)) t199 bt201.1 true)) else (wayfinderlaw11_DrawPicks.j0 k (wrap64 (1 + t198)) t199 bt201.1 true)) else (wayfinderlaw11_DrawPicks.j0 k (wrap64 (1 + t198)) t199 bt201.1 true)))))))) else (some false))
theorem wayfinderlaw11_DrawPicks.mono_l : ∀ k, (∀ y0 y1 y2 y3, LeO (wayfinderlaw11_DrawPicks.j0 k y0 y1 y2 y3) (wayfinderlaw11_DrawPicks.j0 (k + 1) y0 y1 y2 y3)) ∧ (∀ y0 y1 y2 y3, LeO (wayfinderlaw11_DrawPicks.l0 k y0 y1 y2 y3) (wayfinderlaw11_DrawPicks.l0 (k + 1) y0 y1 y2 y3))
  | 0 => ⟨fun _ _ _ _ r h => by simp [wayfinderlaw11_DrawPicks.j0] at h, fun _ _ _ _ r h => by simp [wayfinderlaw11_DrawPicks.l0] at h⟩
  | k + 1 => by
    obtain ⟨ih0, ih1⟩ := wayfinderlaw11_DrawPicks.mono_l k
    refine ⟨?_, ?_⟩
    · intro y0 y1 y2 y3
      unfold wayfinderlaw11_DrawPicks.j0
      repeat' first
      | (with_reducible exact ih0 _ _ _ _)
      | (with_reducible exact ih1 _ _ _ _)
      | (with_reducible exact wayfinderkit_Same_int.mono _ _ _)
      | (with_reducible exact wayfinderlaw11_lives.mono _)
      | (with_reducible exact LeO.refl _)
      | (with_reducible exact LeO.none _)
      | (with_reducible refine LeO.ite ?_ ?_)
      | (with_reducible refine LeO.bind ?_ (fun _ => ?_))
      | exact ih0 _ _ _ _
      | exact ih1 _ _ _ _
      | exact wayfinderkit_Same_int.mono _ _ _
      | exact wayfinderlaw11_lives.mono _
      | exact LeO.none _
      | refine LeO.ite ?_ ?_
      | refine LeO.bind ?_ (fun _ => ?_)
    · intro y0 y1 y2 y3
      unfold wayfinderlaw11_DrawPicks.l0
      repeat' first
      | (with_reducible exact ih0 _ _ _ _)
      | (with_reducible exact ih1 _ _ _ _)
      | (with_reducible exact wayfinderkit_Same_int.mono _ _ _)
      | (with_reducible exact wayfinderlaw11_lives.mono _)
      | (with_reducible exact LeO.refl _)
      | (with_reducible exact LeO.none _)
      | (with_reducible refine LeO.ite ?_ ?_)
      | (with_reducible refine LeO.bind ?_ (fun _ => ?_))
      | exact ih0 _ _ _ _
      | exact ih1 _ _ _ _
      | exact wayfinderkit_Same_int.mono _ _ _
      | exact wayfinderlaw11_lives.mono _
      | exact LeO.none _
      | refine LeO.ite ?_ ?_
      | refine LeO.bind ?_ (fun _ => ?_)
theorem wayfinderlaw11_DrawPicks.mono : ∀ a0 a1 a2 a3 k, LeO (wayfinderlaw11_DrawPicks.f k a0 a1 a2 a3) (wayfinderlaw11_DrawPicks.f (k + 1) a0 a1 a2 a3) := by
  intro a0 a1 a2 a3 k
  obtain ⟨ih0, ih1⟩ := wayfinderlaw11_DrawPicks.mono_l k
  unfold wayfinderlaw11_DrawPicks.f
  repeat' first
      | (with_reducible exact ih0 _ _ _ _)
      | (with_reducible exact ih1 _ _ _ _)
      | (with_reducible exact wayfinderkit_Same_int.mono _ _ _)
      | (with_reducible exact wayfinderlaw11_lives.mono _)
      | (with_reducible exact LeO.refl _)
      | (with_reducible exact LeO.none _)
      | (with_reducible refine LeO.ite ?_ ?_)
      | (with_reducible refine LeO.bind ?_ (fun _ => ?_))
      | exact ih0 _ _ _ _
      | exact ih1 _ _ _ _
      | exact wayfinderkit_Same_int.mono _ _ _
      | exact wayfinderlaw11_lives.mono _
      | exact LeO.none _
      | refine LeO.ite ?_ ?_
      | refine LeO.bind ?_ (fun _ => ?_)
set_option maxHeartbeats 8000000 in
set_option maxRecDepth 100000 in
theorem wayfinderlaw11_DrawPicks.calls (k : Nat) (A0 : Option Addr) (c0 : Nat) (l0 : List Int) (a1 : Int) (a2 : Int) (a3 : Int) (r : Bool) (w : World) (hr0 : Kd.C (Kd.int .u64) w A0 l0.length l0) (hc0 : l0.length ≤ c0) (h : wayfinderlaw11_DrawPicks.f k l0 a1 a2 a3 = some r) :
    Calls Try.prog 5 #[.slice A0 l0.length c0, .int .i64 a1, .int .i64 a2, .int .i64 a3] w fun e w' => e = .returned (.bool r) ∧ Below w.heap.size w w' := by
  have HR0 := Aside0.mk hr0
  have HC0 := Aside0.mk hc0
  clear hr0 hc0
  have HB := Aside0.mk (Below.refl w.heap.size w)
  have H : ((wayfinderlaw11_lives.f k).bind fun t197 => (if t197 = true then (if (l0.length : Int) > 300 then (some true) else ((wayfinderkit_Pick.f a1 300).bind fun t198 => ((wayfinderkit_Pick.f a2 600).bind fun t199 => ((wayfinderkit_Pick.f a3 (wrap64 (t199 + 1))).bind fun t200 => ((draw_Picks.f l0 (wrap64 (1 + t198)) t199).bind fun bt201 => ((draw_Picks.f l0 (wrap64 (1 + t198)) t200).bind fun bt205 => (if bt201.2 = 0 then (if bt205.2 = 0 then (if (bt201.1.length : Int) = t199 then (if (bt205.1.length : Int) = t200 then (if 0 ≤ t200 then (if t200 ≤ (bt201.1.length : Int) then ((wayfinderkit_Same_int.f k bt205.1 (bt201.1.take (t200 : Int).toNat)).bind fun t214 => (if t214 = true then (if 0 ≤ (mn (wrap64 (1 + t198)) t199) then (if (mn (wrap64 (1 + t198)) t199) ≤ (bt201.1.length : Int) then ((draw_Distinct.f (bt201.1.take ((mn (wrap64 (1 + t198)) t199) : Int).toNat)).bind fun t220 => (wayfinderlaw11_DrawPicks.j0 k (wrap64 (1 + t198)) t199 bt201.1 (!t220))) else (none)) else (none)) else (wayfinderlaw11_DrawPicks.j0 k (wrap64 (1 + t198)) t199 bt201.1 true))) else (none)) else (none)) else (wayfinderlaw11_DrawPicks.j0 k (wrap64 (1 + t198)) t199 bt201.1 true)) else (wayfinderlaw11_DrawPicks.j0 k (wrap64 (1 + t198)) t199 bt201.1 true)) else (wayfinderlaw11_DrawPicks.j0 k (wrap64 (1 + t198)) t199 bt201.1 true)) else (wayfinderlaw11_DrawPicks.j0 k (wrap64 (1 + t198)) t199 bt201.1 true)))))))) else (some false))) = some r := h
  clear h
  replace H := Option.bind_eq_some_iff.mp H
  obtain ⟨t197, A50, H⟩ := H
  replace H : (if t197 = true then (if (l0.length : Int) > 300 then (some true) else ((wayfinderkit_Pick.f a1 300).bind fun t198 => ((wayfinderkit_Pick.f a2 600).bind fun t199 => ((wayfinderkit_Pick.f a3 (wrap64 (t199 + 1))).bind fun t200 => ((draw_Picks.f l0 (wrap64 (1 + t198)) t199).bind fun bt201 => ((draw_Picks.f l0 (wrap64 (1 + t198)) t200).bind fun bt205 => (if bt201.2 = 0 then (if bt205.2 = 0 then (if (bt201.1.length : Int) = t199 then (if (bt205.1.length : Int) = t200 then (if 0 ≤ t200 then (if t200 ≤ (bt201.1.length : Int) then ((wayfinderkit_Same_int.f k bt205.1 (bt201.1.take (t200 : Int).toNat)).bind fun t214 => (if t214 = true then (if 0 ≤ (mn (wrap64 (1 + t198)) t199) then (if (mn (wrap64 (1 + t198)) t199) ≤ (bt201.1.length : Int) then ((draw_Distinct.f (bt201.1.take ((mn (wrap64 (1 + t198)) t199) : Int).toNat)).bind fun t220 => (wayfinderlaw11_DrawPicks.j0 k (wrap64 (1 + t198)) t199 bt201.1 (!t220))) else (none)) else (none)) else (wayfinderlaw11_DrawPicks.j0 k (wrap64 (1 + t198)) t199 bt201.1 true))) else (none)) else (none)) else (wayfinderlaw11_DrawPicks.j0 k (wrap64 (1 + t198)) t199 bt201.1 true)) else (wayfinderlaw11_DrawPicks.j0 k (wrap64 (1 + t198)) t199 bt201.1 true)) else (wayfinderlaw11_DrawPicks.j0 k (wrap64 (1 + t198)) t199 bt201.1 true)) else (wayfinderlaw11_DrawPicks.j0 k (wrap64 (1 + t198)) t199 bt201.1 true)))))))) else (some false)) = some r := H
  have A5 := Aside0.mk A50
  clear A50
  by_cases c6 : t197 = true
  · subst c6
    have H1 : (if (l0.length : Int) > 300 then (some true) else ((wayfinderkit_Pick.f a1 300).bind fun t198 => ((wayfinderkit_Pick.f a2 600).bind fun t199 => ((wayfinderkit_Pick.f a3 (wrap64 (t199 + 1))).bind fun t200 => ((draw_Picks.f l0 (wrap64 (1 + t198)) t199).bind fun bt201 => ((draw_Picks.f l0 (wrap64 (1 + t198)) t200).bind fun bt205 => (if bt201.2 = 0 then (if bt205.2 = 0 then (if (bt201.1.length : Int) = t199 then (if (bt205.1.length : Int) = t200 then (if 0 ≤ t200 then (if t200 ≤ (bt201.1.length : Int) then ((wayfinderkit_Same_int.f k bt205.1 (bt201.1.take (t200 : Int).toNat)).bind fun t214 => (if t214 = true then (if 0 ≤ (mn (wrap64 (1 + t198)) t199) then (if (mn (wrap64 (1 + t198)) t199) ≤ (bt201.1.length : Int) then ((draw_Distinct.f (bt201.1.take ((mn (wrap64 (1 + t198)) t199) : Int).toNat)).bind fun t220 => (wayfinderlaw11_DrawPicks.j0 k (wrap64 (1 + t198)) t199 bt201.1 (!t220))) else (none)) else (none)) else (wayfinderlaw11_DrawPicks.j0 k (wrap64 (1 + t198)) t199 bt201.1 true))) else (none)) else (none)) else (wayfinderlaw11_DrawPicks.j0 k (wrap64 (1 + t198)) t199 bt201.1 true)) else (wayfinderlaw11_DrawPicks.j0 k (wrap64 (1 + t198)) t199 bt201.1 true)) else (wayfinderlaw11_DrawPicks.j0 k (wrap64 (1 + t198)) t199 bt201.1 true)) else (wayfinderlaw11_DrawPicks.j0 k (wrap64 (1 + t198)) t199 bt201.1 true)))))))) = some r := by rw [if_pos rfl] at H; exact H
    clear H
    have H := H1
    clear H1
    by_cases c7 : (l0.length : Int) > 300
    · rw [if_pos c7] at H
      have c7b0 : decide (300 < (l0.length : Int)) = true := decide_eq_true c7
      have c7b1 : decide (300 < l0.length) = true := decide_eq_true (by omega)
      clear c7
      obtain rfl := Option.some.inj H
      go_enter Try.func5, Try.ntmps5
      go_wp2_with (first | (go_at_call 13; (with_reducible refine (wayfinderlaw11_lives.calls k  true _ A5.out).mono ?_); rintro e w8 ⟨rfl, hb⟩; have n0_ := Aside0.mk (below_step (by repeat (first | (with_reducible first | exact HB.out | apply below_alloc | apply pw_below_drewN | apply below_drew1) | exact HB.out)) hb); clear HB; have HB := n0_; clear n0_; (try clear hb); (try clear hb2); (try clear hk); (try clear hi)))
      repeat (go_quiet (first | (go_at_call 13; (with_reducible refine (wayfinderlaw11_lives.calls k  true _ A5.out).mono ?_); rintro e w8 ⟨rfl, hb⟩; have n0_ := Aside0.mk (below_step (by repeat (first | (with_reducible first | exact HB.out | apply below_alloc | apply pw_below_drewN | apply below_drew1) | exact HB.out)) hb); clear HB; have HB := n0_; clear n0_; (try clear hb); (try clear hb2); (try clear hk); (try clear hi))); try go_wp2_with (first | (go_at_call 13; (with_reducible refine (wayfinderlaw11_lives.calls k  true _ A5.out).mono ?_); rintro e w8 ⟨rfl, hb⟩; have n0_ := Aside0.mk (below_step (by repeat (first | (with_reducible first | exact HB.out | apply below_alloc | apply pw_below_drewN | apply below_drew1) | exact HB.out)) hb); clear HB; have HB := n0_; clear n0_; (try clear hb); (try clear hb2); (try clear hk); (try clear hi))))
      go_ret
      exact ⟨by first | rfl | (simp [errW_none, errW_some] <;> rfl) | (simp [*, errW_none, errW_some] <;> rfl), by repeat (first | (with_reducible first | exact HB.out | apply below_alloc | apply pw_below_drewN | apply below_drew1) | exact HB.out)⟩
    · rw [if_neg c7] at H
      have c7b0 : decide (300 < (l0.length : Int)) = false := decide_eq_false c7
      have c7b1 : decide (300 < l0.length) = false := decide_eq_false (by omega)
      clear c7
      replace H := Option.bind_eq_some_iff.mp H
      obtain ⟨t198, A90, H⟩ := H
      replace H : ((wayfinderkit_Pick.f a2 600).bind fun t199 => ((wayfinderkit_Pick.f a3 (wrap64 (t199 + 1))).bind fun t200 => ((draw_Picks.f l0 (wrap64 (1 + t198)) t199).bind fun bt201 => ((draw_Picks.f l0 (wrap64 (1 + t198)) t200).bind fun bt205 => (if bt201.2 = 0 then (if bt205.2 = 0 then (if (bt201.1.length : Int) = t199 then (if (bt205.1.length : Int) = t200 then (if 0 ≤ t200 then (if t200 ≤ (bt201.1.length : Int) then ((wayfinderkit_Same_int.f k bt205.1 (bt201.1.take (t200 : Int).toNat)).bind fun t214 => (if t214 = true then (if 0 ≤ (mn (wrap64 (1 + t198)) t199) then (if (mn (wrap64 (1 + t198)) t199) ≤ (bt201.1.length : Int) then ((draw_Distinct.f (bt201.1.take ((mn (wrap64 (1 + t198)) t199) : Int).toNat)).bind fun t220 => (wayfinderlaw11_DrawPicks.j0 k (wrap64 (1 + t198)) t199 bt201.1 (!t220))) else (none)) else (none)) else (wayfinderlaw11_DrawPicks.j0 k (wrap64 (1 + t198)) t199 bt201.1 true))) else (none)) else (none)) else (wayfinderlaw11_DrawPicks.j0 k (wrap64 (1 + t198)) t199 bt201.1 true)) else (wayfinderlaw11_DrawPicks.j0 k (wrap64 (1 + t198)) t199 bt201.1 true)) else (wayfinderlaw11_DrawPicks.j0 k (wrap64 (1 + t198)) t199 bt201.1 true)) else (wayfinderlaw11_DrawPicks.j0 k (wrap64 (1 + t198)) t199 bt201.1 true)))))) = some r := H
      have A9 := Aside0.mk A90
      clear A90
      replace H := Option.bind_eq_some_iff.mp H
      obtain ⟨t199, A100, H⟩ := H
      replace H : ((wayfinderkit_Pick.f a3 (wrap64 (t199 + 1))).bind fun t200 => ((draw_Picks.f l0 (wrap64 (1 + t198)) t199).bind fun bt201 => ((draw_Picks.f l0 (wrap64 (1 + t198)) t200).bind fun bt205 => (if bt201.2 = 0 then (if bt205.2 = 0 then (if (bt201.1.length : Int) = t199 then (if (bt205.1.length : Int) = t200 then (if 0 ≤ t200 then (if t200 ≤ (bt201.1.length : Int) then ((wayfinderkit_Same_int.f k bt205.1 (bt201.1.take (t200 : Int).toNat)).bind fun t214 => (if t214 = true then (if 0 ≤ (mn (wrap64 (1 + t198)) t199) then (if (mn (wrap64 (1 + t198)) t199) ≤ (bt201.1.length : Int) then ((draw_Distinct.f (bt201.1.take ((mn (wrap64 (1 + t198)) t199) : Int).toNat)).bind fun t220 => (wayfinderlaw11_DrawPicks.j0 k (wrap64 (1 + t198)) t199 bt201.1 (!t220))) else (none)) else (none)) else (wayfinderlaw11_DrawPicks.j0 k (wrap64 (1 + t198)) t199 bt201.1 true))) else (none)) else (none)) else (wayfinderlaw11_DrawPicks.j0 k (wrap64 (1 + t198)) t199 bt201.1 true)) else (wayfinderlaw11_DrawPicks.j0 k (wrap64 (1 + t198)) t199 bt201.1 true)) else (wayfinderlaw11_DrawPicks.j0 k (wrap64 (1 + t198)) t199 bt201.1 true)) else (wayfinderlaw11_DrawPicks.j0 k (wrap64 (1 + t198)) t199 bt201.1 true))))) = some r := H
      have A10 := Aside0.mk A100
      clear A100
      replace H := Option.bind_eq_some_iff.mp H
      obtain ⟨t200, A110, H⟩ := H
      replace H : ((draw_Picks.f l0 (wrap64 (1 + t198)) t199).bind fun bt201 => ((draw_Picks.f l0 (wrap64 (1 + t198)) t200).bind fun bt205 => (if bt201.2 = 0 then (if bt205.2 = 0 then (if (bt201.1.length : Int) = t199 then (if (bt205.1.length : Int) = t200 then (if 0 ≤ t200 then (if t200 ≤ (bt201.1.length : Int) then ((wayfinderkit_Same_int.f k bt205.1 (bt201.1.take (t200 : Int).toNat)).bind fun t214 => (if t214 = true then (if 0 ≤ (mn (wrap64 (1 + t198)) t199) then (if (mn (wrap64 (1 + t198)) t199) ≤ (bt201.1.length : Int) then ((draw_Distinct.f (bt201.1.take ((mn (wrap64 (1 + t198)) t199) : Int).toNat)).bind fun t220 => (wayfinderlaw11_DrawPicks.j0 k (wrap64 (1 + t198)) t199 bt201.1 (!t220))) else (none)) else (none)) else (wayfinderlaw11_DrawPicks.j0 k (wrap64 (1 + t198)) t199 bt201.1 true))) else (none)) else (none)) else (wayfinderlaw11_DrawPicks.j0 k (wrap64 (1 + t198)) t199 bt201.1 true)) else (wayfinderlaw11_DrawPicks.j0 k (wrap64 (1 + t198)) t199 bt201.1 true)) else (wayfinderlaw11_DrawPicks.j0 k (wrap64 (1 + t198)) t199 bt201.1 true)) else (wayfinderlaw11_DrawPicks.j0 k (wrap64 (1 + t198)) t199 bt201.1 true)))) = some r := H
      have A11 := Aside0.mk A110
      clear A110
      replace H := Option.bind_eq_some_iff.mp H
      obtain ⟨⟨t201, t204⟩, A120, H⟩ := H
      replace H : ((draw_Picks.f l0 (wrap64 (1 + t198)) t200).bind fun bt205 => (if t204 = 0 then (if bt205.2 = 0 then (if (t201.length : Int) = t199 then (if (bt205.1.length : Int) = t200 then (if 0 ≤ t200 then (if t200 ≤ (t201.length : Int) then ((wayfinderkit_Same_int.f k bt205.1 (t201.take (t200 : Int).toNat)).bind fun t214 => (if t214 = true then (if 0 ≤ (mn (wrap64 (1 + t198)) t199) then (if (mn (wrap64 (1 + t198)) t199) ≤ (t201.length : Int) then ((draw_Distinct.f (t201.take ((mn (wrap64 (1 + t198)) t199) : Int).toNat)).bind fun t220 => (wayfinderlaw11_DrawPicks.j0 k (wrap64 (1 + t198)) t199 t201 (!t220))) else (none)) else (none)) else (wayfinderlaw11_DrawPicks.j0 k (wrap64 (1 + t198)) t199 t201 true))) else (none)) else (none)) else (wayfinderlaw11_DrawPicks.j0 k (wrap64 (1 + t198)) t199 t201 true)) else (wayfinderlaw11_DrawPicks.j0 k (wrap64 (1 + t198)) t199 t201 true)) else (wayfinderlaw11_DrawPicks.j0 k (wrap64 (1 + t198)) t199 t201 true)) else (wayfinderlaw11_DrawPicks.j0 k (wrap64 (1 + t198)) t199 t201 true))) = some r := H
      have A12 := Aside0.mk A120
      clear A120
      replace H := Option.bind_eq_some_iff.mp H
      obtain ⟨⟨t205, t208⟩, A130, H⟩ := H
      replace H : (if t204 = 0 then (if t208 = 0 then (if (t201.length : Int) = t199 then (if (t205.length : Int) = t200 then (if 0 ≤ t200 then (if t200 ≤ (t201.length : Int) then ((wayfinderkit_Same_int.f k t205 (t201.take (t200 : Int).toNat)).bind fun t214 => (if t214 = true then (if 0 ≤ (mn (wrap64 (1 + t198)) t199) then (if (mn (wrap64 (1 + t198)) t199) ≤ (t201.length : Int) then ((draw_Distinct.f (t201.take ((mn (wrap64 (1 + t198)) t199) : Int).toNat)).bind fun t220 => (wayfinderlaw11_DrawPicks.j0 k (wrap64 (1 + t198)) t199 t201 (!t220))) else (none)) else (none)) else (wayfinderlaw11_DrawPicks.j0 k (wrap64 (1 + t198)) t199 t201 true))) else (none)) else (none)) else (wayfinderlaw11_DrawPicks.j0 k (wrap64 (1 + t198)) t199 t201 true)) else (wayfinderlaw11_DrawPicks.j0 k (wrap64 (1 + t198)) t199 t201 true)) else (wayfinderlaw11_DrawPicks.j0 k (wrap64 (1 + t198)) t199 t201 true)) else (wayfinderlaw11_DrawPicks.j0 k (wrap64 (1 + t198)) t199 t201 true)) = some r := H
      have A13 := Aside0.mk A130
      clear A130
      have HC14 := Aside0.mk H
      clear H
      go_enter Try.func5, Try.ntmps5
      go_upto_region 9 with (first | (go_at_call 13; (with_reducible refine (wayfinderlaw11_lives.calls k  true _ A5.out).mono ?_); rintro e w15 ⟨rfl, hb⟩; have n0_ := Aside0.mk (below_step (by repeat (first | (with_reducible first | exact HB.out | apply below_alloc | apply pw_below_drewN | apply below_drew1) | exact HB.out)) hb); clear HB; have HB := n0_; clear n0_; (try clear hb); (try clear hb2); (try clear hk); (try clear hi)) | (go_at_call 14; (with_reducible refine (wayfinderkit_Pick.calls a1 300 t198 _ A9.out).mono ?_); rintro e w' ⟨rfl, ⟨nd, rfl⟩⟩; (try first | exact ⟨rfl, _, World.drewN_drewN _ _ _⟩ | exact ⟨rfl, _, Eq.trans (World.drewN_drewN _ _ _) (congrArg (World.drewN _) (Nat.add_assoc _ _ _))⟩)) | (go_at_call 14; (with_reducible refine (wayfinderkit_Pick.calls a2 600 t199 _ A10.out).mono ?_); rintro e w' ⟨rfl, ⟨nd, rfl⟩⟩; (try first | exact ⟨rfl, _, World.drewN_drewN _ _ _⟩ | exact ⟨rfl, _, Eq.trans (World.drewN_drewN _ _ _) (congrArg (World.drewN _) (Nat.add_assoc _ _ _))⟩)) | (go_at_call 14; (with_reducible refine (wayfinderkit_Pick.calls a3 (wrap64 (t199 + 1)) t200 _ A11.out).mono ?_); rintro e w' ⟨rfl, ⟨nd, rfl⟩⟩; (try first | exact ⟨rfl, _, World.drewN_drewN _ _ _⟩ | exact ⟨rfl, _, Eq.trans (World.drewN_drewN _ _ _) (congrArg (World.drewN _) (Nat.add_assoc _ _ _))⟩)) | (go_at_call 16; (with_reducible refine (draw_Picks.calls _ _ l0 (wrap64 (1 + t198)) t199 t201 t204 _ ?side1 ?side2 A12.out).mono ?_); (case side1 => repeat (first | exact (Kd.C_below HR0.out (by repeat (first | (with_reducible first | exact HB.out | apply below_alloc | apply pw_below_drewN | apply below_drew1) | exact HB.out))) | (with_reducible refine Kd.C_alloc ?_ _) | (with_reducible refine Kd.C_drewN ?_ _) | (with_reducible refine Kd.C_drew ?_))); (case side2 => exact HC0.out); rintro e w16 ⟨v202, rfl, ho0, hb⟩; have n0_ := Aside0.mk (Kd.V_lower (Kd.V_mono (ok' := fun k_ => True) ho0 (fun k_ hk_ => trivial)) (below_size (by repeat (first | (with_reducible first | exact HB.out | apply below_alloc | apply pw_below_drewN | apply below_drew1) | exact HB.out)))); have n1_ := Aside0.mk (below_step (by repeat (first | (with_reducible first | exact HB.out | apply below_alloc | apply pw_below_drewN | apply below_drew1) | exact HB.out)) hb); clear HB; have HO203 := n0_; have HB := n1_; clear n0_ n1_; (try clear hb); (try clear hb2); (try clear hk); (try clear hi); (try clear ho0)) | (go_at_call 16; (with_reducible refine (draw_Picks.calls _ _ l0 (wrap64 (1 + t198)) t200 t205 t208 _ ?side1 ?side2 A13.out).mono ?_); (case side1 => repeat (first | exact (Kd.C_below HR0.out HB.out) | (with_reducible refine Kd.C_alloc ?_ _) | (with_reducible refine Kd.C_drewN ?_ _) | (with_reducible refine Kd.C_drew ?_))); (case side2 => exact HC0.out); rintro e w17 ⟨v206, rfl, ho0, hb⟩; have n0_ := Aside0.mk (Kd.V_below (by (with_reducible repeat (first | apply Kd.V_alloc | apply Kd.V_drewN | apply Kd.V_drew)); exact HO203.out) hb); have n1_ := Aside0.mk (Kd.V_lower (Kd.V_mono (ok' := fun k_ => True) ho0 (fun k_ hk_ => trivial)) (below_size (by repeat (first | (with_reducible first | exact HB.out | apply below_alloc | apply pw_below_drewN | apply below_drew1) | exact HB.out)))); have n2_ := Aside0.mk (below_step (by repeat (first | (with_reducible first | exact HB.out | apply below_alloc | apply pw_below_drewN | apply below_drew1) | exact HB.out)) hb); clear HO203; clear HB; have HO203 := n0_; have HO207 := n1_; have HB := n2_; clear n0_ n1_ n2_; (try clear hb); (try clear hb2); (try clear hk); (try clear hi); (try clear ho0)))
      repeat (go_quiet (first | (go_at_call 13; (with_reducible refine (wayfinderlaw11_lives.calls k  true _ A5.out).mono ?_); rintro e w15 ⟨rfl, hb⟩; have n0_ := Aside0.mk (below_step (by repeat (first | (with_reducible first | exact HB.out | apply below_alloc | apply pw_below_drewN | apply below_drew1) | exact HB.out)) hb); clear HB; have HB := n0_; clear n0_; (try clear hb); (try clear hb2); (try clear hk); (try clear hi)) | (go_at_call 14; (with_reducible refine (wayfinderkit_Pick.calls a1 300 t198 _ A9.out).mono ?_); rintro e w' ⟨rfl, ⟨nd, rfl⟩⟩; (try first | exact ⟨rfl, _, World.drewN_drewN _ _ _⟩ | exact ⟨rfl, _, Eq.trans (World.drewN_drewN _ _ _) (congrArg (World.drewN _) (Nat.add_assoc _ _ _))⟩)) | (go_at_call 14; (with_reducible refine (wayfinderkit_Pick.calls a2 600 t199 _ A10.out).mono ?_); rintro e w' ⟨rfl, ⟨nd, rfl⟩⟩; (try first | exact ⟨rfl, _, World.drewN_drewN _ _ _⟩ | exact ⟨rfl, _, Eq.trans (World.drewN_drewN _ _ _) (congrArg (World.drewN _) (Nat.add_assoc _ _ _))⟩)) | (go_at_call 14; (with_reducible refine (wayfinderkit_Pick.calls a3 (wrap64 (t199 + 1)) t200 _ A11.out).mono ?_); rintro e w' ⟨rfl, ⟨nd, rfl⟩⟩; (try first | exact ⟨rfl, _, World.drewN_drewN _ _ _⟩ | exact ⟨rfl, _, Eq.trans (World.drewN_drewN _ _ _) (congrArg (World.drewN _) (Nat.add_assoc _ _ _))⟩)) | (go_at_call 16; (with_reducible refine (draw_Picks.calls _ _ l0 (wrap64 (1 + t198)) t199 t201 t204 _ ?side1 ?side2 A12.out).mono ?_); (case side1 => repeat (first | exact (Kd.C_below HR0.out (by repeat (first | (with_reducible first | exact HB.out | apply below_alloc | apply pw_below_drewN | apply below_drew1) | exact HB.out))) | (with_reducible refine Kd.C_alloc ?_ _) | (with_reducible refine Kd.C_drewN ?_ _) | (with_reducible refine Kd.C_drew ?_))); (case side2 => exact HC0.out); rintro e w16 ⟨v202, rfl, ho0, hb⟩; have n0_ := Aside0.mk (Kd.V_lower (Kd.V_mono (ok' := fun k_ => True) ho0 (fun k_ hk_ => trivial)) (below_size (by repeat (first | (with_reducible first | exact HB.out | apply below_alloc | apply pw_below_drewN | apply below_drew1) | exact HB.out)))); have n1_ := Aside0.mk (below_step (by repeat (first | (with_reducible first | exact HB.out | apply below_alloc | apply pw_below_drewN | apply below_drew1) | exact HB.out)) hb); clear HB; have HO203 := n0_; have HB := n1_; clear n0_ n1_; (try clear hb); (try clear hb2); (try clear hk); (try clear hi); (try clear ho0)) | (go_at_call 16; (with_reducible refine (draw_Picks.calls _ _ l0 (wrap64 (1 + t198)) t200 t205 t208 _ ?side1 ?side2 A13.out).mono ?_); (case side1 => repeat (first | exact (Kd.C_below HR0.out HB.out) | (with_reducible refine Kd.C_alloc ?_ _) | (with_reducible refine Kd.C_drewN ?_ _) | (with_reducible refine Kd.C_drew ?_))); (case side2 => exact HC0.out); rintro e w17 ⟨v206, rfl, ho0, hb⟩; have n0_ := Aside0.mk (Kd.V_below (by (with_reducible repeat (first | apply Kd.V_alloc | apply Kd.V_drewN | apply Kd.V_drew)); exact HO203.out) hb); have n1_ := Aside0.mk (Kd.V_lower (Kd.V_mono (ok' := fun k_ => True) ho0 (fun k_ hk_ => trivial)) (below_size (by repeat (first | (with_reducible first | exact HB.out | apply below_alloc | apply pw_below_drewN | apply below_drew1) | exact HB.out)))); have n2_ := Aside0.mk (below_step (by repeat (first | (with_reducible first | exact HB.out | apply below_alloc | apply pw_below_drewN | apply below_drew1) | exact HB.out)) hb); clear HO203; clear HB; have HO203 := n0_; have HO207 := n1_; have HB := n2_; clear n0_ n1_ n2_; (try clear hb); (try clear hb2); (try clear hk); (try clear hi); (try clear ho0))); go_upto_region 9 with (first | (go_at_call 13; (with_reducible refine (wayfinderlaw11_lives.calls k  true _ A5.out).mono ?_); rintro e w15 ⟨rfl, hb⟩; have n0_ := Aside0.mk (below_step (by repeat (first | (with_reducible first | exact HB.out | apply below_alloc | apply pw_below_drewN | apply below_drew1) | exact HB.out)) hb); clear HB; have HB := n0_; clear n0_; (try clear hb); (try clear hb2); (try clear hk); (try clear hi)) | (go_at_call 14; (with_reducible refine (wayfinderkit_Pick.calls a1 300 t198 _ A9.out).mono ?_); rintro e w' ⟨rfl, ⟨nd, rfl⟩⟩; (try first | exact ⟨rfl, _, World.drewN_drewN _ _ _⟩ | exact ⟨rfl, _, Eq.trans (World.drewN_drewN _ _ _) (congrArg (World.drewN _) (Nat.add_assoc _ _ _))⟩)) | (go_at_call 14; (with_reducible refine (wayfinderkit_Pick.calls a2 600 t199 _ A10.out).mono ?_); rintro e w' ⟨rfl, ⟨nd, rfl⟩⟩; (try first | exact ⟨rfl, _, World.drewN_drewN _ _ _⟩ | exact ⟨rfl, _, Eq.trans (World.drewN_drewN _ _ _) (congrArg (World.drewN _) (Nat.add_assoc _ _ _))⟩)) | (go_at_call 14; (with_reducible refine (wayfinderkit_Pick.calls a3 (wrap64 (t199 + 1)) t200 _ A11.out).mono ?_); rintro e w' ⟨rfl, ⟨nd, rfl⟩⟩; (try first | exact ⟨rfl, _, World.drewN_drewN _ _ _⟩ | exact ⟨rfl, _, Eq.trans (World.drewN_drewN _ _ _) (congrArg (World.drewN _) (Nat.add_assoc _ _ _))⟩)) | (go_at_call 16; (with_reducible refine (draw_Picks.calls _ _ l0 (wrap64 (1 + t198)) t199 t201 t204 _ ?side1 ?side2 A12.out).mono ?_); (case side1 => repeat (first | exact (Kd.C_below HR0.out (by repeat (first | (with_reducible first | exact HB.out | apply below_alloc | apply pw_below_drewN | apply below_drew1) | exact HB.out))) | (with_reducible refine Kd.C_alloc ?_ _) | (with_reducible refine Kd.C_drewN ?_ _) | (with_reducible refine Kd.C_drew ?_))); (case side2 => exact HC0.out); rintro e w16 ⟨v202, rfl, ho0, hb⟩; have n0_ := Aside0.mk (Kd.V_lower (Kd.V_mono (ok' := fun k_ => True) ho0 (fun k_ hk_ => trivial)) (below_size (by repeat (first | (with_reducible first | exact HB.out | apply below_alloc | apply pw_below_drewN | apply below_drew1) | exact HB.out)))); have n1_ := Aside0.mk (below_step (by repeat (first | (with_reducible first | exact HB.out | apply below_alloc | apply pw_below_drewN | apply below_drew1) | exact HB.out)) hb); clear HB; have HO203 := n0_; have HB := n1_; clear n0_ n1_; (try clear hb); (try clear hb2); (try clear hk); (try clear hi); (try clear ho0)) | (go_at_call 16; (with_reducible refine (draw_Picks.calls _ _ l0 (wrap64 (1 + t198)) t200 t205 t208 _ ?side1 ?side2 A13.out).mono ?_); (case side1 => repeat (first | exact (Kd.C_below HR0.out HB.out) | (with_reducible refine Kd.C_alloc ?_ _) | (with_reducible refine Kd.C_drewN ?_ _) | (with_reducible refine Kd.C_drew ?_))); (case side2 => exact HC0.out); rintro e w17 ⟨v206, rfl, ho0, hb⟩; have n0_ := Aside0.mk (Kd.V_below (by (with_reducible repeat (first | apply Kd.V_alloc | apply Kd.V_drewN | apply Kd.V_drew)); exact HO203.out) hb); have n1_ := Aside0.mk (Kd.V_lower (Kd.V_mono (ok' := fun k_ => True) ho0 (fun k_ hk_ => trivial)) (below_size (by repeat (first | (with_reducible first | exact HB.out | apply below_alloc | apply pw_below_drewN | apply below_drew1) | exact HB.out)))); have n2_ := Aside0.mk (below_step (by repeat (first | (with_reducible first | exact HB.out | apply below_alloc | apply pw_below_drewN | apply below_drew1) | exact HB.out)) hb); clear HO203; clear HB; have HO203 := n0_; have HO207 := n1_; have HB := n2_; clear n0_ n1_ n2_; (try clear hb); (try clear hb2); (try clear hk); (try clear hi); (try clear ho0))))
      (try simp only [Act.put, List.setIfInBounds_toArray, List.set_cons_zero, List.set_cons_succ])
      go_cut [76] (fun v76 wc => ∃ (kq : Nat) (x76_13 : Bool), v76 = .bool x76_13 ∧ Aside0 (wayfinderlaw11_DrawPicks.j0 kq (wrap64 (1 + t198)) t199 t201 x76_13 = some r) ∧ Aside0 (kq ≤ k) ∧ Aside0 (Kd.V (Kd.int .i64) 3 wc w.heap.size (fun _ => True) v202 t201) ∧ Aside0 (Below w.heap.size w wc))
      case first =>
        have H := HC14.out
        clear HC14
        by_cases c18 : t204 = 0
        · rw [if_pos c18] at H
          have c18b0 : (t204 == 0) = true := beq_iff_eq.mpr c18
          have c18b1 : (t204 != 0) = false := bne_eq_false_iff_eq.mpr c18
          clear c18
          (first | rw [c18b0] | (simp only [i64_w, i32_w]; rw [c18b0]) | skip)
          by_cases c19 : t208 = 0
          · rw [if_pos c19] at H
            have c19b0 : (t208 == 0) = true := beq_iff_eq.mpr c19
            have c19b1 : (t208 != 0) = false := bne_eq_false_iff_eq.mpr c19
            clear c19
            by_cases c20 : (t201.length : Int) = t199
            · rw [if_pos c20] at H
              have c20b0 : ((t201.length : Int) == t199) = true := beq_iff_eq.mpr c20
              have c20b1 : ((t201.length : Int) != t199) = false := bne_eq_false_iff_eq.mpr c20
              clear c20
              by_cases c21 : (t205.length : Int) = t200
              · rw [if_pos c21] at H
                have c21b0 : ((t205.length : Int) == t200) = true := beq_iff_eq.mpr c21
                have c21b1 : ((t205.length : Int) != t200) = false := bne_eq_false_iff_eq.mpr c21
                clear c21
                by_cases c22 : 0 ≤ t200
                · rw [if_pos c22] at H
                  have c22b0 := eq_true c22
                  have c22b1 : decide (0 ≤ t200) = true := decide_eq_true c22
                  clear c22
                  by_cases c23 : t200 ≤ (t201.length : Int)
                  · rw [if_pos c23] at H
                    have c23b0 := eq_true c23
                    have c23b1 : decide (t200 ≤ (t201.length : Int)) = true := decide_eq_true c23
                    clear c23
                    obtain ⟨y209, hy209⟩ : ∃ y_ : List Int, y_ = (t201.take (t200 : Int).toNat) := ⟨_, rfl⟩
                    replace H : ((wayfinderkit_Same_int.f k t205 y209).bind fun t214 => (if t214 = true then (if 0 ≤ (mn (wrap64 (1 + t198)) t199) then (if (mn (wrap64 (1 + t198)) t199) ≤ (t201.length : Int) then ((draw_Distinct.f (t201.take ((mn (wrap64 (1 + t198)) t199) : Int).toNat)).bind fun t220 => (wayfinderlaw11_DrawPicks.j0 k (wrap64 (1 + t198)) t199 t201 (!t220))) else (none)) else (none)) else (wayfinderlaw11_DrawPicks.j0 k (wrap64 (1 + t198)) t199 t201 true))) = some r := by first | (rw [hy209]; with_reducible exact H) | (have H2_ := (Option.bind_some _ _).symm.trans H; rw [hy209]; with_reducible exact H2_) | (have H2_ := (Option.bind_some _ _).symm.trans H; with_reducible exact H2_) | with_reducible exact H | (rw [hy209]; exact H) | exact H
                    have Ny209 := Aside0.mk hy209
                    clear hy209
                    replace H := Option.bind_eq_some_iff.mp H
                    obtain ⟨t214, A240, H⟩ := H
                    replace H : (if t214 = true then (if 0 ≤ (mn (wrap64 (1 + t198)) t199) then (if (mn (wrap64 (1 + t198)) t199) ≤ (t201.length : Int) then ((draw_Distinct.f (t201.take ((mn (wrap64 (1 + t198)) t199) : Int).toNat)).bind fun t220 => (wayfinderlaw11_DrawPicks.j0 k (wrap64 (1 + t198)) t199 t201 (!t220))) else (none)) else (none)) else (wayfinderlaw11_DrawPicks.j0 k (wrap64 (1 + t198)) t199 t201 true)) = some r := H
                    have A24 := Aside0.mk A240
                    clear A240
                    by_cases c25 : t214 = true
                    · subst c25
                      have H1 : (if 0 ≤ (mn (wrap64 (1 + t198)) t199) then (if (mn (wrap64 (1 + t198)) t199) ≤ (t201.length : Int) then ((draw_Distinct.f (t201.take ((mn (wrap64 (1 + t198)) t199) : Int).toNat)).bind fun t220 => (wayfinderlaw11_DrawPicks.j0 k (wrap64 (1 + t198)) t199 t201 (!t220))) else (none)) else (none)) = some r := by rw [if_pos rfl] at H; exact H
                      clear H
                      have H := H1
                      clear H1
                      obtain ⟨ji26, hji26⟩ : ∃ j_ : Int, (mn (wrap64 (1 + t198)) t199) = j_ := ⟨_, rfl⟩
                      replace H : (if 0 ≤ (ji26) then (if (ji26) ≤ (t201.length : Int) then ((draw_Distinct.f (t201.take ((ji26) : Int).toNat)).bind fun t220 => (wayfinderlaw11_DrawPicks.j0 k (wrap64 (1 + t198)) t199 t201 (!t220))) else (none)) else (none)) = some r := by first | (rw [hji26] at H; exact H) | (simp only [hji26] at H ⊢; exact H)
                      (try rw [hji26] at A24)
                      have hji26_ : (if t199 < (wrap64 (1 + t198)) then t199 else (wrap64 (1 + t198))) = ji26 := hji26
                      by_cases c27 : 0 ≤ (ji26)
                      · rw [if_pos c27] at H
                        have c27b0 := eq_true c27
                        have c27b1 : decide (0 ≤ (ji26)) = true := decide_eq_true c27
                        clear c27
                        by_cases c28 : (ji26) ≤ (t201.length : Int)
                        · rw [if_pos c28] at H
                          have c28b0 := eq_true c28
                          have c28b1 : decide ((ji26) ≤ (t201.length : Int)) = true := decide_eq_true c28
                          clear c28
                          obtain ⟨y215, hy215⟩ : ∃ y_ : List Int, y_ = (t201.take ((ji26) : Int).toNat) := ⟨_, rfl⟩
                          replace H : ((draw_Distinct.f y215).bind fun t220 => (wayfinderlaw11_DrawPicks.j0 k (wrap64 (1 + t198)) t199 t201 (!t220))) = some r := by first | (rw [hy215]; with_reducible exact H) | (have H2_ := (Option.bind_some _ _).symm.trans H; rw [hy215]; with_reducible exact H2_) | (have H2_ := (Option.bind_some _ _).symm.trans H; with_reducible exact H2_) | with_reducible exact H | (rw [hy215]; exact H) | exact H
                          have Ny215 := Aside0.mk hy215
                          clear hy215
                          replace H := Option.bind_eq_some_iff.mp H
                          obtain ⟨t220, A290, H⟩ := H
                          replace H : (wayfinderlaw11_DrawPicks.j0 k (wrap64 (1 + t198)) t199 t201 (!t220)) = some r := H
                          have A29 := Aside0.mk A290
                          clear A290
                          have H' := Aside0.mk H
                          clear H
                          obtain ⟨Ao30, co30, eo30⟩ := Kd.V_slice HO203.out
                          subst eo30
                          obtain ⟨Ao31, co31, eo31⟩ := Kd.V_slice HO207.out
                          subst eo31
                          have q32 : (t200 : Int) ≤ ((t201.length : Int) : Int) := of_decide_eq_true (by first | (with_reducible assumption) | assumption)
                          obtain ⟨i032, hi032, _, hsz32, _⟩ := info_parts info3
                          have hroom32 : t201.length ≤ co30 := (Kd.V_reads' HO203.out).2.1
                          have hC32 : Kd.F (Kd.int .i64) _ _ Ao30 t201.length t201 := (Kd.V_at (base := w.heap.size) HO203.out).2.2
                          have hcut32 := cut_to (P := Try.prog) 27 3 .i64 Try.underlying27 hi032 Ao30 t201.length co30 t200 (of_decide_eq_true (by first | (with_reducible assumption) | assumption)) q32 hroom32
                          have hr32 := Kd.F_take (m := (t200 : Int).toNat) hC32 (by omega)
                          have hy32 : y209.length = (t200 : Int).toNat := (by rw [Ny209.out, List.length_take]; omega)
                          rw [← Ny209.out] at hr32
                          rw [← hy32] at hcut32
                          have HO213 := Aside0.mk (show Kd.V (Kd.int .i64) 3 _ w.heap.size _ (.slice Ao30 y209.length co30) y209 from Kd.V_mk (by omega) hr32)
                          have HC213 := Aside0.mk (show y209.length ≤ co30 from by omega)
                          clear hr32 hC32 hroom32 hi032 hsz32
                          have KY32 := Aside0.mk hy32
                          clear hy32
                          replace q32 := eq_true q32
                          go_wp2_with (first | (go_at_call 17; (with_reducible refine (wayfinderkit_Same_int.calls k _ _ t205 _ _ y209 true _ ?side1 ?side2 ?side3 ?side4 A24.out).mono ?_); (case side1 => repeat (first | exact (Kd.V_reads' HO207.out).2.2 | (with_reducible refine Kd.C_alloc ?_ _) | (with_reducible refine Kd.C_drewN ?_ _) | (with_reducible refine Kd.C_drew ?_))); (case side2 => exact (Kd.V_reads' HO207.out).2.1); (case side3 => repeat (first | exact (Kd.V_reads' HO213.out).2.2 | (with_reducible refine Kd.C_alloc ?_ _) | (with_reducible refine Kd.C_drewN ?_ _) | (with_reducible refine Kd.C_drew ?_))); (case side4 => exact (Kd.V_reads' HO213.out).2.1); rintro e w' ⟨rfl, ⟨nd, rfl⟩⟩; (try first | exact ⟨rfl, _, World.drewN_drewN _ _ _⟩ | exact ⟨rfl, _, Eq.trans (World.drewN_drewN _ _ _) (congrArg (World.drewN _) (Nat.add_assoc _ _ _))⟩); have q33 : ((ji26) : Int) ≤ ((t201.length : Int) : Int) := of_decide_eq_true (by first | (with_reducible assumption) | assumption); obtain ⟨i033, hi033, _, hsz33, _⟩ := info_parts info3; have hroom33 : t201.length ≤ co30 := (Kd.V_reads' HO203.out).2.1; have hC33 : Kd.F (Kd.int .i64) _ _ Ao30 t201.length t201 := (Kd.V_at (base := w.heap.size) HO203.out).2.2; have hcut33 := cut_to (P := Try.prog) 27 3 .i64 Try.underlying27 hi033 Ao30 t201.length co30 (ji26) (of_decide_eq_true (by first | (with_reducible assumption) | assumption)) q33 hroom33; have hr33 := Kd.F_take (m := ((ji26) : Int).toNat) hC33 (by omega); have hy33 : y215.length = ((ji26) : Int).toNat := (by rw [Ny215.out, List.length_take]; omega); rw [← Ny215.out] at hr33; rw [← hy33] at hcut33; have HO219 := Aside0.mk (show Kd.V (Kd.int .i64) 3 _ w.heap.size _ (.slice Ao30 y215.length co30) y215 from Kd.V_mk (by omega) hr33); have HC219 := Aside0.mk (show y215.length ≤ co30 from by omega); clear hr33 hC33 hroom33 hi033 hsz33; have KY33 := Aside0.mk hy33; clear hy33; replace q33 := eq_true q33) | (go_at_call 19; (with_reducible refine (draw_Distinct.calls _ _ y215 t220 _ ?side1 ?side2 A29.out).mono ?_); (case side1 => repeat (first | exact (Kd.V_reads' HO219.out).2.2 | (with_reducible refine Kd.C_alloc ?_ _) | (with_reducible refine Kd.C_drewN ?_ _) | (with_reducible refine Kd.C_drew ?_))); (case side2 => exact (Kd.V_reads' HO219.out).2.1); rintro e w34 ⟨rfl, hb⟩; have n0_ := Aside0.mk (Kd.V_below (by (with_reducible repeat (first | apply Kd.V_alloc | apply Kd.V_drewN | apply Kd.V_drew)); exact HO203.out) hb); have n1_ := Aside0.mk (Kd.V_below (by (with_reducible repeat (first | apply Kd.V_alloc | apply Kd.V_drewN | apply Kd.V_drew)); exact HO207.out) hb); have n2_ := Aside0.mk (Kd.V_below (by (with_reducible repeat (first | apply Kd.V_alloc | apply Kd.V_drewN | apply Kd.V_drew)); exact HO213.out) hb); have n3_ := Aside0.mk (Kd.V_below (by (with_reducible repeat (first | apply Kd.V_alloc | apply Kd.V_drewN | apply Kd.V_drew)); exact HO219.out) hb); have n4_ := Aside0.mk (below_step (by repeat (first | (with_reducible first | exact HB.out | apply below_alloc | apply pw_below_drewN | apply below_drew1) | exact HB.out)) hb); clear HO203; clear HO207; clear HO213; clear HO219; clear HB; have HO203 := n0_; have HO207 := n1_; have HO213 := n2_; have HO219 := n3_; have HB := n4_; clear n0_ n1_ n2_ n3_ n4_; (try clear hb); (try clear hb2); (try clear hk); (try clear hi)))
                          repeat (go_quiet (first | (go_at_call 17; (with_reducible refine (wayfinderkit_Same_int.calls k _ _ t205 _ _ y209 true _ ?side1 ?side2 ?side3 ?side4 A24.out).mono ?_); (case side1 => repeat (first | exact (Kd.V_reads' HO207.out).2.2 | (with_reducible refine Kd.C_alloc ?_ _) | (with_reducible refine Kd.C_drewN ?_ _) | (with_reducible refine Kd.C_drew ?_))); (case side2 => exact (Kd.V_reads' HO207.out).2.1); (case side3 => repeat (first | exact (Kd.V_reads' HO213.out).2.2 | (with_reducible refine Kd.C_alloc ?_ _) | (with_reducible refine Kd.C_drewN ?_ _) | (with_reducible refine Kd.C_drew ?_))); (case side4 => exact (Kd.V_reads' HO213.out).2.1); rintro e w' ⟨rfl, ⟨nd, rfl⟩⟩; (try first | exact ⟨rfl, _, World.drewN_drewN _ _ _⟩ | exact ⟨rfl, _, Eq.trans (World.drewN_drewN _ _ _) (congrArg (World.drewN _) (Nat.add_assoc _ _ _))⟩); have q33 : ((ji26) : Int) ≤ ((t201.length : Int) : Int) := of_decide_eq_true (by first | (with_reducible assumption) | assumption); obtain ⟨i033, hi033, _, hsz33, _⟩ := info_parts info3; have hroom33 : t201.length ≤ co30 := (Kd.V_reads' HO203.out).2.1; have hC33 : Kd.F (Kd.int .i64) _ _ Ao30 t201.length t201 := (Kd.V_at (base := w.heap.size) HO203.out).2.2; have hcut33 := cut_to (P := Try.prog) 27 3 .i64 Try.underlying27 hi033 Ao30 t201.length co30 (ji26) (of_decide_eq_true (by first | (with_reducible assumption) | assumption)) q33 hroom33; have hr33 := Kd.F_take (m := ((ji26) : Int).toNat) hC33 (by omega); have hy33 : y215.length = ((ji26) : Int).toNat := (by rw [Ny215.out, List.length_take]; omega); rw [← Ny215.out] at hr33; rw [← hy33] at hcut33; have HO219 := Aside0.mk (show Kd.V (Kd.int .i64) 3 _ w.heap.size _ (.slice Ao30 y215.length co30) y215 from Kd.V_mk (by omega) hr33); have HC219 := Aside0.mk (show y215.length ≤ co30 from by omega); clear hr33 hC33 hroom33 hi033 hsz33; have KY33 := Aside0.mk hy33; clear hy33; replace q33 := eq_true q33) | (go_at_call 19; (with_reducible refine (draw_Distinct.calls _ _ y215 t220 _ ?side1 ?side2 A29.out).mono ?_); (case side1 => repeat (first | exact (Kd.V_reads' HO219.out).2.2 | (with_reducible refine Kd.C_alloc ?_ _) | (with_reducible refine Kd.C_drewN ?_ _) | (with_reducible refine Kd.C_drew ?_))); (case side2 => exact (Kd.V_reads' HO219.out).2.1); rintro e w34 ⟨rfl, hb⟩; have n0_ := Aside0.mk (Kd.V_below (by (with_reducible repeat (first | apply Kd.V_alloc | apply Kd.V_drewN | apply Kd.V_drew)); exact HO203.out) hb); have n1_ := Aside0.mk (Kd.V_below (by (with_reducible repeat (first | apply Kd.V_alloc | apply Kd.V_drewN | apply Kd.V_drew)); exact HO207.out) hb); have n2_ := Aside0.mk (Kd.V_below (by (with_reducible repeat (first | apply Kd.V_alloc | apply Kd.V_drewN | apply Kd.V_drew)); exact HO213.out) hb); have n3_ := Aside0.mk (Kd.V_below (by (with_reducible repeat (first | apply Kd.V_alloc | apply Kd.V_drewN | apply Kd.V_drew)); exact HO219.out) hb); have n4_ := Aside0.mk (below_step (by repeat (first | (with_reducible first | exact HB.out | apply below_alloc | apply pw_below_drewN | apply below_drew1) | exact HB.out)) hb); clear HO203; clear HO207; clear HO213; clear HO219; clear HB; have HO203 := n0_; have HO207 := n1_; have HO213 := n2_; have HO219 := n3_; have HB := n4_; clear n0_ n1_ n2_ n3_ n4_; (try clear hb); (try clear hb2); (try clear hk); (try clear hi))); try go_wp2_with (first | (go_at_call 17; (with_reducible refine (wayfinderkit_Same_int.calls k _ _ t205 _ _ y209 true _ ?side1 ?side2 ?side3 ?side4 A24.out).mono ?_); (case side1 => repeat (first | exact (Kd.V_reads' HO207.out).2.2 | (with_reducible refine Kd.C_alloc ?_ _) | (with_reducible refine Kd.C_drewN ?_ _) | (with_reducible refine Kd.C_drew ?_))); (case side2 => exact (Kd.V_reads' HO207.out).2.1); (case side3 => repeat (first | exact (Kd.V_reads' HO213.out).2.2 | (with_reducible refine Kd.C_alloc ?_ _) | (with_reducible refine Kd.C_drewN ?_ _) | (with_reducible refine Kd.C_drew ?_))); (case side4 => exact (Kd.V_reads' HO213.out).2.1); rintro e w' ⟨rfl, ⟨nd, rfl⟩⟩; (try first | exact ⟨rfl, _, World.drewN_drewN _ _ _⟩ | exact ⟨rfl, _, Eq.trans (World.drewN_drewN _ _ _) (congrArg (World.drewN _) (Nat.add_assoc _ _ _))⟩); have q33 : ((ji26) : Int) ≤ ((t201.length : Int) : Int) := of_decide_eq_true (by first | (with_reducible assumption) | assumption); obtain ⟨i033, hi033, _, hsz33, _⟩ := info_parts info3; have hroom33 : t201.length ≤ co30 := (Kd.V_reads' HO203.out).2.1; have hC33 : Kd.F (Kd.int .i64) _ _ Ao30 t201.length t201 := (Kd.V_at (base := w.heap.size) HO203.out).2.2; have hcut33 := cut_to (P := Try.prog) 27 3 .i64 Try.underlying27 hi033 Ao30 t201.length co30 (ji26) (of_decide_eq_true (by first | (with_reducible assumption) | assumption)) q33 hroom33; have hr33 := Kd.F_take (m := ((ji26) : Int).toNat) hC33 (by omega); have hy33 : y215.length = ((ji26) : Int).toNat := (by rw [Ny215.out, List.length_take]; omega); rw [← Ny215.out] at hr33; rw [← hy33] at hcut33; have HO219 := Aside0.mk (show Kd.V (Kd.int .i64) 3 _ w.heap.size _ (.slice Ao30 y215.length co30) y215 from Kd.V_mk (by omega) hr33); have HC219 := Aside0.mk (show y215.length ≤ co30 from by omega); clear hr33 hC33 hroom33 hi033 hsz33; have KY33 := Aside0.mk hy33; clear hy33; replace q33 := eq_true q33) | (go_at_call 19; (with_reducible refine (draw_Distinct.calls _ _ y215 t220 _ ?side1 ?side2 A29.out).mono ?_); (case side1 => repeat (first | exact (Kd.V_reads' HO219.out).2.2 | (with_reducible refine Kd.C_alloc ?_ _) | (with_reducible refine Kd.C_drewN ?_ _) | (with_reducible refine Kd.C_drew ?_))); (case side2 => exact (Kd.V_reads' HO219.out).2.1); rintro e w34 ⟨rfl, hb⟩; have n0_ := Aside0.mk (Kd.V_below (by (with_reducible repeat (first | apply Kd.V_alloc | apply Kd.V_drewN | apply Kd.V_drew)); exact HO203.out) hb); have n1_ := Aside0.mk (Kd.V_below (by (with_reducible repeat (first | apply Kd.V_alloc | apply Kd.V_drewN | apply Kd.V_drew)); exact HO207.out) hb); have n2_ := Aside0.mk (Kd.V_below (by (with_reducible repeat (first | apply Kd.V_alloc | apply Kd.V_drewN | apply Kd.V_drew)); exact HO213.out) hb); have n3_ := Aside0.mk (Kd.V_below (by (with_reducible repeat (first | apply Kd.V_alloc | apply Kd.V_drewN | apply Kd.V_drew)); exact HO219.out) hb); have n4_ := Aside0.mk (below_step (by repeat (first | (with_reducible first | exact HB.out | apply below_alloc | apply pw_below_drewN | apply below_drew1) | exact HB.out)) hb); clear HO203; clear HO207; clear HO213; clear HO219; clear HB; have HO203 := n0_; have HO207 := n1_; have HO213 := n2_; have HO219 := n3_; have HB := n4_; clear n0_ n1_ n2_ n3_ n4_; (try clear hb); (try clear hb2); (try clear hk); (try clear hi))))
                          go_meet
                          case rel => exact ⟨_, (!t220), (by first | rfl | (simp; done) | (simp [*]; done)), H', ⟨by first | omega | exact Nat.le_refl _⟩, ⟨by (with_reducible repeat (first | apply Kd.V_alloc | apply Kd.V_drewN | apply Kd.V_drew)); exact HO203.out⟩, ⟨by repeat (first | (with_reducible first | exact HB.out | apply below_alloc | apply pw_below_drewN | apply below_drew1) | exact HB.out)⟩⟩
                        · rw [if_neg c28] at H
                          exact absurd H (by simp)
                      · rw [if_neg c27] at H
                        exact absurd H (by simp)
                    · replace c25 := Bool.eq_false_iff.mpr c25
                      subst c25
                      have H1 : (wayfinderlaw11_DrawPicks.j0 k (wrap64 (1 + t198)) t199 t201 true) = some r := by rw [if_neg (show ¬ (false = true) by decide)] at H; exact H
                      clear H
                      have H := H1
                      clear H1
                      have H' := Aside0.mk H
                      clear H
                      obtain ⟨Ao35, co35, eo35⟩ := Kd.V_slice HO203.out
                      subst eo35
                      obtain ⟨Ao36, co36, eo36⟩ := Kd.V_slice HO207.out
                      subst eo36
                      have q37 : (t200 : Int) ≤ ((t201.length : Int) : Int) := of_decide_eq_true (by first | (with_reducible assumption) | assumption)
                      obtain ⟨i037, hi037, _, hsz37, _⟩ := info_parts info3
                      have hroom37 : t201.length ≤ co35 := (Kd.V_reads' HO203.out).2.1
                      have hC37 : Kd.F (Kd.int .i64) _ _ Ao35 t201.length t201 := (Kd.V_at (base := w.heap.size) HO203.out).2.2
                      have hcut37 := cut_to (P := Try.prog) 27 3 .i64 Try.underlying27 hi037 Ao35 t201.length co35 t200 (of_decide_eq_true (by first | (with_reducible assumption) | assumption)) q37 hroom37
                      have hr37 := Kd.F_take (m := (t200 : Int).toNat) hC37 (by omega)
                      have hy37 : y209.length = (t200 : Int).toNat := (by rw [Ny209.out, List.length_take]; omega)
                      rw [← Ny209.out] at hr37
                      rw [← hy37] at hcut37
                      have HO213 := Aside0.mk (show Kd.V (Kd.int .i64) 3 _ w.heap.size _ (.slice Ao35 y209.length co35) y209 from Kd.V_mk (by omega) hr37)
                      have HC213 := Aside0.mk (show y209.length ≤ co35 from by omega)
                      clear hr37 hC37 hroom37 hi037 hsz37
                      have KY37 := Aside0.mk hy37
                      clear hy37
                      replace q37 := eq_true q37
                      go_wp2_with (first | (go_at_call 17; (with_reducible refine (wayfinderkit_Same_int.calls k _ _ t205 _ _ y209 false _ ?side1 ?side2 ?side3 ?side4 A24.out).mono ?_); (case side1 => repeat (first | exact (Kd.V_reads' HO207.out).2.2 | (with_reducible refine Kd.C_alloc ?_ _) | (with_reducible refine Kd.C_drewN ?_ _) | (with_reducible refine Kd.C_drew ?_))); (case side2 => exact (Kd.V_reads' HO207.out).2.1); (case side3 => repeat (first | exact (Kd.V_reads' HO213.out).2.2 | (with_reducible refine Kd.C_alloc ?_ _) | (with_reducible refine Kd.C_drewN ?_ _) | (with_reducible refine Kd.C_drew ?_))); (case side4 => exact (Kd.V_reads' HO213.out).2.1); rintro e w' ⟨rfl, ⟨nd, rfl⟩⟩; (try first | exact ⟨rfl, _, World.drewN_drewN _ _ _⟩ | exact ⟨rfl, _, Eq.trans (World.drewN_drewN _ _ _) (congrArg (World.drewN _) (Nat.add_assoc _ _ _))⟩)))
                      repeat (go_quiet (first | (go_at_call 17; (with_reducible refine (wayfinderkit_Same_int.calls k _ _ t205 _ _ y209 false _ ?side1 ?side2 ?side3 ?side4 A24.out).mono ?_); (case side1 => repeat (first | exact (Kd.V_reads' HO207.out).2.2 | (with_reducible refine Kd.C_alloc ?_ _) | (with_reducible refine Kd.C_drewN ?_ _) | (with_reducible refine Kd.C_drew ?_))); (case side2 => exact (Kd.V_reads' HO207.out).2.1); (case side3 => repeat (first | exact (Kd.V_reads' HO213.out).2.2 | (with_reducible refine Kd.C_alloc ?_ _) | (with_reducible refine Kd.C_drewN ?_ _) | (with_reducible refine Kd.C_drew ?_))); (case side4 => exact (Kd.V_reads' HO213.out).2.1); rintro e w' ⟨rfl, ⟨nd, rfl⟩⟩; (try first | exact ⟨rfl, _, World.drewN_drewN _ _ _⟩ | exact ⟨rfl, _, Eq.trans (World.drewN_drewN _ _ _) (congrArg (World.drewN _) (Nat.add_assoc _ _ _))⟩))); try go_wp2_with (first | (go_at_call 17; (with_reducible refine (wayfinderkit_Same_int.calls k _ _ t205 _ _ y209 false _ ?side1 ?side2 ?side3 ?side4 A24.out).mono ?_); (case side1 => repeat (first | exact (Kd.V_reads' HO207.out).2.2 | (with_reducible refine Kd.C_alloc ?_ _) | (with_reducible refine Kd.C_drewN ?_ _) | (with_reducible refine Kd.C_drew ?_))); (case side2 => exact (Kd.V_reads' HO207.out).2.1); (case side3 => repeat (first | exact (Kd.V_reads' HO213.out).2.2 | (with_reducible refine Kd.C_alloc ?_ _) | (with_reducible refine Kd.C_drewN ?_ _) | (with_reducible refine Kd.C_drew ?_))); (case side4 => exact (Kd.V_reads' HO213.out).2.1); rintro e w' ⟨rfl, ⟨nd, rfl⟩⟩; (try first | exact ⟨rfl, _, World.drewN_drewN _ _ _⟩ | exact ⟨rfl, _, Eq.trans (World.drewN_drewN _ _ _) (congrArg (World.drewN _) (Nat.add_assoc _ _ _))⟩))))
                      go_meet
                      case rel => exact ⟨_, (true), (by first | rfl | (simp; done) | (simp [*]; done)), H', ⟨by first | omega | exact Nat.le_refl _⟩, ⟨by (with_reducible repeat (first | apply Kd.V_alloc | apply Kd.V_drewN | apply Kd.V_drew)); exact HO203.out⟩, ⟨by repeat (first | (with_reducible first | exact HB.out | apply below_alloc | apply pw_below_drewN | apply below_drew1) | exact HB.out)⟩⟩
                  · rw [if_neg c23] at H
                    exact absurd H (by simp)
                · rw [if_neg c22] at H
                  exact absurd H (by simp)
              · rw [if_neg c21] at H
                have c21b0 : ((t205.length : Int) == t200) = false := beq_eq_false_iff_ne.mpr c21
                have c21b1 : ((t205.length : Int) != t200) = true := bne_iff_ne.mpr c21
                have H' := Aside0.mk H
                clear H
                obtain ⟨Ao38, co38, eo38⟩ := Kd.V_slice HO203.out
                subst eo38
                obtain ⟨Ao39, co39, eo39⟩ := Kd.V_slice HO207.out
                subst eo39
                go_wp2
                repeat (go_quiet (fail); try go_wp2)
                go_meet
                case rel => exact ⟨_, (true), (by first | rfl | (simp; done) | (simp [*]; done)), H', ⟨by first | omega | exact Nat.le_refl _⟩, ⟨by (with_reducible repeat (first | apply Kd.V_alloc | apply Kd.V_drewN | apply Kd.V_drew)); exact HO203.out⟩, ⟨by repeat (first | (with_reducible first | exact HB.out | apply below_alloc | apply pw_below_drewN | apply below_drew1) | exact HB.out)⟩⟩
            · rw [if_neg c20] at H
              have c20b0 : ((t201.length : Int) == t199) = false := beq_eq_false_iff_ne.mpr c20
              have c20b1 : ((t201.length : Int) != t199) = true := bne_iff_ne.mpr c20
              have H' := Aside0.mk H
              clear H
              obtain ⟨Ao40, co40, eo40⟩ := Kd.V_slice HO203.out
              subst eo40
              go_wp2
              repeat (go_quiet (fail); try go_wp2)
              go_meet
              case rel => exact ⟨_, (true), (by first | rfl | (simp; done) | (simp [*]; done)), H', ⟨by first | omega | exact Nat.le_refl _⟩, ⟨by (with_reducible repeat (first | apply Kd.V_alloc | apply Kd.V_drewN | apply Kd.V_drew)); exact HO203.out⟩, ⟨by repeat (first | (with_reducible first | exact HB.out | apply below_alloc | apply pw_below_drewN | apply below_drew1) | exact HB.out)⟩⟩
          · rw [if_neg c19] at H
            have c19b0 : (t208 == 0) = false := beq_eq_false_iff_ne.mpr c19
            have c19b1 : (t208 != 0) = true := bne_iff_ne.mpr c19
            have H' := Aside0.mk H
            clear H
            go_wp2
            repeat (go_quiet (fail); try go_wp2)
            go_meet
            case rel => exact ⟨_, (true), (by first | rfl | (simp; done) | (simp [*]; done)), H', ⟨by first | omega | exact Nat.le_refl _⟩, ⟨by (with_reducible repeat (first | apply Kd.V_alloc | apply Kd.V_drewN | apply Kd.V_drew)); exact HO203.out⟩, ⟨by repeat (first | (with_reducible first | exact HB.out | apply below_alloc | apply pw_below_drewN | apply below_drew1) | exact HB.out)⟩⟩
        · rw [if_neg c18] at H
          have c18b0 : (t204 == 0) = false := beq_eq_false_iff_ne.mpr c18
          have c18b1 : (t204 != 0) = true := bne_iff_ne.mpr c18
          (first | rw [c18b0] | (simp only [i64_w, i32_w]; rw [c18b0]) | skip)
          have H' := Aside0.mk H
          clear H
          go_wp2
          repeat (go_quiet (fail); try go_wp2)
          go_meet
          case rel => exact ⟨_, (true), (by first | rfl | (simp; done) | (simp [*]; done)), H', ⟨by first | omega | exact Nat.le_refl _⟩, ⟨by (with_reducible repeat (first | apply Kd.V_alloc | apply Kd.V_drewN | apply Kd.V_drew)); exact HO203.out⟩, ⟨by repeat (first | (with_reducible first | exact HB.out | apply below_alloc | apply pw_below_drewN | apply below_drew1) | exact HB.out)⟩⟩
      case rest =>
        clear HC14
        try clear c1
        try clear c2
        try clear p2
        try clear q3
        try clear c5
        try clear c6
        try clear p6
        try clear c7
        try clear c7b0
        try clear c7b1
        try clear c18
        try clear c18b0
        try clear c18b1
        try clear c19
        try clear c19b0
        try clear c19b1
        try clear c20
        try clear c20b0
        try clear c20b1
        try clear c21
        try clear c21b0
        try clear c21b1
        try clear c22
        try clear c22b0
        try clear c22b1
        try clear c23
        try clear c23b0
        try clear c23b1
        try clear c25
        try clear c27
        try clear c27b0
        try clear c27b1
        try clear c28
        try clear c28b0
        try clear c28b1
        try clear q32
        try clear q33
        try clear q37
        try clear q32
        try clear q33
        try clear q37
        obtain ⟨kq, x76_13, rfl, HA, HJ13, HO_9, HB⟩ := hcut
        cases kq with
        | zero => exact absurd HA.out (by simp [wayfinderlaw11_DrawPicks.j0])
        | succ kj13 =>
          have H := HA.out
          clear HA
          simp only [wayfinderlaw11_DrawPicks.j0] at H
          by_cases c41 : x76_13 = true
          · subst c41
            have H1 : (some false) = some r := by rw [if_pos rfl] at H; exact H
            clear H
            have H := H1
            clear H1
            obtain rfl := Option.some.inj H
            go_wp2
            repeat (go_quiet (fail); try go_wp2)
            go_ret
            exact ⟨by first | rfl | (simp [errW_none, errW_some] <;> rfl) | (simp [*, errW_none, errW_some] <;> rfl), by repeat (first | (with_reducible first | exact HB.out | apply below_alloc | apply pw_below_drewN | apply below_drew1) | exact HB.out)⟩
          · replace c41 := Bool.eq_false_iff.mpr c41
            subst c41
            have H1 : (wayfinderlaw11_DrawPicks.l0 kj13 (wrap64 (1 + t198)) t199 t201 0) = some r := by rw [if_neg (show ¬ (false = true) by decide)] at H; exact H
            clear H
            have H := H1
            clear H1
            have H' := Aside0.mk H
            clear H
            go_wp2
            repeat (go_quiet (fail); try go_wp2)
            go_loopg [13] kj13 (fun kq v13 w' => ∃ (x13_2 : Int), v13 = .int .i64 x13_2 ∧ Aside0 (wayfinderlaw11_DrawPicks.l0 kq (wrap64 (1 + t198)) t199 t201 x13_2 = some r) ∧ Aside0 (kq ≤ kj13) ∧ Aside0 (Kd.V (Kd.int .i64) 3 w' w.heap.size (fun _ => True) v202 t201) ∧ Aside0 (Below w.heap.size w w'))
            case atStart => exact ⟨(0), (by first | rfl | (simp; done) | (simp [*]; done)), H', ⟨Nat.le_refl _⟩, ⟨by (with_reducible repeat (first | apply Kd.V_alloc | apply Kd.V_drewN | apply Kd.V_drew)); exact HO_9.out⟩, ⟨by repeat (first | (with_reducible first | exact HB.out | apply below_alloc | apply pw_below_drewN | apply below_drew1) | exact HB.out)⟩⟩
            case round =>
              clear H'
              try clear c1
              try clear c2
              try clear p2
              try clear q3
              try clear c4
              try clear c5
              try clear c6
              try clear p6
              try clear c7
              try clear c7b0
              try clear c7b1
              try clear c18
              try clear c18b0
              try clear c18b1
              try clear c19
              try clear c19b0
              try clear c19b1
              try clear c20
              try clear c20b0
              try clear c20b1
              try clear c21
              try clear c21b0
              try clear c21b1
              try clear c22
              try clear c22b0
              try clear c22b1
              try clear c23
              try clear c23b0
              try clear c23b1
              try clear c25
              try clear c27
              try clear c27b0
              try clear c27b1
              try clear c28
              try clear c28b0
              try clear c28b1
              try clear q32
              try clear q33
              try clear q37
              try clear c41
              try clear p2
              try clear p6
              try clear q3
              try clear q32
              try clear q33
              try clear q37
              obtain ⟨x13_2, rfl, HA, HK2, HO_9, HB⟩ := hrel
              cases gk with
              | zero => exact absurd HA.out (by simp [wayfinderlaw11_DrawPicks.l0])
              | succ k2 =>
                have H := HA.out
                clear HA
                simp only [wayfinderlaw11_DrawPicks.l0] at H
                by_cases c42 : x13_2 < t199
                · rw [if_pos c42] at H
                  have c42b0 : decide (x13_2 < t199) = true := decide_eq_true c42
                  clear c42
                  by_cases c43 : 0 ≤ x13_2
                  · rw [if_pos c43] at H
                    have c43b0 : decide (0 ≤ x13_2) = true := decide_eq_true c43
                    clear c43
                    by_cases c44 : x13_2 < (t201.length : Int)
                    · rw [if_pos c44] at H
                      have c44b0 : decide (x13_2 < (t201.length : Int)) = true := decide_eq_true c44
                      clear c44
                      by_cases c45 : (rd t201 x13_2) < 0
                      · rw [if_pos c45] at H
                        have c45b0 : decide ((rd t201 x13_2) < 0) = true := decide_eq_true c45
                        clear c45
                        obtain rfl := Option.some.inj H
                        obtain ⟨Ao46, co46, eo46⟩ := Kd.V_slice HO_9.out
                        subst eo46
                        have p221 : 0 ≤ (x13_2 : Int) := of_decide_eq_true (by first | (with_reducible assumption) | assumption)
                        have q221 : x13_2 < (t201.length : Int) := of_decide_eq_true (by first | (with_reducible assumption) | assumption)
                        obtain ⟨ad221, e221, hx221_0⟩ := Kd.at_int (Kd.V_reads' HO_9.out).2.2 x13_2 p221 q221
                        cases e221
                        replace p221 := eq_true p221
                        replace q221 := eq_true q221
                        go_wp2
                        repeat (go_quiet (fail); try go_wp2)
                        go_ret
                        exact ⟨by first | rfl | (simp [errW_none, errW_some] <;> rfl) | (simp [*, errW_none, errW_some] <;> rfl), by repeat (first | (with_reducible first | exact HB.out | apply below_alloc | apply pw_below_drewN | apply below_drew1) | exact HB.out)⟩
                      · rw [if_neg c45] at H
                        have c45b0 : decide ((rd t201 x13_2) < 0) = false := decide_eq_false c45
                        clear c45
                        by_cases c47 : (rd t201 x13_2) ≥ (wrap64 (1 + t198))
                        · rw [if_pos c47] at H
                          have c47b0 : decide ((wrap64 (1 + t198)) ≤ (rd t201 x13_2)) = true := decide_eq_true c47
                          clear c47
                          obtain rfl := Option.some.inj H
                          obtain ⟨Ao48, co48, eo48⟩ := Kd.V_slice HO_9.out
                          subst eo48
                          have p221 : 0 ≤ (x13_2 : Int) := of_decide_eq_true (by first | (with_reducible assumption) | assumption)
                          have q221 : x13_2 < (t201.length : Int) := of_decide_eq_true (by first | (with_reducible assumption) | assumption)
                          obtain ⟨ad221, e221, hx221_0⟩ := Kd.at_int (Kd.V_reads' HO_9.out).2.2 x13_2 p221 q221
                          cases e221
                          replace p221 := eq_true p221
                          replace q221 := eq_true q221
                          have p222 : 0 ≤ (x13_2 : Int) := of_decide_eq_true (by first | (with_reducible assumption) | assumption)
                          have q222 : x13_2 < (t201.length : Int) := of_decide_eq_true (by first | (with_reducible assumption) | assumption)
                          obtain ⟨ad222, e222, hx222_0⟩ := Kd.at_int (Kd.V_reads' HO_9.out).2.2 x13_2 p222 q222
                          obtain rfl : ad221 = ad222 := (by injection e222)
                          replace p222 := eq_true p222
                          replace q222 := eq_true q222
                          go_wp2
                          repeat (go_quiet (fail); try go_wp2)
                          go_ret
                          exact ⟨by first | rfl | (simp [errW_none, errW_some] <;> rfl) | (simp [*, errW_none, errW_some] <;> rfl), by repeat (first | (with_reducible first | exact HB.out | apply below_alloc | apply pw_below_drewN | apply below_drew1) | exact HB.out)⟩
                        · rw [if_neg c47] at H
                          have c47b0 : decide ((wrap64 (1 + t198)) ≤ (rd t201 x13_2)) = false := decide_eq_false c47
                          clear c47
                          by_cases c49 : x13_2 ≥ (wrap64 (1 + t198))
                          · rw [if_pos c49] at H
                            have c49b0 : decide ((wrap64 (1 + t198)) ≤ x13_2) = true := decide_eq_true c49
                            clear c49
                            obtain ⟨ji50, hji50⟩ : ∃ j_ : Int, (wrap64 (x13_2 - (wrap64 (1 + t198)))) = j_ := ⟨_, rfl⟩
                            replace H : (if 0 ≤ (ji50) then (if (ji50) < (t201.length : Int) then (if (rd t201 x13_2) = (rd t201 (ji50)) then (wayfinderlaw11_DrawPicks.l0 k2 (wrap64 (1 + t198)) t199 t201 (wrap64 (x13_2 + 1))) else (some false)) else (none)) else (none)) = some r := by first | (rw [hji50] at H; exact H) | (simp only [hji50] at H ⊢; exact H)
                            have hji50w : (IntKind.i64.wrap (x13_2 - (wrap64 (1 + t198)))) = ji50 := (i64_w _).trans hji50
                            by_cases c51 : 0 ≤ (ji50)
                            · rw [if_pos c51] at H
                              have c51b0 : decide (0 ≤ (ji50)) = true := decide_eq_true c51
                              clear c51
                              by_cases c52 : (ji50) < (t201.length : Int)
                              · rw [if_pos c52] at H
                                have c52b0 : decide ((ji50) < (t201.length : Int)) = true := decide_eq_true c52
                                clear c52
                                by_cases c53 : (rd t201 x13_2) = (rd t201 (ji50))
                                · rw [if_pos c53] at H
                                  have c53b0 : ((rd t201 x13_2) == (rd t201 (ji50))) = true := beq_iff_eq.mpr c53
                                  have c53b1 : ((rd t201 x13_2) != (rd t201 (ji50))) = false := bne_eq_false_iff_eq.mpr c53
                                  clear c53
                                  have H' := Aside0.mk H
                                  clear H
                                  obtain ⟨Ao54, co54, eo54⟩ := Kd.V_slice HO_9.out
                                  subst eo54
                                  have p221 : 0 ≤ (x13_2 : Int) := of_decide_eq_true (by first | (with_reducible assumption) | assumption)
                                  have q221 : x13_2 < (t201.length : Int) := of_decide_eq_true (by first | (with_reducible assumption) | assumption)
                                  obtain ⟨ad221, e221, hx221_0⟩ := Kd.at_int (Kd.V_reads' HO_9.out).2.2 x13_2 p221 q221
                                  cases e221
                                  replace p221 := eq_true p221
                                  replace q221 := eq_true q221
                                  have p222 : 0 ≤ (x13_2 : Int) := of_decide_eq_true (by first | (with_reducible assumption) | assumption)
                                  have q222 : x13_2 < (t201.length : Int) := of_decide_eq_true (by first | (with_reducible assumption) | assumption)
                                  obtain ⟨ad222, e222, hx222_0⟩ := Kd.at_int (Kd.V_reads' HO_9.out).2.2 x13_2 p222 q222
                                  obtain rfl : ad221 = ad222 := (by injection e222)
                                  replace p222 := eq_true p222
                                  replace q222 := eq_true q222
                                  have p223 : 0 ≤ (x13_2 : Int) := of_decide_eq_true (by first | (with_reducible assumption) | assumption)
                                  have q223 : x13_2 < (t201.length : Int) := of_decide_eq_true (by first | (with_reducible assumption) | assumption)
                                  obtain ⟨ad223, e223, hx223_0⟩ := Kd.at_int (Kd.V_reads' HO_9.out).2.2 x13_2 p223 q223
                                  obtain rfl : ad221 = ad223 := (by injection e223)
                                  replace p223 := eq_true p223
                                  replace q223 := eq_true q223
                                  have p224 : 0 ≤ ((ji50) : Int) := of_decide_eq_true (by first | (with_reducible assumption) | assumption)
                                  have q224 : (ji50) < (t201.length : Int) := of_decide_eq_true (by first | (with_reducible assumption) | assumption)
                                  obtain ⟨ad224, e224, hx224_0⟩ := Kd.at_int (Kd.V_reads' HO_9.out).2.2 (ji50) p224 q224
                                  obtain rfl : ad221 = ad224 := (by injection e224)
                                  replace p224 := eq_true p224
                                  replace q224 := eq_true q224
                                  go_wp2
                                  repeat (go_quiet (fail); try go_wp2)
                                  go_roundg k2
                                  case measure => have := HJ13.out; have := HK2.out; omega
                                  case rel => exact ⟨(wrap64 (x13_2 + 1)), (by first | rfl | (simp; done) | (simp [*]; done)), H', ⟨by have := HJ13.out; have := HK2.out; omega⟩, ⟨by (with_reducible repeat (first | apply Kd.V_alloc | apply Kd.V_drewN | apply Kd.V_drew)); exact HO_9.out⟩, ⟨by repeat (first | (with_reducible first | exact HB.out | apply below_alloc | apply pw_below_drewN | apply below_drew1) | exact HB.out)⟩⟩
                                · rw [if_neg c53] at H
                                  have c53b0 : ((rd t201 x13_2) == (rd t201 (ji50))) = false := beq_eq_false_iff_ne.mpr c53
                                  have c53b1 : ((rd t201 x13_2) != (rd t201 (ji50))) = true := bne_iff_ne.mpr c53
                                  obtain rfl := Option.some.inj H
                                  obtain ⟨Ao55, co55, eo55⟩ := Kd.V_slice HO_9.out
                                  subst eo55
                                  have p221 : 0 ≤ (x13_2 : Int) := of_decide_eq_true (by first | (with_reducible assumption) | assumption)
                                  have q221 : x13_2 < (t201.length : Int) := of_decide_eq_true (by first | (with_reducible assumption) | assumption)
                                  obtain ⟨ad221, e221, hx221_0⟩ := Kd.at_int (Kd.V_reads' HO_9.out).2.2 x13_2 p221 q221
                                  cases e221
                                  replace p221 := eq_true p221
                                  replace q221 := eq_true q221
                                  have p222 : 0 ≤ (x13_2 : Int) := of_decide_eq_true (by first | (with_reducible assumption) | assumption)
                                  have q222 : x13_2 < (t201.length : Int) := of_decide_eq_true (by first | (with_reducible assumption) | assumption)
                                  obtain ⟨ad222, e222, hx222_0⟩ := Kd.at_int (Kd.V_reads' HO_9.out).2.2 x13_2 p222 q222
                                  obtain rfl : ad221 = ad222 := (by injection e222)
                                  replace p222 := eq_true p222
                                  replace q222 := eq_true q222
                                  have p223 : 0 ≤ (x13_2 : Int) := of_decide_eq_true (by first | (with_reducible assumption) | assumption)
                                  have q223 : x13_2 < (t201.length : Int) := of_decide_eq_true (by first | (with_reducible assumption) | assumption)
                                  obtain ⟨ad223, e223, hx223_0⟩ := Kd.at_int (Kd.V_reads' HO_9.out).2.2 x13_2 p223 q223
                                  obtain rfl : ad221 = ad223 := (by injection e223)
                                  replace p223 := eq_true p223
                                  replace q223 := eq_true q223
                                  have p224 : 0 ≤ ((ji50) : Int) := of_decide_eq_true (by first | (with_reducible assumption) | assumption)
                                  have q224 : (ji50) < (t201.length : Int) := of_decide_eq_true (by first | (with_reducible assumption) | assumption)
                                  obtain ⟨ad224, e224, hx224_0⟩ := Kd.at_int (Kd.V_reads' HO_9.out).2.2 (ji50) p224 q224
                                  obtain rfl : ad221 = ad224 := (by injection e224)
                                  replace p224 := eq_true p224
                                  replace q224 := eq_true q224
                                  go_wp2
                                  repeat (go_quiet (fail); try go_wp2)
                                  go_ret
                                  exact ⟨by first | rfl | (simp [errW_none, errW_some] <;> rfl) | (simp only [← hji50]; first | rfl | (simp [errW_none, errW_some] <;> rfl)) | (simp [*, errW_none, errW_some] <;> rfl), by repeat (first | (with_reducible first | exact HB.out | apply below_alloc | apply pw_below_drewN | apply below_drew1) | exact HB.out)⟩
                              · rw [if_neg c52] at H
                                exact absurd H (by simp)
                            · rw [if_neg c51] at H
                              exact absurd H (by simp)
                          · rw [if_neg c49] at H
                            have c49b0 : decide ((wrap64 (1 + t198)) ≤ x13_2) = false := decide_eq_false c49
                            clear c49
                            have H' := Aside0.mk H
                            clear H
                            obtain ⟨Ao56, co56, eo56⟩ := Kd.V_slice HO_9.out
                            subst eo56
                            have p221 : 0 ≤ (x13_2 : Int) := of_decide_eq_true (by first | (with_reducible assumption) | assumption)
                            have q221 : x13_2 < (t201.length : Int) := of_decide_eq_true (by first | (with_reducible assumption) | assumption)
                            obtain ⟨ad221, e221, hx221_0⟩ := Kd.at_int (Kd.V_reads' HO_9.out).2.2 x13_2 p221 q221
                            cases e221
                            replace p221 := eq_true p221
                            replace q221 := eq_true q221
                            have p222 : 0 ≤ (x13_2 : Int) := of_decide_eq_true (by first | (with_reducible assumption) | assumption)
                            have q222 : x13_2 < (t201.length : Int) := of_decide_eq_true (by first | (with_reducible assumption) | assumption)
                            obtain ⟨ad222, e222, hx222_0⟩ := Kd.at_int (Kd.V_reads' HO_9.out).2.2 x13_2 p222 q222
                            obtain rfl : ad221 = ad222 := (by injection e222)
                            replace p222 := eq_true p222
                            replace q222 := eq_true q222
                            go_wp2
                            repeat (go_quiet (fail); try go_wp2)
                            go_roundg k2
                            case measure => have := HJ13.out; have := HK2.out; omega
                            case rel => exact ⟨(wrap64 (x13_2 + 1)), (by first | rfl | (simp; done) | (simp [*]; done)), H', ⟨by have := HJ13.out; have := HK2.out; omega⟩, ⟨by (with_reducible repeat (first | apply Kd.V_alloc | apply Kd.V_drewN | apply Kd.V_drew)); exact HO_9.out⟩, ⟨by repeat (first | (with_reducible first | exact HB.out | apply below_alloc | apply pw_below_drewN | apply below_drew1) | exact HB.out)⟩⟩
                    · rw [if_neg c44] at H
                      exact absurd H (by simp)
                  · rw [if_neg c43] at H
                    exact absurd H (by simp)
                · rw [if_neg c42] at H
                  have c42b0 : decide (x13_2 < t199) = false := decide_eq_false c42
                  clear c42
                  obtain rfl := Option.some.inj H
                  go_wp2
                  repeat (go_quiet (fail); try go_wp2)
                  go_ret
                  exact ⟨by first | rfl | (simp [errW_none, errW_some] <;> rfl) | (simp [*, errW_none, errW_some] <;> rfl), by repeat (first | (with_reducible first | exact HB.out | apply below_alloc | apply pw_below_drewN | apply below_drew1) | exact HB.out)⟩
  · replace c6 := Bool.eq_false_iff.mpr c6
    subst c6
    have H1 : (some false) = some r := by rw [if_neg (show ¬ (false = true) by decide)] at H; exact H
    clear H
    have H := H1
    clear H1
    obtain rfl := Option.some.inj H
    go_enter Try.func5, Try.ntmps5
    go_wp2_with (first | (go_at_call 13; (with_reducible refine (wayfinderlaw11_lives.calls k  false _ A5.out).mono ?_); rintro e w57 ⟨rfl, hb⟩; have n0_ := Aside0.mk (below_step (by repeat (first | (with_reducible first | exact HB.out | apply below_alloc | apply pw_below_drewN | apply below_drew1) | exact HB.out)) hb); clear HB; have HB := n0_; clear n0_; (try clear hb); (try clear hb2); (try clear hk); (try clear hi)))
    repeat (go_quiet (first | (go_at_call 13; (with_reducible refine (wayfinderlaw11_lives.calls k  false _ A5.out).mono ?_); rintro e w57 ⟨rfl, hb⟩; have n0_ := Aside0.mk (below_step (by repeat (first | (with_reducible first | exact HB.out | apply below_alloc | apply pw_below_drewN | apply below_drew1) | exact HB.out)) hb); clear HB; have HB := n0_; clear n0_; (try clear hb); (try clear hb2); (try clear hk); (try clear hi))); try go_wp2_with (first | (go_at_call 13; (with_reducible refine (wayfinderlaw11_lives.calls k  false _ A5.out).mono ?_); rintro e w57 ⟨rfl, hb⟩; have n0_ := Aside0.mk (below_step (by repeat (first | (with_reducible first | exact HB.out | apply below_alloc | apply pw_below_drewN | apply below_drew1) | exact HB.out)) hb); clear HB; have HB := n0_; clear n0_; (try clear hb); (try clear hb2); (try clear hk); (try clear hi))))
    go_ret
    exact ⟨by first | rfl | (simp [errW_none, errW_some] <;> rfl) | (simp [*, errW_none, errW_some] <;> rfl), by repeat (first | (with_reducible first | exact HB.out | apply below_alloc | apply pw_below_drewN | apply below_drew1) | exact HB.out)⟩

/-- THE ONE PURE STATEMENT of wayfinderlaw11_DrawPicks: yours. -/
def wayfinderlaw11_DrawPicks.Pure : Prop := ∀ (l0 : List Int) (a1 : Int) (a2 : Int) (a3 : Int), l0.length ≤ maxLen → l0.length * 8 ≤ 140737488351232 → (∀ x ∈ l0, (Lit.int .u64 x).wf = true) → (Lit.int .i64 a1).wf = true → (Lit.int .i64 a2).wf = true → (Lit.int .i64 a3).wf = true → ∃ k, wayfinderlaw11_DrawPicks.f k l0 a1 a2 a3 = some true
theorem wayfinderlaw11_DrawPicks.walk (P : wayfinderlaw11_DrawPicks.Pure) (a0 : Option Addr) (len0 cap0 : Nat) (z0 : List Int) (a1 : Int) (a2 : Int) (a3 : Int) (w : World) (w0 : (a0 = none ∧ len0 = 0 ∧ cap0 = 0 ∧ z0 = []) ∨ ∃ x, a0 = some x ∧ len0 ≤ cap0 ∧ cap0 ≤ maxLen ∧ z0.length = cap0 ∧ (∀ i, i < z0.length → w.cell? (x.add i) = some (.int .u64 (z0.getD i 0))) ∧ ∀ n ∈ z0, (Lit.int .u64 n).wf = true) (y0 : len0 * 8 ≤ 140737488351232) (w1 : (Lit.int .i64 a1).wf = true) (w2 : (Lit.int .i64 a2).wf = true) (w3 : (Lit.int .i64 a3).wf = true) :
    Calls Try.prog 5 #[.slice a0 len0 cap0, .int .i64 a1, .int .i64 a2, .int .i64 a3] w fun e w' => e = .returned (.bool true) ∧ Below w.heap.size w w' := by
  obtain ⟨l0, rfl, hr0, hm0, hw0, hc0⟩ := ReadsInt.ofRowC w0
  obtain ⟨k, h⟩ := P l0 a1 a2 a3 hm0 y0 hw0 w1 w2 w3
  refine (wayfinderlaw11_DrawPicks.calls k _ _ l0 a1 a2 a3 true w (Kd.C_of_reads (d := (0 : Int)) (h1 := fun _ => rfl) hr0) hc0 h).mono ?_
  rintro e w' ⟨rfl, hd⟩
  exact ⟨rfl, hd⟩

/-! ### draw_Draw: function 20 -/
def draw_Draw.f (l0 : List Int) (a1 : Int) : Option (Int) := if a1 < 0 then (some 0) else (if (l0.length : Int) = 0 then (some 0) else (if 0 ≤ (Int.tmod a1 (l0.length : Int)) then (if (Int.tmod a1 (l0.length : Int)) < (l0.length : Int) then (some (rd l0 (Int.tmod a1 (l0.length : Int)))) else (none)) else (none)))
set_option maxHeartbeats 8000000 in
set_option maxRecDepth 100000 in
theorem draw_Draw.calls (A0 : Option Addr) (c0 : Nat) (l0 : List Int) (a1 : Int) (r : Int) (w : World) (hr0 : Kd.C (Kd.int .u64) w A0 l0.length l0) (hc0 : l0.length ≤ c0) (h : draw_Draw.f l0 a1 = some r) :
    Calls Try.prog 20 #[.slice A0 l0.length c0, .int .i64 a1] w fun e w' => e = .returned (.int .u64 r) ∧ Drawn0 w w' := by
  have HR0 := Aside0.mk hr0
  have HC0 := Aside0.mk hc0
  clear hr0 hc0
  have H : (if a1 < 0 then (some 0) else (if (l0.length : Int) = 0 then (some 0) else (if 0 ≤ (Int.tmod a1 (l0.length : Int)) then (if (Int.tmod a1 (l0.length : Int)) < (l0.length : Int) then (some (rd l0 (Int.tmod a1 (l0.length : Int)))) else (none)) else (none)))) = some r := h
  clear h
  by_cases c3 : a1 < 0
  · rw [if_pos c3] at H
    have c3b0 : decide (a1 < 0) = true := decide_eq_true c3
    clear c3
    obtain rfl := Option.some.inj H
    go_enter Try.func20, Try.ntmps20
    go_wp2
    go_ret
    exact ⟨by first | rfl | (simp; done) | (simp [*]; done), by repeat (first | exact Drawn0.refl _ | apply Drawn0.step)⟩
  · rw [if_neg c3] at H
    have c3b0 : decide (a1 < 0) = false := decide_eq_false c3
    clear c3
    by_cases c4 : (l0.length : Int) = 0
    · rw [if_pos c4] at H
      have c4b0 : ((l0.length : Int) == 0) = true := beq_iff_eq.mpr c4
      have c4b1 : ((l0.length : Int) != 0) = false := bne_eq_false_iff_eq.mpr c4
      clear c4
      obtain rfl := Option.some.inj H
      go_enter Try.func20, Try.ntmps20
      go_wp2
      go_ret
      exact ⟨by first | rfl | (simp; done) | (simp [*]; done), by repeat (first | exact Drawn0.refl _ | apply Drawn0.step)⟩
    · rw [if_neg c4] at H
      have c4b0 : ((l0.length : Int) == 0) = false := beq_eq_false_iff_ne.mpr c4
      have c4b1 : ((l0.length : Int) != 0) = true := bne_iff_ne.mpr c4
      have c4b2 : ¬ (l0 = []) := fun h_ => c4 (by rw [h_]; rfl)
      obtain ⟨ji5, hji5⟩ : ∃ j_ : Int, (Int.tmod a1 (l0.length : Int)) = j_ := ⟨_, rfl⟩
      replace H : (if 0 ≤ (ji5) then (if (ji5) < (l0.length : Int) then (some (rd l0 (ji5))) else (none)) else (none)) = some r := by first | (rw [hji5] at H; exact H) | (simp only [hji5] at H ⊢; exact H)
      by_cases c6 : 0 ≤ (ji5)
      · rw [if_pos c6] at H
        have c6b0 : decide (0 ≤ (ji5)) = true := decide_eq_true c6
        clear c6
        by_cases c7 : (ji5) < (l0.length : Int)
        · rw [if_pos c7] at H
          have c7b0 : decide ((ji5) < (l0.length : Int)) = true := decide_eq_true c7
          clear c7
          obtain rfl := Option.some.inj H
          have p225 : 0 ≤ ((ji5) : Int) := of_decide_eq_true (by first | (with_reducible assumption) | assumption)
          have q225 : (ji5) < (l0.length : Int) := of_decide_eq_true (by first | (with_reducible assumption) | assumption)
          obtain ⟨ad225, e225, hx225_0⟩ := Kd.at_int HR0.out (ji5) p225 q225
          cases e225
          replace p225 := eq_true p225
          replace q225 := eq_true q225
          go_enter Try.func20, Try.ntmps20
          go_wp2
          go_ret
          exact ⟨by first | rfl | (simp; done) | (simp only [← hji5] <;> (first | rfl | simp)) | (simp [*]; done), by repeat (first | exact Drawn0.refl _ | apply Drawn0.step)⟩
        · rw [if_neg c7] at H
          exact absurd H (by simp)
      · rw [if_neg c6] at H
        exact absurd H (by simp)

-- NOT PRINTED: function 6 (wayfinderlaw11_DrawNames)

/-! ### wayfinderref11_Draw: function 23 -/
def wayfinderref11_Draw.f (l0 : List Int) (a1 : Int) : Option (Int) := if a1 < 0 then (some 0) else (if (l0.length : Int) = 0 then (some 0) else (if 0 ≤ (Int.tmod a1 (l0.length : Int)) then (if (Int.tmod a1 (l0.length : Int)) < (l0.length : Int) then (some (rd l0 (Int.tmod a1 (l0.length : Int)))) else (none)) else (none)))
set_option maxHeartbeats 8000000 in
set_option maxRecDepth 100000 in
theorem wayfinderref11_Draw.calls (A0 : Option Addr) (c0 : Nat) (l0 : List Int) (a1 : Int) (r : Int) (w : World) (hr0 : Kd.C (Kd.int .u64) w A0 l0.length l0) (hc0 : l0.length ≤ c0) (h : wayfinderref11_Draw.f l0 a1 = some r) :
    Calls Try.prog 23 #[.slice A0 l0.length c0, .int .i64 a1] w fun e w' => e = .returned (.int .u64 r) ∧ Drawn0 w w' := by
  have HR0 := Aside0.mk hr0
  have HC0 := Aside0.mk hc0
  clear hr0 hc0
  have H : (if a1 < 0 then (some 0) else (if (l0.length : Int) = 0 then (some 0) else (if 0 ≤ (Int.tmod a1 (l0.length : Int)) then (if (Int.tmod a1 (l0.length : Int)) < (l0.length : Int) then (some (rd l0 (Int.tmod a1 (l0.length : Int)))) else (none)) else (none)))) = some r := h
  clear h
  by_cases c3 : a1 < 0
  · rw [if_pos c3] at H
    have c3b0 : decide (a1 < 0) = true := decide_eq_true c3
    clear c3
    obtain rfl := Option.some.inj H
    go_enter Try.func23, Try.ntmps23
    go_wp2
    go_ret
    exact ⟨by first | rfl | (simp; done) | (simp [*]; done), by repeat (first | exact Drawn0.refl _ | apply Drawn0.step)⟩
  · rw [if_neg c3] at H
    have c3b0 : decide (a1 < 0) = false := decide_eq_false c3
    clear c3
    by_cases c4 : (l0.length : Int) = 0
    · rw [if_pos c4] at H
      have c4b0 : ((l0.length : Int) == 0) = true := beq_iff_eq.mpr c4
      have c4b1 : ((l0.length : Int) != 0) = false := bne_eq_false_iff_eq.mpr c4
      clear c4
      obtain rfl := Option.some.inj H
      go_enter Try.func23, Try.ntmps23
      go_wp2
      go_ret
      exact ⟨by first | rfl | (simp; done) | (simp [*]; done), by repeat (first | exact Drawn0.refl _ | apply Drawn0.step)⟩
    · rw [if_neg c4] at H
      have c4b0 : ((l0.length : Int) == 0) = false := beq_eq_false_iff_ne.mpr c4
      have c4b1 : ((l0.length : Int) != 0) = true := bne_iff_ne.mpr c4
      have c4b2 : ¬ (l0 = []) := fun h_ => c4 (by rw [h_]; rfl)
      obtain ⟨ji5, hji5⟩ : ∃ j_ : Int, (Int.tmod a1 (l0.length : Int)) = j_ := ⟨_, rfl⟩
      replace H : (if 0 ≤ (ji5) then (if (ji5) < (l0.length : Int) then (some (rd l0 (ji5))) else (none)) else (none)) = some r := by first | (rw [hji5] at H; exact H) | (simp only [hji5] at H ⊢; exact H)
      by_cases c6 : 0 ≤ (ji5)
      · rw [if_pos c6] at H
        have c6b0 : decide (0 ≤ (ji5)) = true := decide_eq_true c6
        clear c6
        by_cases c7 : (ji5) < (l0.length : Int)
        · rw [if_pos c7] at H
          have c7b0 : decide ((ji5) < (l0.length : Int)) = true := decide_eq_true c7
          clear c7
          obtain rfl := Option.some.inj H
          have p276 : 0 ≤ ((ji5) : Int) := of_decide_eq_true (by first | (with_reducible assumption) | assumption)
          have q276 : (ji5) < (l0.length : Int) := of_decide_eq_true (by first | (with_reducible assumption) | assumption)
          obtain ⟨ad276, e276, hx276_0⟩ := Kd.at_int HR0.out (ji5) p276 q276
          cases e276
          replace p276 := eq_true p276
          replace q276 := eq_true q276
          go_enter Try.func23, Try.ntmps23
          go_wp2
          go_ret
          exact ⟨by first | rfl | (simp; done) | (simp only [← hji5] <;> (first | rfl | simp)) | (simp [*]; done), by repeat (first | exact Drawn0.refl _ | apply Drawn0.step)⟩
        · rw [if_neg c7] at H
          exact absurd H (by simp)
      · rw [if_neg c6] at H
        exact absurd H (by simp)

end Go.Proofs.Ytkippapoicdlhaa.Dr
