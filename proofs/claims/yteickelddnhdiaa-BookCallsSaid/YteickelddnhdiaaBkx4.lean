/- Lean functions with the answers of Go functions, and the proofs that the Go code comes to them (printed by wip/gen/hyb.py). -/
import Derived.Test.YteickelddnhdiaaBkx0
import Derived.Test.YteickelddnhdiaaBkx3
namespace Go.Proofs.Yteickelddnhdiaa.Bk
open Go.RowKit Go.Proofs.YteickelddnhdiaaW.PrintWords Go.Proofs.YteickelddnhdiaaW.PrintLast Go.Proofs.YteickelddnhdiaaW.PrintMore
attribute [local go_sem] max2_int min2_int max_two min_two max_three min_three max_four min_four   -- for this text's walks alone
set_option linter.unusedVariables false
set_option linter.unusedSimpArgs false

mutual
def wayfinderref15_Check.j0 : Nat → Int → Bool → List (List (List Int)) → Option (Int)
  | 0, _, _, _ => none
  | k + 1, x3, x34, x222000 => if x34 = true then (some 2) else (if 0 < (x222000.length : Int) then (if 0 < ((rd_L3 x222000 0).length : Int) then (if ((rd_L2 (rd_L3 x222000 0) 0).length : Int) < 1 then (wayfinderref15_Check.j1 k x3 ((rd_L3 x222000 0).length : Int) ((rd_L2 (rd_L3 x222000 0) 0).length : Int) true x222000) else (wayfinderref15_Check.j1 k x3 ((rd_L3 x222000 0).length : Int) ((rd_L2 (rd_L3 x222000 0) 0).length : Int) (decide ((wrap64 (x3 * ((rd_L2 (rd_L3 x222000 0) 0).length : Int))) > 1024)) x222000)) else (none)) else (none))
def wayfinderref15_Check.j1 : Nat → Int → Int → Int → Bool → List (List (List Int)) → Option (Int)
  | 0, _, _, _, _, _ => none
  | k + 1, x3, x4, x5, x54, x222000 => if x54 = true then (some 2) else (wayfinderref15_Check.l0 k x3 x4 x5 0 x222000)
def wayfinderref15_Check.l0 : Nat → Int → Int → Int → Int → List (List (List Int)) → Option (Int)
  | 0, _, _, _, _, _ => none
  | k + 1, x3, x4, x5, x6, x222000 => if x6 < x3 then (if 0 ≤ x6 then (if x6 < (x222000.length : Int) then (if ((rd_L3 x222000 x6).length : Int) = x4 then (wayfinderref15_Check.l1 k x3 x4 x5 x6 0 x222000) else (some 2)) else (none)) else (none)) else (wayfinderref15_Check.l2 k x3 x4 0 x222000)
def wayfinderref15_Check.l1 : Nat → Int → Int → Int → Int → Int → List (List (List Int)) → Option (Int)
  | 0, _, _, _, _, _, _ => none
  | k + 1, x3, x4, x5, x6, x7, x222000 => if x7 < x4 then (if 0 ≤ x6 then (if x6 < (x222000.length : Int) then (if 0 ≤ x7 then (if x7 < ((rd_L3 x222000 x6).length : Int) then (if ((rd_L2 (rd_L3 x222000 x6) x7).length : Int) = x5 then (wayfinderref15_Check.l1 k x3 x4 x5 x6 (wrap64 (x7 + 1)) x222000) else (some 2)) else (none)) else (none)) else (none)) else (none)) else (wayfinderref15_Check.l0 k x3 x4 x5 (wrap64 (x6 + 1)) x222000)
def wayfinderref15_Check.l2 : Nat → Int → Int → Int → List (List (List Int)) → Option (Int)
  | 0, _, _, _, _ => none
  | k + 1, x3, x4, x8, x222000 => if x8 < x3 then (wayfinderref15_Check.l3 k x3 x4 x8 0 x222000) else (some 0)
def wayfinderref15_Check.l3 : Nat → Int → Int → Int → Int → List (List (List Int)) → Option (Int)
  | 0, _, _, _, _, _ => none
  | k + 1, x3, x4, x8, x9, x222000 => if x9 < x4 then (if 0 ≤ x8 then (if x8 < (x222000.length : Int) then (if 0 ≤ x9 then (if x9 < ((rd_L3 x222000 x8).length : Int) then ((wayfinderref03_CheckWide.f k (rd_L2 (rd_L3 x222000 x8) x9)).bind fun t232 => (if t232 = 0 then (wayfinderref15_Check.l3 k x3 x4 x8 (wrap64 (x9 + 1)) x222000) else (some 11))) else (none)) else (none)) else (none)) else (none)) else (wayfinderref15_Check.l2 k x3 x4 (wrap64 (x8 + 1)) x222000)
end
def wayfinderref15_Check.f (k : Nat) (l0_0 : List (List (List Int))) : Option (Int) := if (l0_0.length : Int) < 1 then (wayfinderref15_Check.j0 k (l0_0.length : Int) true l0_0) else (if (l0_0.length : Int) > 1024 then (wayfinderref15_Check.j0 k (l0_0.length : Int) true l0_0) else (if 0 < (l0_0.length : Int) then (if ((rd_L3 l0_0 0).length : Int) < 1 then (wayfinderref15_Check.j0 k (l0_0.length : Int) true l0_0) else (wayfinderref15_Check.j0 k (l0_0.length : Int) (decide (((rd_L3 l0_0 0).length : Int) > 256)) l0_0)) else (none)))
theorem wayfinderref15_Check.mono_l : ∀ k, (∀ y0 y1 y2, LeO (wayfinderref15_Check.j0 k y0 y1 y2) (wayfinderref15_Check.j0 (k + 1) y0 y1 y2)) ∧ (∀ y0 y1 y2 y3 y4, LeO (wayfinderref15_Check.j1 k y0 y1 y2 y3 y4) (wayfinderref15_Check.j1 (k + 1) y0 y1 y2 y3 y4)) ∧ (∀ y0 y1 y2 y3 y4, LeO (wayfinderref15_Check.l0 k y0 y1 y2 y3 y4) (wayfinderref15_Check.l0 (k + 1) y0 y1 y2 y3 y4)) ∧ (∀ y0 y1 y2 y3 y4 y5, LeO (wayfinderref15_Check.l1 k y0 y1 y2 y3 y4 y5) (wayfinderref15_Check.l1 (k + 1) y0 y1 y2 y3 y4 y5)) ∧ (∀ y0 y1 y2 y3, LeO (wayfinderref15_Check.l2 k y0 y1 y2 y3) (wayfinderref15_Check.l2 (k + 1) y0 y1 y2 y3)) ∧ (∀ y0 y1 y2 y3 y4, LeO (wayfinderref15_Check.l3 k y0 y1 y2 y3 y4) (wayfinderref15_Check.l3 (k + 1) y0 y1 y2 y3 y4))
  | 0 => ⟨fun _ _ _ r h => by simp [wayfinderref15_Check.j0] at h, fun _ _ _ _ _ r h => by simp [wayfinderref15_Check.j1] at h, fun _ _ _ _ _ r h => by simp [wayfinderref15_Check.l0] at h, fun _ _ _ _ _ _ r h => by simp [wayfinderref15_Check.l1] at h, fun _ _ _ _ r h => by simp [wayfinderref15_Check.l2] at h, fun _ _ _ _ _ r h => by simp [wayfinderref15_Check.l3] at h⟩
  | k + 1 => by
    obtain ⟨ih0, ih1, ih2, ih3, ih4, ih5⟩ := wayfinderref15_Check.mono_l k
    refine ⟨?_, ?_, ?_, ?_, ?_, ?_⟩
    · intro y0 y1 y2
      unfold wayfinderref15_Check.j0
      repeat' first
      | (with_reducible exact ih0 _ _ _)
      | (with_reducible exact ih1 _ _ _ _ _)
      | (with_reducible exact ih2 _ _ _ _ _)
      | (with_reducible exact ih3 _ _ _ _ _ _)
      | (with_reducible exact ih4 _ _ _ _)
      | (with_reducible exact ih5 _ _ _ _ _)
      | (with_reducible exact wayfinderref03_CheckWide.mono _ _)
      | (with_reducible exact LeO.refl _)
      | (with_reducible exact LeO.none _)
      | (with_reducible refine LeO.ite ?_ ?_)
      | (with_reducible refine LeO.bind ?_ (fun _ => ?_))
      | exact ih0 _ _ _
      | exact ih1 _ _ _ _ _
      | exact ih2 _ _ _ _ _
      | exact ih3 _ _ _ _ _ _
      | exact ih4 _ _ _ _
      | exact ih5 _ _ _ _ _
      | exact wayfinderref03_CheckWide.mono _ _
      | exact LeO.none _
      | refine LeO.ite ?_ ?_
      | refine LeO.bind ?_ (fun _ => ?_)
    · intro y0 y1 y2 y3 y4
      unfold wayfinderref15_Check.j1
      repeat' first
      | (with_reducible exact ih0 _ _ _)
      | (with_reducible exact ih1 _ _ _ _ _)
      | (with_reducible exact ih2 _ _ _ _ _)
      | (with_reducible exact ih3 _ _ _ _ _ _)
      | (with_reducible exact ih4 _ _ _ _)
      | (with_reducible exact ih5 _ _ _ _ _)
      | (with_reducible exact wayfinderref03_CheckWide.mono _ _)
      | (with_reducible exact LeO.refl _)
      | (with_reducible exact LeO.none _)
      | (with_reducible refine LeO.ite ?_ ?_)
      | (with_reducible refine LeO.bind ?_ (fun _ => ?_))
      | exact ih0 _ _ _
      | exact ih1 _ _ _ _ _
      | exact ih2 _ _ _ _ _
      | exact ih3 _ _ _ _ _ _
      | exact ih4 _ _ _ _
      | exact ih5 _ _ _ _ _
      | exact wayfinderref03_CheckWide.mono _ _
      | exact LeO.none _
      | refine LeO.ite ?_ ?_
      | refine LeO.bind ?_ (fun _ => ?_)
    · intro y0 y1 y2 y3 y4
      unfold wayfinderref15_Check.l0
      repeat' first
      | (with_reducible exact ih0 _ _ _)
      | (with_reducible exact ih1 _ _ _ _ _)
      | (with_reducible exact ih2 _ _ _ _ _)
      | (with_reducible exact ih3 _ _ _ _ _ _)
      | (with_reducible exact ih4 _ _ _ _)
      | (with_reducible exact ih5 _ _ _ _ _)
      | (with_reducible exact wayfinderref03_CheckWide.mono _ _)
      | (with_reducible exact LeO.refl _)
      | (with_reducible exact LeO.none _)
      | (with_reducible refine LeO.ite ?_ ?_)
      | (with_reducible refine LeO.bind ?_ (fun _ => ?_))
      | exact ih0 _ _ _
      | exact ih1 _ _ _ _ _
      | exact ih2 _ _ _ _ _
      | exact ih3 _ _ _ _ _ _
      | exact ih4 _ _ _ _
      | exact ih5 _ _ _ _ _
      | exact wayfinderref03_CheckWide.mono _ _
      | exact LeO.none _
      | refine LeO.ite ?_ ?_
      | refine LeO.bind ?_ (fun _ => ?_)
    · intro y0 y1 y2 y3 y4 y5
      unfold wayfinderref15_Check.l1
      repeat' first
      | (with_reducible exact ih0 _ _ _)
      | (with_reducible exact ih1 _ _ _ _ _)
      | (with_reducible exact ih2 _ _ _ _ _)
      | (with_reducible exact ih3 _ _ _ _ _ _)
      | (with_reducible exact ih4 _ _ _ _)
      | (with_reducible exact ih5 _ _ _ _ _)
      | (with_reducible exact wayfinderref03_CheckWide.mono _ _)
      | (with_reducible exact LeO.refl _)
      | (with_reducible exact LeO.none _)
      | (with_reducible refine LeO.ite ?_ ?_)
      | (with_reducible refine LeO.bind ?_ (fun _ => ?_))
      | exact ih0 _ _ _
      | exact ih1 _ _ _ _ _
      | exact ih2 _ _ _ _ _
      | exact ih3 _ _ _ _ _ _
      | exact ih4 _ _ _ _
      | exact ih5 _ _ _ _ _
      | exact wayfinderref03_CheckWide.mono _ _
      | exact LeO.none _
      | refine LeO.ite ?_ ?_
      | refine LeO.bind ?_ (fun _ => ?_)
    · intro y0 y1 y2 y3
      unfold wayfinderref15_Check.l2
      repeat' first
      | (with_reducible exact ih0 _ _ _)
      | (with_reducible exact ih1 _ _ _ _ _)
      | (with_reducible exact ih2 _ _ _ _ _)
      | (with_reducible exact ih3 _ _ _ _ _ _)
      | (with_reducible exact ih4 _ _ _ _)
      | (with_reducible exact ih5 _ _ _ _ _)
      | (with_reducible exact wayfinderref03_CheckWide.mono _ _)
      | (with_reducible exact LeO.refl _)
      | (with_reducible exact LeO.none _)
      | (with_reducible refine LeO.ite ?_ ?_)
      | (with_reducible refine LeO.bind ?_ (fun _ => ?_))
      | exact ih0 _ _ _
      | exact ih1 _ _ _ _ _
      | exact ih2 _ _ _ _ _
      | exact ih3 _ _ _ _ _ _
      | exact ih4 _ _ _ _
      | exact ih5 _ _ _ _ _
      | exact wayfinderref03_CheckWide.mono _ _
      | exact LeO.none _
      | refine LeO.ite ?_ ?_
      | refine LeO.bind ?_ (fun _ => ?_)
    · intro y0 y1 y2 y3 y4
      unfold wayfinderref15_Check.l3
      repeat' first
      | (with_reducible exact ih0 _ _ _)
      | (with_reducible exact ih1 _ _ _ _ _)
      | (with_reducible exact ih2 _ _ _ _ _)
      | (with_reducible exact ih3 _ _ _ _ _ _)
      | (with_reducible exact ih4 _ _ _ _)
      | (with_reducible exact ih5 _ _ _ _ _)
      | (with_reducible exact wayfinderref03_CheckWide.mono _ _)
      | (with_reducible exact LeO.refl _)
      | (with_reducible exact LeO.none _)
      | (with_reducible refine LeO.ite ?_ ?_)
      | (with_reducible refine LeO.bind ?_ (fun _ => ?_))
      | exact ih0 _ _ _
      | exact ih1 _ _ _ _ _
      | exact ih2 _ _ _ _ _
      | exact ih3 _ _ _ _ _ _
      | exact ih4 _ _ _ _
      | exact ih5 _ _ _ _ _
      | exact wayfinderref03_CheckWide.mono _ _
      | exact LeO.none _
      | refine LeO.ite ?_ ?_
      | refine LeO.bind ?_ (fun _ => ?_)
theorem wayfinderref15_Check.mono : ∀ a0 k, LeO (wayfinderref15_Check.f k a0) (wayfinderref15_Check.f (k + 1) a0) := by
  intro a0 k
  obtain ⟨ih0, ih1, ih2, ih3, ih4, ih5⟩ := wayfinderref15_Check.mono_l k
  unfold wayfinderref15_Check.f
  repeat' first
      | (with_reducible exact ih0 _ _ _)
      | (with_reducible exact ih1 _ _ _ _ _)
      | (with_reducible exact ih2 _ _ _ _ _)
      | (with_reducible exact ih3 _ _ _ _ _ _)
      | (with_reducible exact ih4 _ _ _ _)
      | (with_reducible exact ih5 _ _ _ _ _)
      | (with_reducible exact wayfinderref03_CheckWide.mono _ _)
      | (with_reducible exact LeO.refl _)
      | (with_reducible exact LeO.none _)
      | (with_reducible refine LeO.ite ?_ ?_)
      | (with_reducible refine LeO.bind ?_ (fun _ => ?_))
      | exact ih0 _ _ _
      | exact ih1 _ _ _ _ _
      | exact ih2 _ _ _ _ _
      | exact ih3 _ _ _ _ _ _
      | exact ih4 _ _ _ _
      | exact ih5 _ _ _ _ _
      | exact wayfinderref03_CheckWide.mono _ _
      | exact LeO.none _
      | refine LeO.ite ?_ ?_
      | refine LeO.bind ?_ (fun _ => ?_)
set_option maxHeartbeats 8000000 in
set_option maxRecDepth 100000 in
theorem wayfinderref15_Check.calls (k : Nat) (A0_0 : Option Addr) (c0_0 : Nat) (l0_0 : List (List (List Int))) (r : Int) (w : World) (hr0_0 : Kd.C (Kd.slice 39 (Kd.slice 21 (Kd.int .i32))) w A0_0 l0_0.length l0_0) (hc0_0 : l0_0.length ≤ c0_0) (h : wayfinderref15_Check.f k l0_0 = some r) :
    Calls Try.prog 53 #[.agg #[.slice A0_0 l0_0.length c0_0]] w fun e w' => e = .returned (.int .i64 r) ∧ Below w.heap.size w w' := by
  have hu53 := Try.underlying53
  have HR0_0 := Aside0.mk hr0_0
  have HC0_0 := Aside0.mk hc0_0
  clear hr0_0 hc0_0
  have HB := Aside0.mk (Below.refl w.heap.size w)
  have H : (if (l0_0.length : Int) < 1 then (wayfinderref15_Check.j0 k (l0_0.length : Int) true l0_0) else (if (l0_0.length : Int) > 1024 then (wayfinderref15_Check.j0 k (l0_0.length : Int) true l0_0) else (if 0 < (l0_0.length : Int) then (if ((rd_L3 l0_0 0).length : Int) < 1 then (wayfinderref15_Check.j0 k (l0_0.length : Int) true l0_0) else (wayfinderref15_Check.j0 k (l0_0.length : Int) (decide (((rd_L3 l0_0 0).length : Int) > 256)) l0_0)) else (none)))) = some r := h
  clear h
  have HC2 := Aside0.mk H
  clear H
  go_enter Try.func53, Try.ntmps53
  go_upto_region 2 with (first | ((with_reducible refine gate_dst (N := 1) rfl ?_); (try (refine gate_guard (by rfl) ?_; dsimp only)); refine box_event ?hg (N := 1) ?hd (cs := #[.slice A0_0 l0_0.length c0_0]) (t := 53) ?hr ?_; (case hd => rfl); (case hg => rfl); (case hr => first | (go_simp; done) | (go_simp; rfl)); intro gb221 hg w3 hbox hb; have n0_ := Aside0.mk (below_step (by repeat (first | (with_reducible first | exact HB.out | apply below_alloc | apply pw_below_drewN | apply below_drew1) | exact HB.out)) hb); have n1_ := Aside0.mk (hbox); have n2_ := Aside0.mk ((by rw [hg]; exact (below_size (by repeat (first | (with_reducible first | exact HB.out | apply below_alloc | apply pw_below_drewN | apply below_drew1) | exact HB.out))) : w.heap.size ≤ gb221)); have n3_ := Aside0.mk ((by rw [hg]; exact (below_size (by repeat (first | (with_reducible first | exact HB.out | apply below_alloc | apply pw_below_drewN | apply below_drew1) | exact HB.out))) : w.heap.size ≤ gb221)); clear HB; have HB := n0_; have BK221 := n1_; have GW221 := n2_; have GE221 := n3_; clear n0_ n1_ n2_ n3_; clear hb hbox hg; have hcz4_0 : w3.cell? ⟨gb221, 0, none⟩ = some (.slice A0_0 l0_0.length c0_0) := (blk_cell BK221.out 0).trans rfl; have hfz4_0 := blk_frozen BK221.out 0))
  repeat (go_quiet (first | ((with_reducible refine gate_dst (N := 1) rfl ?_); (try (refine gate_guard (by rfl) ?_; dsimp only)); refine box_event ?hg (N := 1) ?hd (cs := #[.slice A0_0 l0_0.length c0_0]) (t := 53) ?hr ?_; (case hd => rfl); (case hg => rfl); (case hr => first | (go_simp; done) | (go_simp; rfl)); intro gb221 hg w3 hbox hb; have n0_ := Aside0.mk (below_step (by repeat (first | (with_reducible first | exact HB.out | apply below_alloc | apply pw_below_drewN | apply below_drew1) | exact HB.out)) hb); have n1_ := Aside0.mk (hbox); have n2_ := Aside0.mk ((by rw [hg]; exact (below_size (by repeat (first | (with_reducible first | exact HB.out | apply below_alloc | apply pw_below_drewN | apply below_drew1) | exact HB.out))) : w.heap.size ≤ gb221)); have n3_ := Aside0.mk ((by rw [hg]; exact (below_size (by repeat (first | (with_reducible first | exact HB.out | apply below_alloc | apply pw_below_drewN | apply below_drew1) | exact HB.out))) : w.heap.size ≤ gb221)); clear HB; have HB := n0_; have BK221 := n1_; have GW221 := n2_; have GE221 := n3_; clear n0_ n1_ n2_ n3_; clear hb hbox hg; have hcz4_0 : w3.cell? ⟨gb221, 0, none⟩ = some (.slice A0_0 l0_0.length c0_0) := (blk_cell BK221.out 0).trans rfl; have hfz4_0 := blk_frozen BK221.out 0)); go_upto_region 2 with (first | ((with_reducible refine gate_dst (N := 1) rfl ?_); (try (refine gate_guard (by rfl) ?_; dsimp only)); refine box_event ?hg (N := 1) ?hd (cs := #[.slice A0_0 l0_0.length c0_0]) (t := 53) ?hr ?_; (case hd => rfl); (case hg => rfl); (case hr => first | (go_simp; done) | (go_simp; rfl)); intro gb221 hg w3 hbox hb; have n0_ := Aside0.mk (below_step (by repeat (first | (with_reducible first | exact HB.out | apply below_alloc | apply pw_below_drewN | apply below_drew1) | exact HB.out)) hb); have n1_ := Aside0.mk (hbox); have n2_ := Aside0.mk ((by rw [hg]; exact (below_size (by repeat (first | (with_reducible first | exact HB.out | apply below_alloc | apply pw_below_drewN | apply below_drew1) | exact HB.out))) : w.heap.size ≤ gb221)); have n3_ := Aside0.mk ((by rw [hg]; exact (below_size (by repeat (first | (with_reducible first | exact HB.out | apply below_alloc | apply pw_below_drewN | apply below_drew1) | exact HB.out))) : w.heap.size ≤ gb221)); clear HB; have HB := n0_; have BK221 := n1_; have GW221 := n2_; have GE221 := n3_; clear n0_ n1_ n2_ n3_; clear hb hbox hg; have hcz4_0 : w3.cell? ⟨gb221, 0, none⟩ = some (.slice A0_0 l0_0.length c0_0) := (blk_cell BK221.out 0).trans rfl; have hfz4_0 := blk_frozen BK221.out 0)))
  (try simp only [Act.put, List.setIfInBounds_toArray, List.set_cons_zero, List.set_cons_succ])
  go_cut [34] (fun v34 wc => ∃ (kq : Nat) (x34_1 : Bool), v34 = .bool x34_1 ∧ Aside0 (wayfinderref15_Check.j0 kq (l0_0.length : Int) x34_1 l0_0 = some r) ∧ Aside0 (kq ≤ k) ∧ Aside0 (wc.heap[gb221]? = some (.cells #[(.slice A0_0 l0_0.length c0_0)] 53 (0, 0))) ∧ Aside0 (Below w.heap.size w wc))
  case first =>
    have H := HC2.out
    clear HC2
    by_cases c5 : (l0_0.length : Int) < 1
    · rw [if_pos c5] at H
      have c5b0 : decide ((l0_0.length : Int) < 1) = true := decide_eq_true c5
      have c5b1 : decide (l0_0.length < 1) = true := decide_eq_true (by omega)
      clear c5
      (first | rw [c5b0] | (simp only [i64_w, i32_w]; rw [c5b0]) | skip)
      have H' := Aside0.mk H
      clear H
      go_wp2
      repeat (go_quiet (fail); try go_wp2)
      go_meet
      case rel => exact ⟨_, (true), (by first | rfl | (simp; done) | (simp [*]; done)), H', ⟨by first | omega | exact Nat.le_refl _⟩, ⟨by (with_reducible repeat (first | refine blk_drewN ?_ _ | refine blk_drew ?_ | refine blk_alloc ?_ _)); exact BK221.out⟩, ⟨by repeat (first | (with_reducible first | exact HB.out | apply below_alloc | apply pw_below_drewN | apply below_drew1 | refine below_set ?_ GE221.out) | exact HB.out)⟩⟩
    · rw [if_neg c5] at H
      have c5b0 : decide ((l0_0.length : Int) < 1) = false := decide_eq_false c5
      have c5b1 : decide (l0_0.length < 1) = false := decide_eq_false (by omega)
      clear c5
      (first | rw [c5b0] | (simp only [i64_w, i32_w]; rw [c5b0]) | skip)
      by_cases c6 : (l0_0.length : Int) > 1024
      · rw [if_pos c6] at H
        have c6b0 : decide (1024 < (l0_0.length : Int)) = true := decide_eq_true c6
        have c6b1 : decide (1024 < l0_0.length) = true := decide_eq_true (by omega)
        clear c6
        have H' := Aside0.mk H
        clear H
        go_wp2
        repeat (go_quiet (fail); try go_wp2)
        go_meet
        case rel => exact ⟨_, (true), (by first | rfl | (simp; done) | (simp [*]; done)), H', ⟨by first | omega | exact Nat.le_refl _⟩, ⟨by (with_reducible repeat (first | refine blk_drewN ?_ _ | refine blk_drew ?_ | refine blk_alloc ?_ _)); exact BK221.out⟩, ⟨by repeat (first | (with_reducible first | exact HB.out | apply below_alloc | apply pw_below_drewN | apply below_drew1 | refine below_set ?_ GE221.out) | exact HB.out)⟩⟩
      · rw [if_neg c6] at H
        have c6b0 : decide (1024 < (l0_0.length : Int)) = false := decide_eq_false c6
        have c6b1 : decide (1024 < l0_0.length) = false := decide_eq_false (by omega)
        clear c6
        by_cases c7 : 0 < (l0_0.length : Int)
        · rw [if_pos c7] at H
          have c7b0 : decide (0 < (l0_0.length : Int)) = true := decide_eq_true c7
          have c7b1 : decide (0 < l0_0.length) = true := decide_eq_true (by omega)
          clear c7
          by_cases c8 : ((rd_L3 l0_0 0).length : Int) < 1
          · rw [if_pos c8] at H
            have c8b0 : decide (((rd_L3 l0_0 0).length : Int) < 1) = true := decide_eq_true c8
            have c8b1 : decide ((rd_L3 l0_0 0).length < 1) = true := decide_eq_true (by omega)
            clear c8
            have H' := Aside0.mk H
            clear H
            have hcz9_0 : w3.cell? ⟨gb221, 0, none⟩ = some (.slice A0_0 l0_0.length c0_0) := (blk_cell BK221.out 0).trans rfl
            have hfz9_0 := blk_frozen BK221.out 0
            have p222 : 0 ≤ (0 : Int) := (by omega)
            have q222 : 0 < (l0_0.length : Int) := of_decide_eq_true (by first | (with_reducible assumption) | assumption)
            obtain ⟨ad222, A222_0, c222_0, e222, hx222_0, hl222_0, hi222_0⟩ := at_L3 HR0_0.out 0 p222 q222
            cases e222
            have qi222 : (0 < l0_0.length) = True := eq_true (by omega)
            (try rw [show ((0 : Int)).toNat = 0 from rfl] at hx222_0)
            (try rw [Addr.add_zero'] at hx222_0)
            replace hx222_0 := (HB.out.cell (World.block_lt_of_cell? w _ hx222_0)).trans hx222_0
            have HR222_0 := Aside0.mk hi222_0
            have HC222_0 := Aside0.mk hl222_0
            clear hi222_0 hl222_0
            replace p222 := eq_true p222
            replace q222 := eq_true q222
            go_wp2
            repeat (go_quiet (fail); try go_wp2)
            go_meet
            case rel => exact ⟨_, (true), (by first | rfl | (simp; done) | (simp [*]; done)), H', ⟨by first | omega | exact Nat.le_refl _⟩, ⟨by (with_reducible repeat (first | refine blk_drewN ?_ _ | refine blk_drew ?_ | refine blk_alloc ?_ _)); exact BK221.out⟩, ⟨by repeat (first | (with_reducible first | exact HB.out | apply below_alloc | apply pw_below_drewN | apply below_drew1 | refine below_set ?_ GE221.out) | exact HB.out)⟩⟩
          · rw [if_neg c8] at H
            have c8b0 : decide (((rd_L3 l0_0 0).length : Int) < 1) = false := decide_eq_false c8
            have c8b1 : decide ((rd_L3 l0_0 0).length < 1) = false := decide_eq_false (by omega)
            clear c8
            have H' := Aside0.mk H
            clear H
            have hcz10_0 : w3.cell? ⟨gb221, 0, none⟩ = some (.slice A0_0 l0_0.length c0_0) := (blk_cell BK221.out 0).trans rfl
            have hfz10_0 := blk_frozen BK221.out 0
            have p222 : 0 ≤ (0 : Int) := (by omega)
            have q222 : 0 < (l0_0.length : Int) := of_decide_eq_true (by first | (with_reducible assumption) | assumption)
            obtain ⟨ad222, A222_0, c222_0, e222, hx222_0, hl222_0, hi222_0⟩ := at_L3 HR0_0.out 0 p222 q222
            cases e222
            have qi222 : (0 < l0_0.length) = True := eq_true (by omega)
            (try rw [show ((0 : Int)).toNat = 0 from rfl] at hx222_0)
            (try rw [Addr.add_zero'] at hx222_0)
            replace hx222_0 := (HB.out.cell (World.block_lt_of_cell? w _ hx222_0)).trans hx222_0
            have HR222_0 := Aside0.mk hi222_0
            have HC222_0 := Aside0.mk hl222_0
            clear hi222_0 hl222_0
            replace p222 := eq_true p222
            replace q222 := eq_true q222
            have p223 : 0 ≤ (0 : Int) := (by omega)
            have q223 : 0 < (l0_0.length : Int) := of_decide_eq_true (by first | (with_reducible assumption) | assumption)
            obtain ⟨ad223, A223_0, c223_0, e223, hx223_0, hl223_0, hi223_0⟩ := at_L3 HR0_0.out 0 p223 q223
            obtain rfl : ad222 = ad223 := (by injection e223)
            have qi223 : (0 < l0_0.length) = True := eq_true (by omega)
            (try rw [show ((0 : Int)).toNat = 0 from rfl] at hx223_0)
            (try rw [Addr.add_zero'] at hx223_0)
            replace hx223_0 := (HB.out.cell (World.block_lt_of_cell? w _ hx223_0)).trans hx223_0
            have HR223_0 := Aside0.mk hi223_0
            have HC223_0 := Aside0.mk hl223_0
            clear hi223_0 hl223_0
            replace p223 := eq_true p223
            replace q223 := eq_true q223
            have ea_ := Option.some.inj (hx222_0.symm.trans hx223_0)
            injection ea_ with ea_ en_ ec_
            subst ea_
            subst ec_
            clear en_
            go_wp2
            repeat (go_quiet (fail); try go_wp2)
            go_meet
            case rel => exact ⟨_, (decide (((rd_L3 l0_0 0).length : Int) > 256)), (by first | rfl | (simp; done) | (simp [*]; done)), H', ⟨by first | omega | exact Nat.le_refl _⟩, ⟨by (with_reducible repeat (first | refine blk_drewN ?_ _ | refine blk_drew ?_ | refine blk_alloc ?_ _)); exact BK221.out⟩, ⟨by repeat (first | (with_reducible first | exact HB.out | apply below_alloc | apply pw_below_drewN | apply below_drew1 | refine below_set ?_ GE221.out) | exact HB.out)⟩⟩
        · rw [if_neg c7] at H
          exact absurd H (by simp)
  case rest =>
    clear HC2
    try clear c2
    try clear p2
    try clear q2
    try clear hx2
    try clear qi2
    try clear c5
    try clear c5b0
    try clear c5b1
    try clear c6
    try clear c6b0
    try clear c6b1
    try clear c7
    try clear c7b0
    try clear c7b1
    try clear c8
    try clear c8b0
    try clear c8b1
    try clear hcz10_0
    try clear hcz4_0
    try clear hcz9_0
    try clear hfz10_0
    try clear hfz4_0
    try clear hfz9_0
    try clear hx222_0
    try clear hx223_0
    try clear p222
    try clear p223
    try clear q222
    try clear q223
    obtain ⟨kq, x34_1, rfl, HA, HJ1, BK221, HB⟩ := hcut
    cases kq with
    | zero => exact absurd HA.out (by simp [wayfinderref15_Check.j0])
    | succ kj1 =>
      have H := HA.out
      clear HA
      simp only [wayfinderref15_Check.j0] at H
      by_cases c11 : x34_1 = true
      · subst c11
        have H1 : (some 2) = some r := by rw [if_pos rfl] at H; exact H
        clear H
        have H := H1
        clear H1
        obtain rfl := Option.some.inj H
        go_wp2
        repeat (go_quiet (fail); try go_wp2)
        go_ret
        exact ⟨by first | rfl | (simp [errW_none, errW_some] <;> rfl) | (simp [*, errW_none, errW_some] <;> rfl), by repeat (first | (with_reducible first | exact HB.out | apply below_alloc | apply pw_below_drewN | apply below_drew1 | refine below_set ?_ GE221.out) | exact HB.out)⟩
      · replace c11 := Bool.eq_false_iff.mpr c11
        subst c11
        have H1 : (if 0 < (l0_0.length : Int) then (if 0 < ((rd_L3 l0_0 0).length : Int) then (if ((rd_L2 (rd_L3 l0_0 0) 0).length : Int) < 1 then (wayfinderref15_Check.j1 kj1 (l0_0.length : Int) ((rd_L3 l0_0 0).length : Int) ((rd_L2 (rd_L3 l0_0 0) 0).length : Int) true l0_0) else (wayfinderref15_Check.j1 kj1 (l0_0.length : Int) ((rd_L3 l0_0 0).length : Int) ((rd_L2 (rd_L3 l0_0 0) 0).length : Int) (decide ((wrap64 ((l0_0.length : Int) * ((rd_L2 (rd_L3 l0_0 0) 0).length : Int))) > 1024)) l0_0)) else (none)) else (none)) = some r := by rw [if_neg (show ¬ (false = true) by decide)] at H; exact H
        clear H
        have H := H1
        clear H1
        by_cases c12 : 0 < (l0_0.length : Int)
        · rw [if_pos c12] at H
          have c12b0 : decide (0 < (l0_0.length : Int)) = true := decide_eq_true c12
          have c12b1 : decide (0 < l0_0.length) = true := decide_eq_true (by omega)
          clear c12
          by_cases c13 : 0 < ((rd_L3 l0_0 0).length : Int)
          · rw [if_pos c13] at H
            have c13b0 : decide (0 < ((rd_L3 l0_0 0).length : Int)) = true := decide_eq_true c13
            have c13b1 : decide (0 < (rd_L3 l0_0 0).length) = true := decide_eq_true (by omega)
            clear c13
            have HC14 := Aside0.mk H
            clear H
            have hcz15_0 : wc.cell? ⟨gb221, 0, none⟩ = some (.slice A0_0 l0_0.length c0_0) := (blk_cell BK221.out 0).trans rfl
            have hfz15_0 := blk_frozen BK221.out 0
            have p224 : 0 ≤ (0 : Int) := (by omega)
            have q224 : 0 < (l0_0.length : Int) := of_decide_eq_true (by first | (with_reducible assumption) | assumption)
            obtain ⟨ad224, A224_0, c224_0, e224, hx224_0, hl224_0, hi224_0⟩ := at_L3 HR0_0.out 0 p224 q224
            cases e224
            have qi224 : (0 < l0_0.length) = True := eq_true (by omega)
            (try rw [show ((0 : Int)).toNat = 0 from rfl] at hx224_0)
            (try rw [Addr.add_zero'] at hx224_0)
            replace hx224_0 := (HB.out.cell (World.block_lt_of_cell? w _ hx224_0)).trans hx224_0
            have HR224_0 := Aside0.mk hi224_0
            have HC224_0 := Aside0.mk hl224_0
            clear hi224_0 hl224_0
            replace p224 := eq_true p224
            replace q224 := eq_true q224
            have p225 : 0 ≤ (0 : Int) := (by omega)
            have q225 : 0 < (l0_0.length : Int) := of_decide_eq_true (by first | (with_reducible assumption) | assumption)
            obtain ⟨ad225, A225_0, c225_0, e225, hx225_0, hl225_0, hi225_0⟩ := at_L3 HR0_0.out 0 p225 q225
            obtain rfl : ad224 = ad225 := (by injection e225)
            have qi225 : (0 < l0_0.length) = True := eq_true (by omega)
            (try rw [show ((0 : Int)).toNat = 0 from rfl] at hx225_0)
            (try rw [Addr.add_zero'] at hx225_0)
            replace hx225_0 := (HB.out.cell (World.block_lt_of_cell? w _ hx225_0)).trans hx225_0
            have HR225_0 := Aside0.mk hi225_0
            have HC225_0 := Aside0.mk hl225_0
            clear hi225_0 hl225_0
            replace p225 := eq_true p225
            replace q225 := eq_true q225
            have ea_ := Option.some.inj (hx224_0.symm.trans hx225_0)
            injection ea_ with ea_ en_ ec_
            subst ea_
            subst ec_
            clear en_
            have p226 : 0 ≤ (0 : Int) := (by omega)
            have q226 : 0 < ((rd_L3 l0_0 0).length : Int) := of_decide_eq_true (by first | (with_reducible assumption) | assumption)
            obtain ⟨ad226, A226_0, c226_0, e226, hx226_0, hl226_0, hi226_0⟩ := at_L2 HR225_0.out 0 p226 q226
            cases e226
            have qi226 : (0 < (rd_L3 l0_0 0).length) = True := eq_true (by omega)
            (try rw [show ((0 : Int)).toNat = 0 from rfl] at hx226_0)
            (try rw [Addr.add_zero'] at hx226_0)
            replace hx226_0 := (HB.out.cell (World.block_lt_of_cell? w _ hx226_0)).trans hx226_0
            have HR226_0 := Aside0.mk hi226_0
            have HC226_0 := Aside0.mk hl226_0
            clear hi226_0 hl226_0
            replace p226 := eq_true p226
            replace q226 := eq_true q226
            go_upto_region 5 with (fail)
            repeat (go_quiet (fail); go_upto_region 5 with (fail))
            go_cut [54] (fun v54 wc => ∃ (kq : Nat) (x54_13 : Bool), v54 = .bool x54_13 ∧ Aside0 (wayfinderref15_Check.j1 kq (l0_0.length : Int) ((rd_L3 l0_0 0).length : Int) ((rd_L2 (rd_L3 l0_0 0) 0).length : Int) x54_13 l0_0 = some r) ∧ Aside0 (kq ≤ kj1) ∧ Aside0 (wc.heap[gb221]? = some (.cells #[(.slice (some ad224) l0_0.length c0_0)] 53 (0, 0))) ∧ Aside0 (Below w.heap.size w wc))
            case first =>
              have H := HC14.out
              clear HC14
              by_cases c16 : ((rd_L2 (rd_L3 l0_0 0) 0).length : Int) < 1
              · rw [if_pos c16] at H
                have c16b0 : decide (((rd_L2 (rd_L3 l0_0 0) 0).length : Int) < 1) = true := decide_eq_true c16
                have c16b1 : decide ((rd_L2 (rd_L3 l0_0 0) 0).length < 1) = true := decide_eq_true (by omega)
                clear c16
                (first | rw [c16b0] | (simp only [i64_w, i32_w]; rw [c16b0]) | skip)
                have H' := Aside0.mk H
                clear H
                go_wp2
                repeat (go_quiet (fail); try go_wp2)
                go_meet
                case rel => exact ⟨_, (true), (by first | rfl | (simp; done) | (simp [*]; done)), H', ⟨by have := HJ1.out; first | omega | exact Nat.le_refl _⟩, ⟨by (with_reducible repeat (first | refine blk_drewN ?_ _ | refine blk_drew ?_ | refine blk_alloc ?_ _)); exact BK221.out⟩, ⟨by repeat (first | (with_reducible first | exact HB.out | apply below_alloc | apply pw_below_drewN | apply below_drew1 | refine below_set ?_ GE221.out) | exact HB.out)⟩⟩
              · rw [if_neg c16] at H
                have c16b0 : decide (((rd_L2 (rd_L3 l0_0 0) 0).length : Int) < 1) = false := decide_eq_false c16
                have c16b1 : decide ((rd_L2 (rd_L3 l0_0 0) 0).length < 1) = false := decide_eq_false (by omega)
                clear c16
                (first | rw [c16b0] | (simp only [i64_w, i32_w]; rw [c16b0]) | skip)
                have H' := Aside0.mk H
                clear H
                go_wp2
                repeat (go_quiet (fail); try go_wp2)
                go_meet
                case rel => exact ⟨_, (decide ((wrap64 ((l0_0.length : Int) * ((rd_L2 (rd_L3 l0_0 0) 0).length : Int))) > 1024)), (by first | rfl | (simp; done) | (simp [*]; done)), H', ⟨by have := HJ1.out; first | omega | exact Nat.le_refl _⟩, ⟨by (with_reducible repeat (first | refine blk_drewN ?_ _ | refine blk_drew ?_ | refine blk_alloc ?_ _)); exact BK221.out⟩, ⟨by repeat (first | (with_reducible first | exact HB.out | apply below_alloc | apply pw_below_drewN | apply below_drew1 | refine below_set ?_ GE221.out) | exact HB.out)⟩⟩
            case rest =>
              clear HC14
              try clear c1
              try clear c2
              try clear p2
              try clear q2
              try clear hx2
              try clear qi2
              try clear c5
              try clear c5b0
              try clear c5b1
              try clear c6
              try clear c6b0
              try clear c6b1
              try clear p6
              try clear c7
              try clear c7b0
              try clear c7b1
              try clear c8
              try clear c8b0
              try clear c8b1
              try clear c11
              try clear c12
              try clear c12b0
              try clear c12b1
              try clear c13
              try clear c13b0
              try clear c13b1
              try clear c16
              try clear c16b0
              try clear c16b1
              try clear hcz10_0
              try clear hcz15_0
              try clear hcz4_0
              try clear hcz9_0
              try clear hfz10_0
              try clear hfz15_0
              try clear hfz4_0
              try clear hfz9_0
              try clear hx222_0
              try clear hx223_0
              try clear hx224_0
              try clear hx225_0
              try clear hx226_0
              try clear p2
              try clear p222
              try clear p223
              try clear p224
              try clear p225
              try clear p226
              try clear q2
              try clear q222
              try clear q223
              try clear q224
              try clear q225
              try clear q226
              obtain ⟨kq, x54_13, rfl, HA, HJ13, BK221, HB⟩ := hcut
              cases kq with
              | zero => exact absurd HA.out (by simp [wayfinderref15_Check.j1])
              | succ kj13 =>
                have H := HA.out
                clear HA
                simp only [wayfinderref15_Check.j1] at H
                by_cases c17 : x54_13 = true
                · subst c17
                  have H1 : (some 2) = some r := by rw [if_pos rfl] at H; exact H
                  clear H
                  have H := H1
                  clear H1
                  obtain rfl := Option.some.inj H
                  go_wp2
                  repeat (go_quiet (fail); try go_wp2)
                  go_ret
                  exact ⟨by first | rfl | (simp [errW_none, errW_some] <;> rfl) | (simp [*, errW_none, errW_some] <;> rfl), by repeat (first | (with_reducible first | exact HB.out | apply below_alloc | apply pw_below_drewN | apply below_drew1 | refine below_set ?_ GE221.out) | exact HB.out)⟩
                · replace c17 := Bool.eq_false_iff.mpr c17
                  subst c17
                  have H1 : (wayfinderref15_Check.l0 kj13 (l0_0.length : Int) ((rd_L3 l0_0 0).length : Int) ((rd_L2 (rd_L3 l0_0 0) 0).length : Int) 0 l0_0) = some r := by rw [if_neg (show ¬ (false = true) by decide)] at H; exact H
                  clear H
                  have H := H1
                  clear H1
                  have H' := Aside0.mk H
                  clear H
                  go_wp2
                  repeat (go_quiet (fail); try go_wp2)
                  go_loopg [6] kj13 (fun kq v6 w' => ∃ (x6_3 : Int), v6 = .int .i64 x6_3 ∧ Aside0 (wayfinderref15_Check.l0 kq (l0_0.length : Int) ((rd_L3 l0_0 0).length : Int) ((rd_L2 (rd_L3 l0_0 0) 0).length : Int) x6_3 l0_0 = some r) ∧ Aside0 (kq ≤ kj13) ∧ Aside0 (w'.heap[gb221]? = some (.cells #[(.slice (some ad224) l0_0.length c0_0)] 53 (0, 0))) ∧ Aside0 (Below w.heap.size w w'))
                  case atStart => exact ⟨(0), (by first | rfl | (simp; done) | (simp [*]; done)), H', ⟨Nat.le_refl _⟩, ⟨by (with_reducible repeat (first | refine blk_drewN ?_ _ | refine blk_drew ?_ | refine blk_alloc ?_ _)); exact BK221.out⟩, ⟨by repeat (first | (with_reducible first | exact HB.out | apply below_alloc | apply pw_below_drewN | apply below_drew1 | refine below_set ?_ GE221.out) | exact HB.out)⟩⟩
                  case round =>
                    clear H'
                    try clear c1
                    try clear c2
                    try clear p2
                    try clear q2
                    try clear hx2
                    try clear qi2
                    try clear c5
                    try clear c5b0
                    try clear c5b1
                    try clear c6
                    try clear c6b0
                    try clear c6b1
                    try clear p6
                    try clear c7
                    try clear c7b0
                    try clear c7b1
                    try clear c8
                    try clear c8b0
                    try clear c8b1
                    try clear c11
                    try clear c12
                    try clear c12b0
                    try clear c12b1
                    try clear c13
                    try clear c13b0
                    try clear c13b1
                    try clear c16
                    try clear c16b0
                    try clear c16b1
                    try clear c17
                    try clear hcz10_0
                    try clear hcz15_0
                    try clear hcz4_0
                    try clear hcz9_0
                    try clear hfz10_0
                    try clear hfz15_0
                    try clear hfz4_0
                    try clear hfz9_0
                    try clear hx222_0
                    try clear hx223_0
                    try clear hx224_0
                    try clear hx225_0
                    try clear hx226_0
                    try clear p2
                    try clear p222
                    try clear p223
                    try clear p224
                    try clear p225
                    try clear p226
                    try clear p6
                    try clear q2
                    try clear q222
                    try clear q223
                    try clear q224
                    try clear q225
                    try clear q226
                    obtain ⟨x6_3, rfl, HA, HK3, BK221, HB⟩ := hrel
                    cases gk with
                    | zero => exact absurd HA.out (by simp [wayfinderref15_Check.l0])
                    | succ k3 =>
                      have H := HA.out
                      clear HA
                      simp only [wayfinderref15_Check.l0] at H
                      by_cases c18 : x6_3 < (l0_0.length : Int)
                      · rw [if_pos c18] at H
                        have c18b0 : decide (x6_3 < (l0_0.length : Int)) = true := decide_eq_true c18
                        clear c18
                        by_cases c19 : 0 ≤ x6_3
                        · rw [if_pos c19] at H
                          have c19b0 : decide (0 ≤ x6_3) = true := decide_eq_true c19
                          clear c19
                          by_cases c20 : x6_3 < (l0_0.length : Int)
                          · rw [if_pos c20] at H
                            have c20b0 : decide (x6_3 < (l0_0.length : Int)) = true := decide_eq_true c20
                            clear c20
                            by_cases c21 : ((rd_L3 l0_0 x6_3).length : Int) = ((rd_L3 l0_0 0).length : Int)
                            · rw [if_pos c21] at H
                              have c21b0 : (((rd_L3 l0_0 x6_3).length : Int) == ((rd_L3 l0_0 0).length : Int)) = true := beq_iff_eq.mpr c21
                              have c21b1 : (((rd_L3 l0_0 x6_3).length : Int) != ((rd_L3 l0_0 0).length : Int)) = false := bne_eq_false_iff_eq.mpr c21
                              have c21b2 : ((rd_L3 l0_0 x6_3).length == (rd_L3 l0_0 0).length) = true := by first | simpa using c21 | (simp at c21 ⊢; omega)
                              clear c21
                              have H' := Aside0.mk H
                              clear H
                              have hcz22_0 : wr.cell? ⟨gb221, 0, none⟩ = some (.slice (some ad224) l0_0.length c0_0) := (blk_cell BK221.out 0).trans rfl
                              have hfz22_0 := blk_frozen BK221.out 0
                              have p227 : 0 ≤ (x6_3 : Int) := of_decide_eq_true (by first | (with_reducible assumption) | assumption)
                              have q227 : x6_3 < (l0_0.length : Int) := of_decide_eq_true (by first | (with_reducible assumption) | assumption)
                              obtain ⟨ad227, A227_0, c227_0, e227, hx227_0, hl227_0, hi227_0⟩ := at_L3 HR0_0.out x6_3 p227 q227
                              obtain rfl : ad224 = ad227 := (by injection e227)
                              replace hx227_0 := (HB.out.cell (World.block_lt_of_cell? w _ hx227_0)).trans hx227_0
                              have HR227_0 := Aside0.mk hi227_0
                              have HC227_0 := Aside0.mk hl227_0
                              clear hi227_0 hl227_0
                              replace p227 := eq_true p227
                              replace q227 := eq_true q227
                              go_wp2
                              repeat (go_quiet (fail); try go_wp2)
                              go_loopg [7] k3 (fun kq v7 w' => ∃ (x7_4 : Int), v7 = .int .i64 x7_4 ∧ Aside0 (wayfinderref15_Check.l1 kq (l0_0.length : Int) ((rd_L3 l0_0 0).length : Int) ((rd_L2 (rd_L3 l0_0 0) 0).length : Int) x6_3 x7_4 l0_0 = some r) ∧ Aside0 (kq ≤ k3) ∧ Aside0 (w'.heap[gb221]? = some (.cells #[(.slice (some ad224) l0_0.length c0_0)] 53 (0, 0))) ∧ Aside0 (Below w.heap.size w w'))
                              case atStart => exact ⟨(0), (by first | rfl | (simp; done) | (simp [*]; done)), H', ⟨Nat.le_refl _⟩, ⟨by (with_reducible repeat (first | refine blk_drewN ?_ _ | refine blk_drew ?_ | refine blk_alloc ?_ _)); exact BK221.out⟩, ⟨by repeat (first | (with_reducible first | exact HB.out | apply below_alloc | apply pw_below_drewN | apply below_drew1 | refine below_set ?_ GE221.out) | exact HB.out)⟩⟩
                              case round =>
                                clear H'
                                try clear c1
                                try clear c2
                                try clear p2
                                try clear q2
                                try clear hx2
                                try clear qi2
                                try clear c5
                                try clear c5b0
                                try clear c5b1
                                try clear c6
                                try clear c6b0
                                try clear c6b1
                                try clear p6
                                try clear c7
                                try clear c7b0
                                try clear c7b1
                                try clear c8
                                try clear c8b0
                                try clear c8b1
                                try clear c11
                                try clear c12
                                try clear c12b0
                                try clear c12b1
                                try clear c13
                                try clear c13b0
                                try clear c13b1
                                try clear c16
                                try clear c16b0
                                try clear c16b1
                                try clear c17
                                try clear c18
                                try clear c18b0
                                try clear c19
                                try clear c19b0
                                try clear c20
                                try clear c20b0
                                try clear c21
                                try clear c21b0
                                try clear c21b1
                                try clear c21b2
                                try clear c22
                                try clear p22
                                try clear q22
                                try clear hx22
                                try clear qi22
                                try clear hcz10_0
                                try clear hcz15_0
                                try clear hcz22_0
                                try clear hcz4_0
                                try clear hcz9_0
                                try clear hfz10_0
                                try clear hfz15_0
                                try clear hfz22_0
                                try clear hfz4_0
                                try clear hfz9_0
                                try clear hx222_0
                                try clear hx223_0
                                try clear hx224_0
                                try clear hx225_0
                                try clear hx226_0
                                try clear hx227_0
                                try clear p2
                                try clear p222
                                try clear p223
                                try clear p224
                                try clear p225
                                try clear p226
                                try clear p227
                                try clear p6
                                try clear q2
                                try clear q222
                                try clear q223
                                try clear q224
                                try clear q225
                                try clear q226
                                try clear q227
                                obtain ⟨x7_4, rfl, HA, HK4, BK221, HB⟩ := hrel
                                cases gk with
                                | zero => exact absurd HA.out (by simp [wayfinderref15_Check.l1])
                                | succ k4 =>
                                  have H := HA.out
                                  clear HA
                                  simp only [wayfinderref15_Check.l1] at H
                                  by_cases c23 : x7_4 < ((rd_L3 l0_0 0).length : Int)
                                  · rw [if_pos c23] at H
                                    have c23b0 : decide (x7_4 < ((rd_L3 l0_0 0).length : Int)) = true := decide_eq_true c23
                                    clear c23
                                    by_cases c24 : 0 ≤ x6_3
                                    · rw [if_pos c24] at H
                                      have c24b0 : decide (0 ≤ x6_3) = true := decide_eq_true c24
                                      clear c24
                                      by_cases c25 : x6_3 < (l0_0.length : Int)
                                      · rw [if_pos c25] at H
                                        have c25b0 : decide (x6_3 < (l0_0.length : Int)) = true := decide_eq_true c25
                                        clear c25
                                        by_cases c26 : 0 ≤ x7_4
                                        · rw [if_pos c26] at H
                                          have c26b0 : decide (0 ≤ x7_4) = true := decide_eq_true c26
                                          clear c26
                                          by_cases c27 : x7_4 < ((rd_L3 l0_0 x6_3).length : Int)
                                          · rw [if_pos c27] at H
                                            have c27b0 : decide (x7_4 < ((rd_L3 l0_0 x6_3).length : Int)) = true := decide_eq_true c27
                                            clear c27
                                            by_cases c28 : ((rd_L2 (rd_L3 l0_0 x6_3) x7_4).length : Int) = ((rd_L2 (rd_L3 l0_0 0) 0).length : Int)
                                            · rw [if_pos c28] at H
                                              have c28b0 : (((rd_L2 (rd_L3 l0_0 x6_3) x7_4).length : Int) == ((rd_L2 (rd_L3 l0_0 0) 0).length : Int)) = true := beq_iff_eq.mpr c28
                                              have c28b1 : (((rd_L2 (rd_L3 l0_0 x6_3) x7_4).length : Int) != ((rd_L2 (rd_L3 l0_0 0) 0).length : Int)) = false := bne_eq_false_iff_eq.mpr c28
                                              have c28b2 : ((rd_L2 (rd_L3 l0_0 x6_3) x7_4).length == (rd_L2 (rd_L3 l0_0 0) 0).length) = true := by first | simpa using c28 | (simp at c28 ⊢; omega)
                                              clear c28
                                              have H' := Aside0.mk H
                                              clear H
                                              have hcz29_0 : wr.cell? ⟨gb221, 0, none⟩ = some (.slice (some ad224) l0_0.length c0_0) := (blk_cell BK221.out 0).trans rfl
                                              have hfz29_0 := blk_frozen BK221.out 0
                                              have p228 : 0 ≤ (x6_3 : Int) := of_decide_eq_true (by first | (with_reducible assumption) | assumption)
                                              have q228 : x6_3 < (l0_0.length : Int) := of_decide_eq_true (by first | (with_reducible assumption) | assumption)
                                              obtain ⟨ad228, A228_0, c228_0, e228, hx228_0, hl228_0, hi228_0⟩ := at_L3 HR0_0.out x6_3 p228 q228
                                              obtain rfl : ad224 = ad228 := (by injection e228)
                                              replace hx228_0 := (HB.out.cell (World.block_lt_of_cell? w _ hx228_0)).trans hx228_0
                                              have HR228_0 := Aside0.mk hi228_0
                                              have HC228_0 := Aside0.mk hl228_0
                                              clear hi228_0 hl228_0
                                              replace p228 := eq_true p228
                                              replace q228 := eq_true q228
                                              have p229 : 0 ≤ (x7_4 : Int) := of_decide_eq_true (by first | (with_reducible assumption) | assumption)
                                              have q229 : x7_4 < ((rd_L3 l0_0 x6_3).length : Int) := of_decide_eq_true (by first | (with_reducible assumption) | assumption)
                                              obtain ⟨ad229, A229_0, c229_0, e229, hx229_0, hl229_0, hi229_0⟩ := at_L2 HR228_0.out x7_4 p229 q229
                                              cases e229
                                              replace hx229_0 := (HB.out.cell (World.block_lt_of_cell? w _ hx229_0)).trans hx229_0
                                              have HR229_0 := Aside0.mk hi229_0
                                              have HC229_0 := Aside0.mk hl229_0
                                              clear hi229_0 hl229_0
                                              replace p229 := eq_true p229
                                              replace q229 := eq_true q229
                                              go_wp2
                                              repeat (go_quiet (fail); try go_wp2)
                                              go_roundg k4
                                              case measure => have := HJ1.out; have := HJ13.out; have := HK3.out; have := HK4.out; omega
                                              case rel => exact ⟨(wrap64 (x7_4 + 1)), (by first | rfl | (simp; done) | (simp [*]; done)), H', ⟨by have := HJ1.out; have := HJ13.out; have := HK3.out; have := HK4.out; omega⟩, ⟨by (with_reducible repeat (first | refine blk_drewN ?_ _ | refine blk_drew ?_ | refine blk_alloc ?_ _)); exact BK221.out⟩, ⟨by repeat (first | (with_reducible first | exact HB.out | apply below_alloc | apply pw_below_drewN | apply below_drew1 | refine below_set ?_ GE221.out) | exact HB.out)⟩⟩
                                            · rw [if_neg c28] at H
                                              have c28b0 : (((rd_L2 (rd_L3 l0_0 x6_3) x7_4).length : Int) == ((rd_L2 (rd_L3 l0_0 0) 0).length : Int)) = false := beq_eq_false_iff_ne.mpr c28
                                              have c28b1 : (((rd_L2 (rd_L3 l0_0 x6_3) x7_4).length : Int) != ((rd_L2 (rd_L3 l0_0 0) 0).length : Int)) = true := bne_iff_ne.mpr c28
                                              have c28b2 : ((rd_L2 (rd_L3 l0_0 x6_3) x7_4).length == (rd_L2 (rd_L3 l0_0 0) 0).length) = false := by first | simpa using c28 | (simp at c28 ⊢; omega)
                                              obtain rfl := Option.some.inj H
                                              have hcz30_0 : wr.cell? ⟨gb221, 0, none⟩ = some (.slice (some ad224) l0_0.length c0_0) := (blk_cell BK221.out 0).trans rfl
                                              have hfz30_0 := blk_frozen BK221.out 0
                                              have p228 : 0 ≤ (x6_3 : Int) := of_decide_eq_true (by first | (with_reducible assumption) | assumption)
                                              have q228 : x6_3 < (l0_0.length : Int) := of_decide_eq_true (by first | (with_reducible assumption) | assumption)
                                              obtain ⟨ad228, A228_0, c228_0, e228, hx228_0, hl228_0, hi228_0⟩ := at_L3 HR0_0.out x6_3 p228 q228
                                              obtain rfl : ad224 = ad228 := (by injection e228)
                                              replace hx228_0 := (HB.out.cell (World.block_lt_of_cell? w _ hx228_0)).trans hx228_0
                                              have HR228_0 := Aside0.mk hi228_0
                                              have HC228_0 := Aside0.mk hl228_0
                                              clear hi228_0 hl228_0
                                              replace p228 := eq_true p228
                                              replace q228 := eq_true q228
                                              have p229 : 0 ≤ (x7_4 : Int) := of_decide_eq_true (by first | (with_reducible assumption) | assumption)
                                              have q229 : x7_4 < ((rd_L3 l0_0 x6_3).length : Int) := of_decide_eq_true (by first | (with_reducible assumption) | assumption)
                                              obtain ⟨ad229, A229_0, c229_0, e229, hx229_0, hl229_0, hi229_0⟩ := at_L2 HR228_0.out x7_4 p229 q229
                                              cases e229
                                              replace hx229_0 := (HB.out.cell (World.block_lt_of_cell? w _ hx229_0)).trans hx229_0
                                              try (have ea_ := Option.some.inj (hx229_0.symm.trans hx229_0); injection ea_ with ea1_ ea2_ ea3_; subst ea1_; subst ea3_)
                                              have HR229_0 := Aside0.mk hi229_0
                                              have HC229_0 := Aside0.mk hl229_0
                                              clear hi229_0 hl229_0
                                              replace p229 := eq_true p229
                                              replace q229 := eq_true q229
                                              go_wp2
                                              repeat (go_quiet (fail); try go_wp2)
                                              go_ret
                                              exact ⟨by first | rfl | (simp [errW_none, errW_some] <;> rfl) | (simp [*, errW_none, errW_some] <;> rfl), by repeat (first | (with_reducible first | exact HB.out | apply below_alloc | apply pw_below_drewN | apply below_drew1 | refine below_set ?_ GE221.out) | exact HB.out)⟩
                                          · rw [if_neg c27] at H
                                            exact absurd H (by simp)
                                        · rw [if_neg c26] at H
                                          exact absurd H (by simp)
                                      · rw [if_neg c25] at H
                                        exact absurd H (by simp)
                                    · rw [if_neg c24] at H
                                      exact absurd H (by simp)
                                  · rw [if_neg c23] at H
                                    have c23b0 : decide (x7_4 < ((rd_L3 l0_0 0).length : Int)) = false := decide_eq_false c23
                                    clear c23
                                    have H' := Aside0.mk H
                                    clear H
                                    go_wp2
                                    repeat (go_quiet (fail); try go_wp2)
                                    go_roundg k4
                                    case measure => have := HJ1.out; have := HJ13.out; have := HK3.out; have := HK4.out; omega
                                    case rel => exact ⟨(wrap64 (x6_3 + 1)), (by first | rfl | (simp; done) | (simp [*]; done)), H', ⟨by have := HJ1.out; have := HJ13.out; have := HK3.out; have := HK4.out; omega⟩, ⟨by (with_reducible repeat (first | refine blk_drewN ?_ _ | refine blk_drew ?_ | refine blk_alloc ?_ _)); exact BK221.out⟩, ⟨by repeat (first | (with_reducible first | exact HB.out | apply below_alloc | apply pw_below_drewN | apply below_drew1 | refine below_set ?_ GE221.out) | exact HB.out)⟩⟩
                            · rw [if_neg c21] at H
                              have c21b0 : (((rd_L3 l0_0 x6_3).length : Int) == ((rd_L3 l0_0 0).length : Int)) = false := beq_eq_false_iff_ne.mpr c21
                              have c21b1 : (((rd_L3 l0_0 x6_3).length : Int) != ((rd_L3 l0_0 0).length : Int)) = true := bne_iff_ne.mpr c21
                              have c21b2 : ((rd_L3 l0_0 x6_3).length == (rd_L3 l0_0 0).length) = false := by first | simpa using c21 | (simp at c21 ⊢; omega)
                              obtain rfl := Option.some.inj H
                              have hcz31_0 : wr.cell? ⟨gb221, 0, none⟩ = some (.slice (some ad224) l0_0.length c0_0) := (blk_cell BK221.out 0).trans rfl
                              have hfz31_0 := blk_frozen BK221.out 0
                              have p227 : 0 ≤ (x6_3 : Int) := of_decide_eq_true (by first | (with_reducible assumption) | assumption)
                              have q227 : x6_3 < (l0_0.length : Int) := of_decide_eq_true (by first | (with_reducible assumption) | assumption)
                              obtain ⟨ad227, A227_0, c227_0, e227, hx227_0, hl227_0, hi227_0⟩ := at_L3 HR0_0.out x6_3 p227 q227
                              obtain rfl : ad224 = ad227 := (by injection e227)
                              replace hx227_0 := (HB.out.cell (World.block_lt_of_cell? w _ hx227_0)).trans hx227_0
                              have HR227_0 := Aside0.mk hi227_0
                              have HC227_0 := Aside0.mk hl227_0
                              clear hi227_0 hl227_0
                              replace p227 := eq_true p227
                              replace q227 := eq_true q227
                              go_wp2
                              repeat (go_quiet (fail); try go_wp2)
                              go_ret
                              exact ⟨by first | rfl | (simp [errW_none, errW_some] <;> rfl) | (simp [*, errW_none, errW_some] <;> rfl), by repeat (first | (with_reducible first | exact HB.out | apply below_alloc | apply pw_below_drewN | apply below_drew1 | refine below_set ?_ GE221.out) | exact HB.out)⟩
                          · rw [if_neg c20] at H
                            exact absurd H (by simp)
                        · rw [if_neg c19] at H
                          exact absurd H (by simp)
                      · rw [if_neg c18] at H
                        have c18b0 : decide (x6_3 < (l0_0.length : Int)) = false := decide_eq_false c18
                        clear c18
                        have H' := Aside0.mk H
                        clear H
                        go_wp2
                        repeat (go_quiet (fail); try go_wp2)
                        go_loopg [8] k3 (fun kq v8 w' => ∃ (x8_4 : Int), v8 = .int .i64 x8_4 ∧ Aside0 (wayfinderref15_Check.l2 kq (l0_0.length : Int) ((rd_L3 l0_0 0).length : Int) x8_4 l0_0 = some r) ∧ Aside0 (kq ≤ k3) ∧ Aside0 (w'.heap[gb221]? = some (.cells #[(.slice (some ad224) l0_0.length c0_0)] 53 (0, 0))) ∧ Aside0 (Below w.heap.size w w'))
                        case atStart => exact ⟨(0), (by first | rfl | (simp; done) | (simp [*]; done)), H', ⟨Nat.le_refl _⟩, ⟨by (with_reducible repeat (first | refine blk_drewN ?_ _ | refine blk_drew ?_ | refine blk_alloc ?_ _)); exact BK221.out⟩, ⟨by repeat (first | (with_reducible first | exact HB.out | apply below_alloc | apply pw_below_drewN | apply below_drew1 | refine below_set ?_ GE221.out) | exact HB.out)⟩⟩
                        case round =>
                          clear H'
                          try clear c1
                          try clear c2
                          try clear p2
                          try clear q2
                          try clear hx2
                          try clear qi2
                          try clear c5
                          try clear c5b0
                          try clear c5b1
                          try clear c6
                          try clear c6b0
                          try clear c6b1
                          try clear p6
                          try clear c7
                          try clear c7b0
                          try clear c7b1
                          try clear c8
                          try clear c8b0
                          try clear c8b1
                          try clear c11
                          try clear c12
                          try clear c12b0
                          try clear c12b1
                          try clear c13
                          try clear c13b0
                          try clear c13b1
                          try clear c16
                          try clear c16b0
                          try clear c16b1
                          try clear c17
                          try clear c18
                          try clear c18b0
                          try clear c19
                          try clear c19b0
                          try clear c20
                          try clear c20b0
                          try clear c21
                          try clear c21b0
                          try clear c21b1
                          try clear c21b2
                          try clear c22
                          try clear p22
                          try clear q22
                          try clear hx22
                          try clear qi22
                          try clear c23
                          try clear c23b0
                          try clear c24
                          try clear c24b0
                          try clear c25
                          try clear c25b0
                          try clear c26
                          try clear c26b0
                          try clear c27
                          try clear c27b0
                          try clear c28
                          try clear c28b0
                          try clear c28b1
                          try clear c28b2
                          try clear hcz10_0
                          try clear hcz15_0
                          try clear hcz22_0
                          try clear hcz29_0
                          try clear hcz30_0
                          try clear hcz31_0
                          try clear hcz4_0
                          try clear hcz9_0
                          try clear hfz10_0
                          try clear hfz15_0
                          try clear hfz22_0
                          try clear hfz29_0
                          try clear hfz30_0
                          try clear hfz31_0
                          try clear hfz4_0
                          try clear hfz9_0
                          try clear hx222_0
                          try clear hx223_0
                          try clear hx224_0
                          try clear hx225_0
                          try clear hx226_0
                          try clear hx227_0
                          try clear hx228_0
                          try clear hx229_0
                          try clear p2
                          try clear p22
                          try clear p222
                          try clear p223
                          try clear p224
                          try clear p225
                          try clear p226
                          try clear p227
                          try clear p228
                          try clear p229
                          try clear p6
                          try clear q2
                          try clear q22
                          try clear q222
                          try clear q223
                          try clear q224
                          try clear q225
                          try clear q226
                          try clear q227
                          try clear q228
                          try clear q229
                          obtain ⟨x8_4, rfl, HA, HK4, BK221, HB⟩ := hrel
                          cases gk with
                          | zero => exact absurd HA.out (by simp [wayfinderref15_Check.l2])
                          | succ k4 =>
                            have H := HA.out
                            clear HA
                            simp only [wayfinderref15_Check.l2] at H
                            by_cases c32 : x8_4 < (l0_0.length : Int)
                            · rw [if_pos c32] at H
                              have c32b0 : decide (x8_4 < (l0_0.length : Int)) = true := decide_eq_true c32
                              clear c32
                              have H' := Aside0.mk H
                              clear H
                              go_wp2
                              repeat (go_quiet (fail); try go_wp2)
                              go_loopg [9] k4 (fun kq v9 w' => ∃ (x9_5 : Int), v9 = .int .i64 x9_5 ∧ Aside0 (wayfinderref15_Check.l3 kq (l0_0.length : Int) ((rd_L3 l0_0 0).length : Int) x8_4 x9_5 l0_0 = some r) ∧ Aside0 (kq ≤ k4) ∧ Aside0 (w'.heap[gb221]? = some (.cells #[(.slice (some ad224) l0_0.length c0_0)] 53 (0, 0))) ∧ Aside0 (Below w.heap.size w w'))
                              case atStart => exact ⟨(0), (by first | rfl | (simp; done) | (simp [*]; done)), H', ⟨Nat.le_refl _⟩, ⟨by (with_reducible repeat (first | refine blk_drewN ?_ _ | refine blk_drew ?_ | refine blk_alloc ?_ _)); exact BK221.out⟩, ⟨by repeat (first | (with_reducible first | exact HB.out | apply below_alloc | apply pw_below_drewN | apply below_drew1 | refine below_set ?_ GE221.out) | exact HB.out)⟩⟩
                              case round =>
                                clear H'
                                try clear c1
                                try clear c2
                                try clear p2
                                try clear q2
                                try clear hx2
                                try clear qi2
                                try clear c3
                                try clear c5
                                try clear c5b0
                                try clear c5b1
                                try clear c6
                                try clear c6b0
                                try clear c6b1
                                try clear p6
                                try clear c7
                                try clear c7b0
                                try clear c7b1
                                try clear c8
                                try clear c8b0
                                try clear c8b1
                                try clear c11
                                try clear c12
                                try clear c12b0
                                try clear c12b1
                                try clear c13
                                try clear c13b0
                                try clear c13b1
                                try clear c16
                                try clear c16b0
                                try clear c16b1
                                try clear c17
                                try clear c18
                                try clear c18b0
                                try clear c19
                                try clear c19b0
                                try clear c20
                                try clear c20b0
                                try clear c21
                                try clear c21b0
                                try clear c21b1
                                try clear c21b2
                                try clear c22
                                try clear p22
                                try clear q22
                                try clear hx22
                                try clear qi22
                                try clear c23
                                try clear c23b0
                                try clear c24
                                try clear c24b0
                                try clear c25
                                try clear c25b0
                                try clear c26
                                try clear c26b0
                                try clear c27
                                try clear c27b0
                                try clear c28
                                try clear c28b0
                                try clear c28b1
                                try clear c28b2
                                try clear c32
                                try clear c32b0
                                try clear hcz10_0
                                try clear hcz15_0
                                try clear hcz22_0
                                try clear hcz29_0
                                try clear hcz30_0
                                try clear hcz31_0
                                try clear hcz4_0
                                try clear hcz9_0
                                try clear hfz10_0
                                try clear hfz15_0
                                try clear hfz22_0
                                try clear hfz29_0
                                try clear hfz30_0
                                try clear hfz31_0
                                try clear hfz4_0
                                try clear hfz9_0
                                try clear hx222_0
                                try clear hx223_0
                                try clear hx224_0
                                try clear hx225_0
                                try clear hx226_0
                                try clear hx227_0
                                try clear hx228_0
                                try clear hx229_0
                                try clear p2
                                try clear p22
                                try clear p222
                                try clear p223
                                try clear p224
                                try clear p225
                                try clear p226
                                try clear p227
                                try clear p228
                                try clear p229
                                try clear p6
                                try clear q2
                                try clear q22
                                try clear q222
                                try clear q223
                                try clear q224
                                try clear q225
                                try clear q226
                                try clear q227
                                try clear q228
                                try clear q229
                                obtain ⟨x9_5, rfl, HA, HK5, BK221, HB⟩ := hrel
                                cases gk with
                                | zero => exact absurd HA.out (by simp [wayfinderref15_Check.l3])
                                | succ k5 =>
                                  have H := HA.out
                                  clear HA
                                  simp only [wayfinderref15_Check.l3] at H
                                  by_cases c33 : x9_5 < ((rd_L3 l0_0 0).length : Int)
                                  · rw [if_pos c33] at H
                                    have c33b0 : decide (x9_5 < ((rd_L3 l0_0 0).length : Int)) = true := decide_eq_true c33
                                    clear c33
                                    by_cases c34 : 0 ≤ x8_4
                                    · rw [if_pos c34] at H
                                      have c34b0 : decide (0 ≤ x8_4) = true := decide_eq_true c34
                                      clear c34
                                      by_cases c35 : x8_4 < (l0_0.length : Int)
                                      · rw [if_pos c35] at H
                                        have c35b0 : decide (x8_4 < (l0_0.length : Int)) = true := decide_eq_true c35
                                        clear c35
                                        by_cases c36 : 0 ≤ x9_5
                                        · rw [if_pos c36] at H
                                          have c36b0 : decide (0 ≤ x9_5) = true := decide_eq_true c36
                                          clear c36
                                          by_cases c37 : x9_5 < ((rd_L3 l0_0 x8_4).length : Int)
                                          · rw [if_pos c37] at H
                                            have c37b0 : decide (x9_5 < ((rd_L3 l0_0 x8_4).length : Int)) = true := decide_eq_true c37
                                            clear c37
                                            replace H := Option.bind_eq_some_iff.mp H
                                            obtain ⟨t232, A380, H⟩ := H
                                            replace H : (if t232 = 0 then (wayfinderref15_Check.l3 k5 (l0_0.length : Int) ((rd_L3 l0_0 0).length : Int) x8_4 (wrap64 (x9_5 + 1)) l0_0) else (some 11)) = some r := H
                                            have A38 := Aside0.mk A380
                                            clear A380
                                            by_cases c39 : t232 = 0
                                            · rw [if_pos c39] at H
                                              have c39b0 : (t232 == 0) = true := beq_iff_eq.mpr c39
                                              have c39b1 : (t232 != 0) = false := bne_eq_false_iff_eq.mpr c39
                                              clear c39
                                              have H' := Aside0.mk H
                                              clear H
                                              have hcz40_0 : wr.cell? ⟨gb221, 0, none⟩ = some (.slice (some ad224) l0_0.length c0_0) := (blk_cell BK221.out 0).trans rfl
                                              have hfz40_0 := blk_frozen BK221.out 0
                                              have p230 : 0 ≤ (x8_4 : Int) := of_decide_eq_true (by first | (with_reducible assumption) | assumption)
                                              have q230 : x8_4 < (l0_0.length : Int) := of_decide_eq_true (by first | (with_reducible assumption) | assumption)
                                              obtain ⟨ad230, A230_0, c230_0, e230, hx230_0, hl230_0, hi230_0⟩ := at_L3 HR0_0.out x8_4 p230 q230
                                              obtain rfl : ad224 = ad230 := (by injection e230)
                                              replace hx230_0 := (HB.out.cell (World.block_lt_of_cell? w _ hx230_0)).trans hx230_0
                                              have HR230_0 := Aside0.mk hi230_0
                                              have HC230_0 := Aside0.mk hl230_0
                                              clear hi230_0 hl230_0
                                              replace p230 := eq_true p230
                                              replace q230 := eq_true q230
                                              have p231 : 0 ≤ (x9_5 : Int) := of_decide_eq_true (by first | (with_reducible assumption) | assumption)
                                              have q231 : x9_5 < ((rd_L3 l0_0 x8_4).length : Int) := of_decide_eq_true (by first | (with_reducible assumption) | assumption)
                                              obtain ⟨ad231, A231_0, c231_0, e231, hx231_0, hl231_0, hi231_0⟩ := at_L2 HR230_0.out x9_5 p231 q231
                                              cases e231
                                              replace hx231_0 := (HB.out.cell (World.block_lt_of_cell? w _ hx231_0)).trans hx231_0
                                              have HR231_0 := Aside0.mk hi231_0
                                              have HC231_0 := Aside0.mk hl231_0
                                              clear hi231_0 hl231_0
                                              replace p231 := eq_true p231
                                              replace q231 := eq_true q231
                                              go_wp2_with (first | (go_at_call 92; (with_reducible refine (wayfinderref03_CheckWide.calls k5 _ _ (rd_L2 (rd_L3 l0_0 x8_4) x9_5) t232 _ ?side1 ?side2 A38.out).mono ?_); (case side1 => repeat (first | exact (Kd.C_below HR231_0.out HB.out) | (with_reducible refine Kd.C_alloc ?_ _) | (with_reducible refine Kd.C_drewN ?_ _) | (with_reducible refine Kd.C_drew ?_))); (case side2 => exact HC231_0.out); rintro e w' ⟨rfl, ⟨nd, rfl⟩⟩; (try first | exact ⟨rfl, _, World.drewN_drewN _ _ _⟩ | exact ⟨rfl, _, Eq.trans (World.drewN_drewN _ _ _) (congrArg (World.drewN _) (Nat.add_assoc _ _ _))⟩)))
                                              repeat (go_quiet (first | (go_at_call 92; (with_reducible refine (wayfinderref03_CheckWide.calls k5 _ _ (rd_L2 (rd_L3 l0_0 x8_4) x9_5) t232 _ ?side1 ?side2 A38.out).mono ?_); (case side1 => repeat (first | exact (Kd.C_below HR231_0.out HB.out) | (with_reducible refine Kd.C_alloc ?_ _) | (with_reducible refine Kd.C_drewN ?_ _) | (with_reducible refine Kd.C_drew ?_))); (case side2 => exact HC231_0.out); rintro e w' ⟨rfl, ⟨nd, rfl⟩⟩; (try first | exact ⟨rfl, _, World.drewN_drewN _ _ _⟩ | exact ⟨rfl, _, Eq.trans (World.drewN_drewN _ _ _) (congrArg (World.drewN _) (Nat.add_assoc _ _ _))⟩))); try go_wp2_with (first | (go_at_call 92; (with_reducible refine (wayfinderref03_CheckWide.calls k5 _ _ (rd_L2 (rd_L3 l0_0 x8_4) x9_5) t232 _ ?side1 ?side2 A38.out).mono ?_); (case side1 => repeat (first | exact (Kd.C_below HR231_0.out HB.out) | (with_reducible refine Kd.C_alloc ?_ _) | (with_reducible refine Kd.C_drewN ?_ _) | (with_reducible refine Kd.C_drew ?_))); (case side2 => exact HC231_0.out); rintro e w' ⟨rfl, ⟨nd, rfl⟩⟩; (try first | exact ⟨rfl, _, World.drewN_drewN _ _ _⟩ | exact ⟨rfl, _, Eq.trans (World.drewN_drewN _ _ _) (congrArg (World.drewN _) (Nat.add_assoc _ _ _))⟩))))
                                              go_roundg k5
                                              case measure => have := HJ1.out; have := HJ13.out; have := HK3.out; have := HK4.out; have := HK5.out; omega
                                              case rel => exact ⟨(wrap64 (x9_5 + 1)), (by first | rfl | (simp; done) | (simp [*]; done)), H', ⟨by have := HJ1.out; have := HJ13.out; have := HK3.out; have := HK4.out; have := HK5.out; omega⟩, ⟨by (with_reducible repeat (first | refine blk_drewN ?_ _ | refine blk_drew ?_ | refine blk_alloc ?_ _)); exact BK221.out⟩, ⟨by repeat (first | (with_reducible first | exact HB.out | apply below_alloc | apply pw_below_drewN | apply below_drew1 | refine below_set ?_ GE221.out) | exact HB.out)⟩⟩
                                            · rw [if_neg c39] at H
                                              have c39b0 : (t232 == 0) = false := beq_eq_false_iff_ne.mpr c39
                                              have c39b1 : (t232 != 0) = true := bne_iff_ne.mpr c39
                                              obtain rfl := Option.some.inj H
                                              have hcz41_0 : wr.cell? ⟨gb221, 0, none⟩ = some (.slice (some ad224) l0_0.length c0_0) := (blk_cell BK221.out 0).trans rfl
                                              have hfz41_0 := blk_frozen BK221.out 0
                                              have p230 : 0 ≤ (x8_4 : Int) := of_decide_eq_true (by first | (with_reducible assumption) | assumption)
                                              have q230 : x8_4 < (l0_0.length : Int) := of_decide_eq_true (by first | (with_reducible assumption) | assumption)
                                              obtain ⟨ad230, A230_0, c230_0, e230, hx230_0, hl230_0, hi230_0⟩ := at_L3 HR0_0.out x8_4 p230 q230
                                              obtain rfl : ad224 = ad230 := (by injection e230)
                                              replace hx230_0 := (HB.out.cell (World.block_lt_of_cell? w _ hx230_0)).trans hx230_0
                                              have HR230_0 := Aside0.mk hi230_0
                                              have HC230_0 := Aside0.mk hl230_0
                                              clear hi230_0 hl230_0
                                              replace p230 := eq_true p230
                                              replace q230 := eq_true q230
                                              have p231 : 0 ≤ (x9_5 : Int) := of_decide_eq_true (by first | (with_reducible assumption) | assumption)
                                              have q231 : x9_5 < ((rd_L3 l0_0 x8_4).length : Int) := of_decide_eq_true (by first | (with_reducible assumption) | assumption)
                                              obtain ⟨ad231, A231_0, c231_0, e231, hx231_0, hl231_0, hi231_0⟩ := at_L2 HR230_0.out x9_5 p231 q231
                                              cases e231
                                              replace hx231_0 := (HB.out.cell (World.block_lt_of_cell? w _ hx231_0)).trans hx231_0
                                              try (have ea_ := Option.some.inj (hx231_0.symm.trans hx231_0); injection ea_ with ea1_ ea2_ ea3_; subst ea1_; subst ea3_)
                                              have HR231_0 := Aside0.mk hi231_0
                                              have HC231_0 := Aside0.mk hl231_0
                                              clear hi231_0 hl231_0
                                              replace p231 := eq_true p231
                                              replace q231 := eq_true q231
                                              go_wp2_with (first | (go_at_call 92; (with_reducible refine (wayfinderref03_CheckWide.calls k5 _ _ (rd_L2 (rd_L3 l0_0 x8_4) x9_5) t232 _ ?side1 ?side2 A38.out).mono ?_); (case side1 => repeat (first | exact (Kd.C_below HR231_0.out HB.out) | (with_reducible refine Kd.C_alloc ?_ _) | (with_reducible refine Kd.C_drewN ?_ _) | (with_reducible refine Kd.C_drew ?_))); (case side2 => exact HC231_0.out); rintro e w' ⟨rfl, ⟨nd, rfl⟩⟩; (try first | exact ⟨rfl, _, World.drewN_drewN _ _ _⟩ | exact ⟨rfl, _, Eq.trans (World.drewN_drewN _ _ _) (congrArg (World.drewN _) (Nat.add_assoc _ _ _))⟩)))
                                              repeat (go_quiet (first | (go_at_call 92; (with_reducible refine (wayfinderref03_CheckWide.calls k5 _ _ (rd_L2 (rd_L3 l0_0 x8_4) x9_5) t232 _ ?side1 ?side2 A38.out).mono ?_); (case side1 => repeat (first | exact (Kd.C_below HR231_0.out HB.out) | (with_reducible refine Kd.C_alloc ?_ _) | (with_reducible refine Kd.C_drewN ?_ _) | (with_reducible refine Kd.C_drew ?_))); (case side2 => exact HC231_0.out); rintro e w' ⟨rfl, ⟨nd, rfl⟩⟩; (try first | exact ⟨rfl, _, World.drewN_drewN _ _ _⟩ | exact ⟨rfl, _, Eq.trans (World.drewN_drewN _ _ _) (congrArg (World.drewN _) (Nat.add_assoc _ _ _))⟩))); try go_wp2_with (first | (go_at_call 92; (with_reducible refine (wayfinderref03_CheckWide.calls k5 _ _ (rd_L2 (rd_L3 l0_0 x8_4) x9_5) t232 _ ?side1 ?side2 A38.out).mono ?_); (case side1 => repeat (first | exact (Kd.C_below HR231_0.out HB.out) | (with_reducible refine Kd.C_alloc ?_ _) | (with_reducible refine Kd.C_drewN ?_ _) | (with_reducible refine Kd.C_drew ?_))); (case side2 => exact HC231_0.out); rintro e w' ⟨rfl, ⟨nd, rfl⟩⟩; (try first | exact ⟨rfl, _, World.drewN_drewN _ _ _⟩ | exact ⟨rfl, _, Eq.trans (World.drewN_drewN _ _ _) (congrArg (World.drewN _) (Nat.add_assoc _ _ _))⟩))))
                                              go_ret
                                              exact ⟨by first | rfl | (simp [errW_none, errW_some] <;> rfl) | (simp [*, errW_none, errW_some] <;> rfl), by repeat (first | (with_reducible first | exact HB.out | apply below_alloc | apply pw_below_drewN | apply below_drew1 | refine below_set ?_ GE221.out) | exact HB.out)⟩
                                          · rw [if_neg c37] at H
                                            exact absurd H (by simp)
                                        · rw [if_neg c36] at H
                                          exact absurd H (by simp)
                                      · rw [if_neg c35] at H
                                        exact absurd H (by simp)
                                    · rw [if_neg c34] at H
                                      exact absurd H (by simp)
                                  · rw [if_neg c33] at H
                                    have c33b0 : decide (x9_5 < ((rd_L3 l0_0 0).length : Int)) = false := decide_eq_false c33
                                    clear c33
                                    have H' := Aside0.mk H
                                    clear H
                                    go_wp2
                                    repeat (go_quiet (fail); try go_wp2)
                                    go_roundg k5
                                    case measure => have := HJ1.out; have := HJ13.out; have := HK3.out; have := HK4.out; have := HK5.out; omega
                                    case rel => exact ⟨(wrap64 (x8_4 + 1)), (by first | rfl | (simp; done) | (simp [*]; done)), H', ⟨by have := HJ1.out; have := HJ13.out; have := HK3.out; have := HK4.out; have := HK5.out; omega⟩, ⟨by (with_reducible repeat (first | refine blk_drewN ?_ _ | refine blk_drew ?_ | refine blk_alloc ?_ _)); exact BK221.out⟩, ⟨by repeat (first | (with_reducible first | exact HB.out | apply below_alloc | apply pw_below_drewN | apply below_drew1 | refine below_set ?_ GE221.out) | exact HB.out)⟩⟩
                            · rw [if_neg c32] at H
                              have c32b0 : decide (x8_4 < (l0_0.length : Int)) = false := decide_eq_false c32
                              clear c32
                              obtain rfl := Option.some.inj H
                              go_wp2
                              repeat (go_quiet (fail); try go_wp2)
                              go_ret
                              exact ⟨by first | rfl | (simp [errW_none, errW_some] <;> rfl) | (simp [*, errW_none, errW_some] <;> rfl), by repeat (first | (with_reducible first | exact HB.out | apply below_alloc | apply pw_below_drewN | apply below_drew1 | refine below_set ?_ GE221.out) | exact HB.out)⟩
          · rw [if_neg c13] at H
            exact absurd H (by simp)
        · rw [if_neg c12] at H
          exact absurd H (by simp)

end Go.Proofs.Yteickelddnhdiaa.Bk
