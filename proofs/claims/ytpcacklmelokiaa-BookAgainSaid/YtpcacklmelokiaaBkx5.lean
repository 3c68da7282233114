/- Lean functions with the answers of Go functions, and the proofs that the Go code comes to them (printed by wip/gen/hyb.py). -/
import Derived.Test.YtpcacklmelokiaaBkx0
import Derived.Test.YtpcacklmelokiaaBkx1
import Derived.Test.YtpcacklmelokiaaBkx2
import Derived.Test.YtpcacklmelokiaaBkx4
import Derived.Test.YtpcacklmelokiaaBookC
import Derived.Test.YtpcacklmelokiaaBookL
namespace Go.Proofs.Ytpcacklmelokiaa.Bk
open Go.RowKit Go.Proofs.YtpcacklmelokiaaW.PrintWords Go.Proofs.YtpcacklmelokiaaW.PrintLast Go.Proofs.YtpcacklmelokiaaW.PrintMore
attribute [local go_sem] max2_int min2_int max_two min_two max_three min_three max_four min_four   -- for this text's walks alone
set_option linter.unusedVariables false
set_option linter.unusedSimpArgs false

/-! ### wayfinderlaw15_BookAgain: function 9 -/
mutual
def wayfinderlaw15_BookAgain.j0 : Nat → List Int → Bool → List (List (List Int)) → Option (Bool)
  | 0, _, _, _ => none
  | k + 1, x1, x33, x197000 => if x33 = true then (some true) else (if 0 ≤ (x197000.length : Int) then (if ((x197000.length : Int) : Int).toNat ≤ 281474976710656 then (wayfinderlaw15_BookAgain.l0 k x1 (List.replicate ((x197000.length : Int) : Int).toNat 0) 0 x197000) else (none)) else (none))
def wayfinderlaw15_BookAgain.l0 : Nat → List Int → List Int → Int → List (List (List Int)) → Option (Bool)
  | 0, _, _, _, _ => none
  | k + 1, x1, x5, x6, x197000 => if x6 < (x5.length : Int) then (wayfinderlaw15_BookAgain.j2 k x1 x5 x6 (decide (x6 < (x1.length : Int))) x197000) else (wayfinderlaw15_BookAgain.j2 k x1 x5 x6 false x197000)
def wayfinderlaw15_BookAgain.j2 : Nat → List Int → List Int → Int → Bool → List (List (List Int)) → Option (Bool)
  | 0, _, _, _, _, _ => none
  | k + 1, x1, x5, x6, x47, x197000 => if x47 = true then (if 0 ≤ x6 then (if x6 < (x197000.length : Int) then (if ((rd_L3 x197000 x6).length : Int) = 0 then (none) else (if x6 < (x1.length : Int) then (if x6 < (x5.length : Int) then (wayfinderlaw15_BookAgain.l0 k x1 (x5.set (x6 : Int).toNat ((Int.tmod (wrap64 (rd x1 x6)) ((rd_L3 x197000 x6).length : Int)) % 256)) (wrap64 (x6 + 1)) x197000) else (none)) else (none))) else (none)) else (none)) else ((book_Decode.f k x197000 x5).bind fun bt207 => ((book_Encode.f k x197000 bt207.1).bind fun bt211 => ((book_Decode.f k x197000 bt211.1).bind fun bt215 => ((book_Loss.f k x197000 bt207.1).bind fun bt219 => (if bt207.2 = 0 then (if bt211.2 = 0 then (if bt215.2 = 0 then (if bt219.2 = 0 then (if bt219.1 = 0 then ((wayfinderkit_Same_int32.f k bt207.1 bt215.1).bind fun t221 => (if t221 = true then ((book_Dim.f x197000).bind fun t222 => (if (bt207.1.length : Int) = t222 then (wayfinderlaw15_BookAgain.j3 k x5 bt207.1 bt211.1 ((bt211.1.length : Int) != (x5.length : Int)) x197000) else (wayfinderlaw15_BookAgain.j3 k x5 bt207.1 bt211.1 true x197000))) else (wayfinderlaw15_BookAgain.j3 k x5 bt207.1 bt211.1 true x197000))) else (wayfinderlaw15_BookAgain.j3 k x5 bt207.1 bt211.1 true x197000)) else (wayfinderlaw15_BookAgain.j3 k x5 bt207.1 bt211.1 true x197000)) else (wayfinderlaw15_BookAgain.j3 k x5 bt207.1 bt211.1 true x197000)) else (wayfinderlaw15_BookAgain.j3 k x5 bt207.1 bt211.1 true x197000)) else (wayfinderlaw15_BookAgain.j3 k x5 bt207.1 bt211.1 true x197000))))))
def wayfinderlaw15_BookAgain.j3 : Nat → List Int → List Int → List Int → Bool → List (List (List Int)) → Option (Bool)
  | 0, _, _, _, _, _ => none
  | k + 1, x5, x7, x9, x134, x197000 => if x134 = true then (none) else (wayfinderlaw15_BookAgain.l1 k x5 x7 x9 0 0 x197000)
def wayfinderlaw15_BookAgain.l1 : Nat → List Int → List Int → List Int → Int → Int → List (List (List Int)) → Option (Bool)
  | 0, _, _, _, _, _, _ => none
  | k + 1, x5, x7, x9, x15, x16, x197000 => if x16 < (x5.length : Int) then (if 0 ≤ x16 then (if x16 < (x9.length : Int) then (if (rd x9 x16) > (rd x5 x16) then (none) else ((book_Word.f x197000 x16 (wrap64 (rd x5 x16))).bind fun bt226 => (if bt226.2 = 0 then (if (wrap64 (x15 + (bt226.1.length : Int))) > (x7.length : Int) then (none) else (if 0 ≤ x15 then (if x15 ≤ (wrap64 (x15 + (bt226.1.length : Int))) then (if (wrap64 (x15 + (bt226.1.length : Int))) ≤ (x7.length : Int) then ((wayfinderkit_Same_int32.f k bt226.1 ((x7.take ((wrap64 (x15 + (bt226.1.length : Int))) : Int).toNat).drop (x15 : Int).toNat)).bind fun t234 => (if t234 = true then (wayfinderlaw15_BookAgain.l1 k x5 x7 x9 (wrap64 (x15 + (bt226.1.length : Int))) (wrap64 (x16 + 1)) x197000) else (none))) else (none)) else (none)) else (none))) else (none)))) else (none)) else (none)) else (some (x15 == (x7.length : Int)))
end
def wayfinderlaw15_BookAgain.f (k : Nat) (l0_0 : List (List (List Int))) (l1 : List Int) : Option (Bool) := (wayfinderlaw15_lives.f).bind fun t197 => (if t197 = true then ((wayfinderlaw15_light.f k l0_0).bind fun t198 => (if t198 = true then (if (l1.length : Int) > 1100 then (wayfinderlaw15_BookAgain.j0 k l1 true l0_0) else ((book_Check.f l0_0).bind fun t199 => (wayfinderlaw15_BookAgain.j0 k l1 (t199 != 0) l0_0))) else (wayfinderlaw15_BookAgain.j0 k l1 true l0_0))) else (none))
theorem wayfinderlaw15_BookAgain.mono_l : ∀ k, (∀ y0 y1 y2, LeO (wayfinderlaw15_BookAgain.j0 k y0 y1 y2) (wayfinderlaw15_BookAgain.j0 (k + 1) y0 y1 y2)) ∧ (∀ y0 y1 y2 y3, LeO (wayfinderlaw15_BookAgain.l0 k y0 y1 y2 y3) (wayfinderlaw15_BookAgain.l0 (k + 1) y0 y1 y2 y3)) ∧ (∀ y0 y1 y2 y3 y4, LeO (wayfinderlaw15_BookAgain.j2 k y0 y1 y2 y3 y4) (wayfinderlaw15_BookAgain.j2 (k + 1) y0 y1 y2 y3 y4)) ∧ (∀ y0 y1 y2 y3 y4, LeO (wayfinderlaw15_BookAgain.j3 k y0 y1 y2 y3 y4) (wayfinderlaw15_BookAgain.j3 (k + 1) y0 y1 y2 y3 y4)) ∧ (∀ y0 y1 y2 y3 y4 y5, LeO (wayfinderlaw15_BookAgain.l1 k y0 y1 y2 y3 y4 y5) (wayfinderlaw15_BookAgain.l1 (k + 1) y0 y1 y2 y3 y4 y5))
  | 0 => ⟨fun _ _ _ r h => by simp [wayfinderlaw15_BookAgain.j0] at h, fun _ _ _ _ r h => by simp [wayfinderlaw15_BookAgain.l0] at h, fun _ _ _ _ _ r h => by simp [wayfinderlaw15_BookAgain.j2] at h, fun _ _ _ _ _ r h => by simp [wayfinderlaw15_BookAgain.j3] at h, fun _ _ _ _ _ _ r h => by simp [wayfinderlaw15_BookAgain.l1] at h⟩
  | k + 1 => by
    obtain ⟨ih0, ih1, ih2, ih3, ih4⟩ := wayfinderlaw15_BookAgain.mono_l k
    refine ⟨?_, ?_, ?_, ?_, ?_⟩
    · intro y0 y1 y2
      unfold wayfinderlaw15_BookAgain.j0
      repeat' first
      | (with_reducible exact ih0 _ _ _)
      | (with_reducible exact ih1 _ _ _ _)
      | (with_reducible exact ih2 _ _ _ _ _)
      | (with_reducible exact ih3 _ _ _ _ _)
      | (with_reducible exact ih4 _ _ _ _ _ _)
      | (with_reducible exact book_Decode.mono _ _ _)
      | (with_reducible exact book_Encode.mono _ _ _)
      | (with_reducible exact book_Loss.mono _ _ _)
      | (with_reducible exact wayfinderkit_Same_int32.mono _ _ _)
      | (with_reducible exact wayfinderlaw15_light.mono _ _)
      | (with_reducible exact LeO.refl _)
      | (with_reducible exact LeO.none _)
      | (with_reducible refine LeO.ite ?_ ?_)
      | (with_reducible refine LeO.bind ?_ (fun _ => ?_))
      | exact ih0 _ _ _
      | exact ih1 _ _ _ _
      | exact ih2 _ _ _ _ _
      | exact ih3 _ _ _ _ _
      | exact ih4 _ _ _ _ _ _
      | exact book_Decode.mono _ _ _
      | exact book_Encode.mono _ _ _
      | exact book_Loss.mono _ _ _
      | exact wayfinderkit_Same_int32.mono _ _ _
      | exact wayfinderlaw15_light.mono _ _
      | exact LeO.none _
      | refine LeO.ite ?_ ?_
      | refine LeO.bind ?_ (fun _ => ?_)
    · intro y0 y1 y2 y3
      unfold wayfinderlaw15_BookAgain.l0
      repeat' first
      | (with_reducible exact ih0 _ _ _)
      | (with_reducible exact ih1 _ _ _ _)
      | (with_reducible exact ih2 _ _ _ _ _)
      | (with_reducible exact ih3 _ _ _ _ _)
      | (with_reducible exact ih4 _ _ _ _ _ _)
      | (with_reducible exact book_Decode.mono _ _ _)
      | (with_reducible exact book_Encode.mono _ _ _)
      | (with_reducible exact book_Loss.mono _ _ _)
      | (with_reducible exact wayfinderkit_Same_int32.mono _ _ _)
      | (with_reducible exact wayfinderlaw15_light.mono _ _)
      | (with_reducible exact LeO.refl _)
      | (with_reducible exact LeO.none _)
      | (with_reducible refine LeO.ite ?_ ?_)
      | (with_reducible refine LeO.bind ?_ (fun _ => ?_))
      | exact ih0 _ _ _
      | exact ih1 _ _ _ _
      | exact ih2 _ _ _ _ _
      | exact ih3 _ _ _ _ _
      | exact ih4 _ _ _ _ _ _
      | exact book_Decode.mono _ _ _
      | exact book_Encode.mono _ _ _
      | exact book_Loss.mono _ _ _
      | exact wayfinderkit_Same_int32.mono _ _ _
      | exact wayfinderlaw15_light.mono _ _
      | exact LeO.none _
      | refine LeO.ite ?_ ?_
      | refine LeO.bind ?_ (fun _ => ?_)
    · intro y0 y1 y2 y3 y4
      unfold wayfinderlaw15_BookAgain.j2
      repeat' first
      | (with_reducible exact ih0 _ _ _)
      | (with_reducible exact ih1 _ _ _ _)
      | (with_reducible exact ih2 _ _ _ _ _)
      | (with_reducible exact ih3 _ _ _ _ _)
      | (with_reducible exact ih4 _ _ _ _ _ _)
      | (with_reducible exact book_Decode.mono _ _ _)
      | (with_reducible exact book_Encode.mono _ _ _)
      | (with_reducible exact book_Loss.mono _ _ _)
      | (with_reducible exact wayfinderkit_Same_int32.mono _ _ _)
      | (with_reducible exact wayfinderlaw15_light.mono _ _)
      | (with_reducible exact LeO.refl _)
      | (with_reducible exact LeO.none _)
      | (with_reducible refine LeO.ite ?_ ?_)
      | (with_reducible refine LeO.bind ?_ (fun _ => ?_))
      | exact ih0 _ _ _
      | exact ih1 _ _ _ _
      | exact ih2 _ _ _ _ _
      | exact ih3 _ _ _ _ _
      | exact ih4 _ _ _ _ _ _
      | exact book_Decode.mono _ _ _
      | exact book_Encode.mono _ _ _
      | exact book_Loss.mono _ _ _
      | exact wayfinderkit_Same_int32.mono _ _ _
      | exact wayfinderlaw15_light.mono _ _
      | exact LeO.none _
      | refine LeO.ite ?_ ?_
      | refine LeO.bind ?_ (fun _ => ?_)
    · intro y0 y1 y2 y3 y4
      unfold wayfinderlaw15_BookAgain.j3
      repeat' first
      | (with_reducible exact ih0 _ _ _)
      | (with_reducible exact ih1 _ _ _ _)
      | (with_reducible exact ih2 _ _ _ _ _)
      | (with_reducible exact ih3 _ _ _ _ _)
      | (with_reducible exact ih4 _ _ _ _ _ _)
      | (with_reducible exact book_Decode.mono _ _ _)
      | (with_reducible exact book_Encode.mono _ _ _)
      | (with_reducible exact book_Loss.mono _ _ _)
      | (with_reducible exact wayfinderkit_Same_int32.mono _ _ _)
      | (with_reducible exact wayfinderlaw15_light.mono _ _)
      | (with_reducible exact LeO.refl _)
      | (with_reducible exact LeO.none _)
      | (with_reducible refine LeO.ite ?_ ?_)
      | (with_reducible refine LeO.bind ?_ (fun _ => ?_))
      | exact ih0 _ _ _
      | exact ih1 _ _ _ _
      | exact ih2 _ _ _ _ _
      | exact ih3 _ _ _ _ _
      | exact ih4 _ _ _ _ _ _
      | exact book_Decode.mono _ _ _
      | exact book_Encode.mono _ _ _
      | exact book_Loss.mono _ _ _
      | exact wayfinderkit_Same_int32.mono _ _ _
      | exact wayfinderlaw15_light.mono _ _
      | exact LeO.none _
      | refine LeO.ite ?_ ?_
      | refine LeO.bind ?_ (fun _ => ?_)
    · intro y0 y1 y2 y3 y4 y5
      unfold wayfinderlaw15_BookAgain.l1
      repeat' first
      | (with_reducible exact ih0 _ _ _)
      | (with_reducible exact ih1 _ _ _ _)
      | (with_reducible exact ih2 _ _ _ _ _)
      | (with_reducible exact ih3 _ _ _ _ _)
      | (with_reducible exact ih4 _ _ _ _ _ _)
      | (with_reducible exact book_Decode.mono _ _ _)
      | (with_reducible exact book_Encode.mono _ _ _)
      | (with_reducible exact book_Loss.mono _ _ _)
      | (with_reducible exact wayfinderkit_Same_int32.mono _ _ _)
      | (with_reducible exact wayfinderlaw15_light.mono _ _)
      | (with_reducible exact LeO.refl _)
      | (with_reducible exact LeO.none _)
      | (with_reducible refine LeO.ite ?_ ?_)
      | (with_reducible refine LeO.bind ?_ (fun _ => ?_))
      | exact ih0 _ _ _
      | exact ih1 _ _ _ _
      | exact ih2 _ _ _ _ _
      | exact ih3 _ _ _ _ _
      | exact ih4 _ _ _ _ _ _
      | exact book_Decode.mono _ _ _
      | exact book_Encode.mono _ _ _
      | exact book_Loss.mono _ _ _
      | exact wayfinderkit_Same_int32.mono _ _ _
      | exact wayfinderlaw15_light.mono _ _
      | exact LeO.none _
      | refine LeO.ite ?_ ?_
      | refine LeO.bind ?_ (fun _ => ?_)
theorem wayfinderlaw15_BookAgain.mono : ∀ a0 a1 k, LeO (wayfinderlaw15_BookAgain.f k a0 a1) (wayfinderlaw15_BookAgain.f (k + 1) a0 a1) := by
  intro a0 a1 k
  obtain ⟨ih0, ih1, ih2, ih3, ih4⟩ := wayfinderlaw15_BookAgain.mono_l k
  unfold wayfinderlaw15_BookAgain.f
  repeat' first
      | (with_reducible exact ih0 _ _ _)
      | (with_reducible exact ih1 _ _ _ _)
      | (with_reducible exact ih2 _ _ _ _ _)
      | (with_reducible exact ih3 _ _ _ _ _)
      | (with_reducible exact ih4 _ _ _ _ _ _)
      | (with_reducible exact book_Decode.mono _ _ _)
      | (with_reducible exact book_Encode.mono _ _ _)
      | (with_reducible exact book_Loss.mono _ _ _)
      | (with_reducible exact wayfinderkit_Same_int32.mono _ _ _)
      | (with_reducible exact wayfinderlaw15_light.mono _ _)
      | (with_reducible exact LeO.refl _)
      | (with_reducible exact LeO.none _)
      | (with_reducible refine LeO.ite ?_ ?_)
      | (with_reducible refine LeO.bind ?_ (fun _ => ?_))
      | exact ih0 _ _ _
      | exact ih1 _ _ _ _
      | exact ih2 _ _ _ _ _
      | exact ih3 _ _ _ _ _
      | exact ih4 _ _ _ _ _ _
      | exact book_Decode.mono _ _ _
      | exact book_Encode.mono _ _ _
      | exact book_Loss.mono _ _ _
      | exact wayfinderkit_Same_int32.mono _ _ _
      | exact wayfinderlaw15_light.mono _ _
      | exact LeO.none _
      | refine LeO.ite ?_ ?_
      | refine LeO.bind ?_ (fun _ => ?_)
def wayfinderlaw15_BookAgain.T11 : Bool × List (List Nat × List Nat) := (true, [([], []), ([], []), ([], []), ([], []), ([2, 3], [2, 3]), ([4], [4]), ([5], [5]), ([], []), ([7], [7]), ([], []), ([8, 9], [8, 9]), ([10], [10]), ([11], [11]), ([6, 12], [6, 12]), ([13], [13]), ([0, 1, 0, 1, 2, 3, 4, 5, 6, 7, 8, 9, 10, 11, 12, 13, 14], [0, 1]), ([15, 14, 0, 1, 2, 3, 4, 5, 6, 7, 8, 9, 10, 11, 12, 13, 14], [14, 15])])
def wayfinderlaw15_BookAgain.B11 : List Nat := [0, 0, 0, 0, 12, 28, 60, 0, 128, 0, 896, 1920, 3968, 8188, 16380, 32767, 65535]
theorem wayfinderlaw15_BookAgain.tab11 : rtab .any (opsOf Try.f9 11) = wayfinderlaw15_BookAgain.T11 := by kernel_rfl
theorem wayfinderlaw15_BookAgain.bits11 : waitsOk wayfinderlaw15_BookAgain.T11.2 wayfinderlaw15_BookAgain.B11 = true := by kernel_rfl
def wayfinderlaw15_BookAgain.T22 : Bool × List (List Nat × List Nat) := (true, [([], []), ([], []), ([0, 1], [0, 1]), ([2], [2]), ([], []), ([], []), ([4, 5], [4, 5]), ([6], [6]), ([3, 7], [3, 7])])
def wayfinderlaw15_BookAgain.B22 : List Nat := [0, 0, 3, 7, 0, 0, 48, 112, 255]
theorem wayfinderlaw15_BookAgain.tab22 : rtab .any (opsOf Try.f9 22) = wayfinderlaw15_BookAgain.T22 := by kernel_rfl
theorem wayfinderlaw15_BookAgain.bits22 : waitsOk wayfinderlaw15_BookAgain.T22.2 wayfinderlaw15_BookAgain.B22 = true := by kernel_rfl
def wayfinderlaw15_BookAgain.T24 : Bool × List (List Nat × List Nat) := (true, [([], []), ([], []), ([], []), ([], []), ([2, 3], [2, 3]), ([4], [4]), ([5], [5]), ([0, 1, 6], [0, 1, 6]), ([7], [7]), ([8], [8]), ([8], [8]), ([9, 7, 0, 1, 2, 3, 4, 5, 6, 7, 8, 9], [9]), ([10, 11, 0, 1, 2, 3, 4, 5, 6, 7, 8, 9, 10, 11], [10])])
def wayfinderlaw15_BookAgain.B24 : List Nat := [0, 0, 0, 0, 12, 28, 60, 127, 255, 511, 511, 1023, 4095]
theorem wayfinderlaw15_BookAgain.tab24 : rtab .any (opsOf Try.f9 24) = wayfinderlaw15_BookAgain.T24 := by kernel_rfl
theorem wayfinderlaw15_BookAgain.bits24 : waitsOk wayfinderlaw15_BookAgain.T24.2 wayfinderlaw15_BookAgain.B24 = true := by kernel_rfl
set_option maxHeartbeats 8000000 in
set_option maxRecDepth 100000 in
theorem wayfinderlaw15_BookAgain.calls (k : Nat) (A0_0 : Option Addr) (c0_0 : Nat) (l0_0 : List (List (List Int))) (A1 : Option Addr) (c1 : Nat) (l1 : List Int) (r : Bool) (w : World) (hr0_0 : Kd.C (Kd.slice 25 (Kd.slice 21 (Kd.int .i32))) w A0_0 l0_0.length l0_0) (hc0_0 : l0_0.length ≤ c0_0) (hr1 : Kd.C (Kd.int .u8) w A1 l1.length l1) (hc1 : l1.length ≤ c1) (h : wayfinderlaw15_BookAgain.f k l0_0 l1 = some r) :
    Calls Try.prog 9 #[.agg #[.slice A0_0 l0_0.length c0_0], .slice A1 l1.length c1] w fun e w' => e = .returned (.bool r) ∧ Below w.heap.size w w' := by
  have hu50 := Try.underlying50
  have HR0_0 := Aside0.mk hr0_0
  have HC0_0 := Aside0.mk hc0_0
  clear hr0_0 hc0_0
  have HR1 := Aside0.mk hr1
  have HC1 := Aside0.mk hc1
  clear hr1 hc1
  have HB := Aside0.mk (Below.refl w.heap.size w)
  have H : ((wayfinderlaw15_lives.f).bind fun t197 => (if t197 = true then ((wayfinderlaw15_light.f k l0_0).bind fun t198 => (if t198 = true then (if (l1.length : Int) > 1100 then (wayfinderlaw15_BookAgain.j0 k l1 true l0_0) else ((book_Check.f l0_0).bind fun t199 => (wayfinderlaw15_BookAgain.j0 k l1 (t199 != 0) l0_0))) else (wayfinderlaw15_BookAgain.j0 k l1 true l0_0))) else (none))) = some r := h
  clear h
  replace H := Option.bind_eq_some_iff.mp H
  obtain ⟨t197, A30, H⟩ := H
  replace H : (if t197 = true then ((wayfinderlaw15_light.f k l0_0).bind fun t198 => (if t198 = true then (if (l1.length : Int) > 1100 then (wayfinderlaw15_BookAgain.j0 k l1 true l0_0) else ((book_Check.f l0_0).bind fun t199 => (wayfinderlaw15_BookAgain.j0 k l1 (t199 != 0) l0_0))) else (wayfinderlaw15_BookAgain.j0 k l1 true l0_0))) else (none)) = some r := H
  have A3 := Aside0.mk A30
  clear A30
  by_cases c4 : t197 = true
  · subst c4
    have H1 : ((wayfinderlaw15_light.f k l0_0).bind fun t198 => (if t198 = true then (if (l1.length : Int) > 1100 then (wayfinderlaw15_BookAgain.j0 k l1 true l0_0) else ((book_Check.f l0_0).bind fun t199 => (wayfinderlaw15_BookAgain.j0 k l1 (t199 != 0) l0_0))) else (wayfinderlaw15_BookAgain.j0 k l1 true l0_0))) = some r := by rw [if_pos rfl] at H; exact H
    clear H
    have H := H1
    clear H1
    have HC5 := Aside0.mk H
    clear H
    go_enter Try.func9, Try.ntmps9
    go_upto_region 3 with (first | ((with_reducible refine gate_dst (N := 2) rfl ?_); (try (refine gate_guard (by rfl) ?_; dsimp only)); refine box_event ?hg (N := 2) ?hd (cs := #[.slice A0_0 l0_0.length c0_0]) (t := 50) ?hr ?_; (case hd => rfl); (case hg => rfl); (case hr => first | (go_simp; done) | (go_simp; rfl)); intro gb196 hg w6 hbox hb; have n0_ := Aside0.mk (below_step (by repeat (first | (with_reducible first | exact HB.out | apply below_alloc | apply pw_below_drewN | apply below_drew1) | exact HB.out)) hb); have n1_ := Aside0.mk (hbox); have n2_ := Aside0.mk ((by rw [hg]; exact (below_size (by repeat (first | (with_reducible first | exact HB.out | apply below_alloc | apply pw_below_drewN | apply below_drew1) | exact HB.out))) : w.heap.size ≤ gb196)); have n3_ := Aside0.mk ((by rw [hg]; exact (below_size (by repeat (first | (with_reducible first | exact HB.out | apply below_alloc | apply pw_below_drewN | apply below_drew1) | exact HB.out))) : w.heap.size ≤ gb196)); clear HB; have HB := n0_; have BK196 := n1_; have GW196 := n2_; have GE196 := n3_; clear n0_ n1_ n2_ n3_; clear hb hbox hg) | ((with_reducible refine gate_callee (f := 32) rfl ?_); refine goesL_ (some 19) rfl rfl Try.func32 (by kernel_rfl) rfl #[] rfl (by (try simp only [List.map_toArray, List.map_cons, List.map_nil]); first | done | rfl | (simp only [List.length_drop, List.length_take]; rfl)) ?_; (with_reducible refine (wayfinderlaw15_lives.calls  true _ A3.out).mono ?_); rintro e w7 ⟨rfl, hb⟩; refine ⟨_, rfl, ?_⟩; have n0_ := Aside0.mk (blk_below (g := gb196) (o := .cells #[.slice A0_0 l0_0.length c0_0] 50 (0, 0)) (by (with_reducible repeat (first | refine blk_drewN ?_ _ | refine blk_drew ?_ | refine blk_alloc ?_ _)); exact BK196.out) hb); have n1_ := Aside0.mk (below_step (by repeat (first | (with_reducible first | exact HB.out | apply below_alloc | apply pw_below_drewN | apply below_drew1 | refine below_set ?_ GE196.out) | exact HB.out)) hb); clear BK196; clear HB; have BK196 := n0_; have HB := n1_; clear n0_ n1_; (try clear hb); (try clear hb2); (try clear hk); (try clear hi)))
    (try simp only [Act.put, List.setIfInBounds_toArray, List.set_cons_zero, List.set_cons_succ])
    go_cut [33] (fun v33 wc => ∃ (kq : Nat) (x33_4 : Bool), v33 = .bool x33_4 ∧ Aside0 (wayfinderlaw15_BookAgain.j0 kq l1 x33_4 l0_0 = some r) ∧ Aside0 (kq ≤ k) ∧ Aside0 (wc.heap[gb196]? = some (.cells #[(.slice A0_0 l0_0.length c0_0)] 50 (0, 0))) ∧ Aside0 (Below w.heap.size w wc))
    case first =>
      have H := HC5.out
      clear HC5
      replace H := Option.bind_eq_some_iff.mp H
      obtain ⟨t198, A80, H⟩ := H
      replace H : (if t198 = true then (if (l1.length : Int) > 1100 then (wayfinderlaw15_BookAgain.j0 k l1 true l0_0) else ((book_Check.f l0_0).bind fun t199 => (wayfinderlaw15_BookAgain.j0 k l1 (t199 != 0) l0_0))) else (wayfinderlaw15_BookAgain.j0 k l1 true l0_0)) = some r := H
      have A8 := Aside0.mk A80
      clear A80
      by_cases c9 : t198 = true
      · subst c9
        have H1 : (if (l1.length : Int) > 1100 then (wayfinderlaw15_BookAgain.j0 k l1 true l0_0) else ((book_Check.f l0_0).bind fun t199 => (wayfinderlaw15_BookAgain.j0 k l1 (t199 != 0) l0_0))) = some r := by rw [if_pos rfl] at H; exact H
        clear H
        have H := H1
        clear H1
        by_cases c10 : (l1.length : Int) > 1100
        · rw [if_pos c10] at H
          have c10b0 : decide (1100 < (l1.length : Int)) = true := decide_eq_true c10
          have c10b1 : decide (1100 < l1.length) = true := decide_eq_true (by omega)
          clear c10
          (first | rw [c10b0] | (simp only [i64_w, i32_w]; rw [c10b0]) | skip)
          have H' := Aside0.mk H
          clear H
          have hcz11_0 : w7.cell? ⟨gb196, 0, none⟩ = some (.slice A0_0 l0_0.length c0_0) := (blk_cell BK196.out 0).trans rfl
          have hfz11_0 := blk_frozen BK196.out 0
          go_wp2_with (first | ((with_reducible refine gate_callee (f := 33) rfl ?_); refine goesL_ (some 22) rfl rfl Try.func33 (by kernel_rfl) rfl #[.agg #[.slice A0_0 l0_0.length c0_0]] rfl (by (try simp only [List.map_toArray, List.map_cons, List.map_nil]); first | done | rfl | (simp only [List.length_drop, List.length_take]; rfl)) ?_; (with_reducible refine (wayfinderlaw15_light.calls k _ _ l0_0 true _ ?side1 ?side2 A8.out).mono ?_); (case side1 => repeat (first | exact (Kd.C_below HR0_0.out HB.out) | (with_reducible refine Kd.C_alloc ?_ _) | (with_reducible refine Kd.C_drewN ?_ _) | (with_reducible refine Kd.C_drew ?_))); (case side2 => exact HC0_0.out); rintro e w12 ⟨rfl, hb⟩; refine ⟨_, rfl, ?_⟩; have n0_ := Aside0.mk (blk_below (g := gb196) (o := .cells #[.slice A0_0 l0_0.length c0_0] 50 (0, 0)) (by (with_reducible repeat (first | refine blk_drewN ?_ _ | refine blk_drew ?_ | refine blk_alloc ?_ _)); exact BK196.out) hb); have n1_ := Aside0.mk (below_step (by repeat (first | (with_reducible first | exact HB.out | apply below_alloc | apply pw_below_drewN | apply below_drew1 | refine below_set ?_ GE196.out) | exact HB.out)) hb); clear BK196; clear HB; have BK196 := n0_; have HB := n1_; clear n0_ n1_; (try clear hb); (try clear hb2); (try clear hk); (try clear hi)))
          go_meet
          case rel => exact ⟨_, (true), (by first | rfl | (simp; done) | (simp [*]; done)), H', ⟨by first | omega | exact Nat.le_refl _⟩, ⟨by (with_reducible repeat (first | refine blk_drewN ?_ _ | refine blk_drew ?_ | refine blk_alloc ?_ _)); exact BK196.out⟩, ⟨by repeat (first | (with_reducible first | exact HB.out | apply below_alloc | apply pw_below_drewN | apply below_drew1 | refine below_set ?_ GE196.out) | exact HB.out)⟩⟩
        · rw [if_neg c10] at H
          have c10b0 : decide (1100 < (l1.length : Int)) = false := decide_eq_false c10
          have c10b1 : decide (1100 < l1.length) = false := decide_eq_false (by omega)
          clear c10
          (first | rw [c10b0] | (simp only [i64_w, i32_w]; rw [c10b0]) | skip)
          replace H := Option.bind_eq_some_iff.mp H
          obtain ⟨t199, A130, H⟩ := H
          replace H : (wayfinderlaw15_BookAgain.j0 k l1 (t199 != 0) l0_0) = some r := H
          have A13 := Aside0.mk A130
          clear A130
          have H' := Aside0.mk H
          clear H
          have hcz14_0 : w7.cell? ⟨gb196, 0, none⟩ = some (.slice A0_0 l0_0.length c0_0) := (blk_cell BK196.out 0).trans rfl
          have hfz14_0 := blk_frozen BK196.out 0
          go_wp2_with (first | ((with_reducible refine gate_callee (f := 33) rfl ?_); refine goesL_ (some 22) rfl rfl Try.func33 (by kernel_rfl) rfl #[.agg #[.slice A0_0 l0_0.length c0_0]] rfl (by (try simp only [List.map_toArray, List.map_cons, List.map_nil]); first | done | rfl | (simp only [List.length_drop, List.length_take]; rfl)) ?_; (with_reducible refine (wayfinderlaw15_light.calls k _ _ l0_0 true _ ?side1 ?side2 A8.out).mono ?_); (case side1 => repeat (first | exact (Kd.C_below HR0_0.out HB.out) | (with_reducible refine Kd.C_alloc ?_ _) | (with_reducible refine Kd.C_drewN ?_ _) | (with_reducible refine Kd.C_drew ?_))); (case side2 => exact HC0_0.out); rintro e w15 ⟨rfl, hb⟩; refine ⟨_, rfl, ?_⟩; have n0_ := Aside0.mk (blk_below (g := gb196) (o := .cells #[.slice A0_0 l0_0.length c0_0] 50 (0, 0)) (by (with_reducible repeat (first | refine blk_drewN ?_ _ | refine blk_drew ?_ | refine blk_alloc ?_ _)); exact BK196.out) hb); have n1_ := Aside0.mk (below_step (by repeat (first | (with_reducible first | exact HB.out | apply below_alloc | apply pw_below_drewN | apply below_drew1 | refine below_set ?_ GE196.out) | exact HB.out)) hb); clear BK196; clear HB; have BK196 := n0_; have HB := n1_; clear n0_ n1_; (try clear hb); (try clear hb2); (try clear hk); (try clear hi); have hcz16_0 : w15.cell? ⟨gb196, 0, none⟩ = some (.slice A0_0 l0_0.length c0_0) := (blk_cell BK196.out 0).trans rfl; have hfz16_0 := blk_frozen BK196.out 0) | (go_at_call 34; (with_reducible refine (book_Check.calls _ _ l0_0 t199 _ ?side1 ?side2 A13.out).mono ?_); (case side1 => repeat (first | exact (Kd.C_below HR0_0.out HB.out) | (with_reducible refine Kd.C_alloc ?_ _) | (with_reducible refine Kd.C_drewN ?_ _) | (with_reducible refine Kd.C_drew ?_))); (case side2 => exact HC0_0.out); rintro e w17 ⟨rfl, hb⟩; have n0_ := Aside0.mk (blk_below (g := gb196) (o := .cells #[.slice A0_0 l0_0.length c0_0] 50 (0, 0)) (by (with_reducible repeat (first | refine blk_drewN ?_ _ | refine blk_drew ?_ | refine blk_alloc ?_ _)); exact BK196.out) hb); have n1_ := Aside0.mk (below_step (by repeat (first | (with_reducible first | exact HB.out | apply below_alloc | apply pw_below_drewN | apply below_drew1 | refine below_set ?_ GE196.out) | exact HB.out)) hb); clear BK196; clear HB; have BK196 := n0_; have HB := n1_; clear n0_ n1_; (try clear hb); (try clear hb2); (try clear hk); (try clear hi)))
          go_meet
          case rel => exact ⟨_, ((t199 != 0)), (by first | rfl | (simp; done) | (simp [*]; done)), H', ⟨by first | omega | exact Nat.le_refl _⟩, ⟨by (with_reducible repeat (first | refine blk_drewN ?_ _ | refine blk_drew ?_ | refine blk_alloc ?_ _)); exact BK196.out⟩, ⟨by repeat (first | (with_reducible first | exact HB.out | apply below_alloc | apply pw_below_drewN | apply below_drew1 | refine below_set ?_ GE196.out) | exact HB.out)⟩⟩
      · replace c9 := Bool.eq_false_iff.mpr c9
        subst c9
        have H1 : (wayfinderlaw15_BookAgain.j0 k l1 true l0_0) = some r := by rw [if_neg (show ¬ (false = true) by decide)] at H; exact H
        clear H
        have H := H1
        clear H1
        have H' := Aside0.mk H
        clear H
        have hcz18_0 : w7.cell? ⟨gb196, 0, none⟩ = some (.slice A0_0 l0_0.length c0_0) := (blk_cell BK196.out 0).trans rfl
        have hfz18_0 := blk_frozen BK196.out 0
        go_wp2_with (first | ((with_reducible refine gate_callee (f := 33) rfl ?_); refine goesL_ (some 22) rfl rfl Try.func33 (by kernel_rfl) rfl #[.agg #[.slice A0_0 l0_0.length c0_0]] rfl (by (try simp only [List.map_toArray, List.map_cons, List.map_nil]); first | done | rfl | (simp only [List.length_drop, List.length_take]; rfl)) ?_; (with_reducible refine (wayfinderlaw15_light.calls k _ _ l0_0 false _ ?side1 ?side2 A8.out).mono ?_); (case side1 => repeat (first | exact (Kd.C_below HR0_0.out HB.out) | (with_reducible refine Kd.C_alloc ?_ _) | (with_reducible refine Kd.C_drewN ?_ _) | (with_reducible refine Kd.C_drew ?_))); (case side2 => exact HC0_0.out); rintro e w19 ⟨rfl, hb⟩; refine ⟨_, rfl, ?_⟩; have n0_ := Aside0.mk (blk_below (g := gb196) (o := .cells #[.slice A0_0 l0_0.length c0_0] 50 (0, 0)) (by (with_reducible repeat (first | refine blk_drewN ?_ _ | refine blk_drew ?_ | refine blk_alloc ?_ _)); exact BK196.out) hb); have n1_ := Aside0.mk (below_step (by repeat (first | (with_reducible first | exact HB.out | apply below_alloc | apply pw_below_drewN | apply below_drew1 | refine below_set ?_ GE196.out) | exact HB.out)) hb); clear BK196; clear HB; have BK196 := n0_; have HB := n1_; clear n0_ n1_; (try clear hb); (try clear hb2); (try clear hk); (try clear hi)))
        go_meet
        case rel => exact ⟨_, (true), (by first | rfl | (simp; done) | (simp [*]; done)), H', ⟨by first | omega | exact Nat.le_refl _⟩, ⟨by (with_reducible repeat (first | refine blk_drewN ?_ _ | refine blk_drew ?_ | refine blk_alloc ?_ _)); exact BK196.out⟩, ⟨by repeat (first | (with_reducible first | exact HB.out | apply below_alloc | apply pw_below_drewN | apply below_drew1 | refine below_set ?_ GE196.out) | exact HB.out)⟩⟩
    case rest =>
      clear HC5
      try clear c1
      try clear p2
      try clear c3
      try clear c4
      try clear c9
      try clear c10
      try clear c10b0
      try clear c10b1
      try clear hcz11_0
      try clear hcz14_0
      try clear hcz16_0
      try clear hcz18_0
      try clear hfz11_0
      try clear hfz14_0
      try clear hfz16_0
      try clear hfz18_0
      obtain ⟨kq, x33_4, rfl, HA, HJ4, BK196, HB⟩ := hcut
      cases kq with
      | zero => exact absurd HA.out (by simp [wayfinderlaw15_BookAgain.j0])
      | succ kj4 =>
        have H := HA.out
        clear HA
        simp only [wayfinderlaw15_BookAgain.j0] at H
        by_cases c20 : x33_4 = true
        · subst c20
          have H1 : (some true) = some r := by rw [if_pos rfl] at H; exact H
          clear H
          have H := H1
          clear H1
          obtain rfl := Option.some.inj H
          go_wp2
          go_ret
          exact ⟨by first | rfl | (simp [errW_none, errW_some] <;> rfl) | (simp [*, errW_none, errW_some] <;> rfl), by repeat (first | (with_reducible first | exact HB.out | apply below_alloc | apply pw_below_drewN | apply below_drew1 | refine below_set ?_ GE196.out) | exact HB.out)⟩
        · replace c20 := Bool.eq_false_iff.mpr c20
          subst c20
          have H1 : (if 0 ≤ (l0_0.length : Int) then (if ((l0_0.length : Int) : Int).toNat ≤ 281474976710656 then (wayfinderlaw15_BookAgain.l0 kj4 l1 (List.replicate ((l0_0.length : Int) : Int).toNat 0) 0 l0_0) else (none)) else (none)) = some r := by rw [if_neg (show ¬ (false = true) by decide)] at H; exact H
          clear H
          have H := H1
          clear H1
          by_cases c21 : 0 ≤ (l0_0.length : Int)
          · rw [if_pos c21] at H
            have c21b0 := eq_true c21
            have c21b1 : decide (0 ≤ (l0_0.length : Int)) = true := decide_eq_true c21
            clear c21
            by_cases c22 : ((l0_0.length : Int) : Int).toNat ≤ 281474976710656
            · rw [if_pos c22] at H
              have c22b0 := eq_true c22
              have c22b1 : decide (((l0_0.length : Int) : Int).toNat ≤ 281474976710656) = true := decide_eq_true c22
              clear c22
              obtain ⟨y200, hy200⟩ : ∃ y_ : List Int, y_ = (List.replicate ((l0_0.length : Int) : Int).toNat 0) := ⟨_, rfl⟩
              replace H : (wayfinderlaw15_BookAgain.l0 kj4 l1 y200 0 l0_0) = some r := by first | (rw [hy200]; with_reducible exact H) | (have H2_ := (Option.bind_some _ _).symm.trans H; rw [hy200]; with_reducible exact H2_) | (have H2_ := (Option.bind_some _ _).symm.trans H; with_reducible exact H2_) | with_reducible exact H | (rw [hy200]; exact H) | exact H
              have Ny200 := Aside0.mk hy200
              clear hy200
              have H' := Aside0.mk H
              clear H
              have hcz23_0 : wc.cell? ⟨gb196, 0, none⟩ = some (.slice A0_0 l0_0.length c0_0) := (blk_cell BK196.out 0).trans rfl
              have hfz23_0 := blk_frozen BK196.out 0
              go_wp2_with (first | ((with_reducible refine gate_dst (N := 37) rfl ?_); (try (refine gate_guard (by rfl) ?_; dsimp only)); refine Kd.R_make (Kd.int .u8) _ 5 rfl (N := 37) rfl 51 _ _ rfl (l0_0.length : Int) rfl rfl Try.underlying51 (.int .u8 0) 1 info5 rfl (by decide) (by omega) 0 (ok := fun _ => True) (okp := fun _ => True) rfl (fun _ hk => hk) trivial (of_decide_eq_true (by first | (with_reducible assumption) | assumption)) (Nat.le_trans (Nat.mul_le_mul_right _ (of_decide_eq_true (by first | (with_reducible assumption) | assumption) : (l0_0.length : Int).toNat ≤ 281474976710656)) (by omega)) (Below.refl _ _) (Nat.le_refl _) ?_; intro v201 w24 ho25 hb hg_ hnew_; clear hg_ hnew_; (first | rw [← Ny200.out] at ho25 | (simp only [Int.reduceToNat] at ho25; rw [← Ny200.out] at ho25)); have n0_ := Aside0.mk (Kd.R_lower ho25 (below_size (by repeat (first | (with_reducible first | exact HB.out | apply below_alloc | apply pw_below_drewN | apply below_drew1 | refine below_set ?_ GE196.out) | exact HB.out)))); have n1_ := Aside0.mk (blk_below (g := gb196) (o := .cells #[.slice A0_0 l0_0.length c0_0] 50 (0, 0)) (by (with_reducible repeat (first | refine blk_drewN ?_ _ | refine blk_drew ?_ | refine blk_alloc ?_ _)); exact BK196.out) hb); have n2_ := Aside0.mk (below_step (by repeat (first | (with_reducible first | exact HB.out | apply below_alloc | apply pw_below_drewN | apply below_drew1 | refine below_set ?_ GE196.out) | exact HB.out)) hb); clear BK196; clear HB; have HO202 := n0_; have BK196 := n1_; have HB := n2_; clear n0_ n1_ n2_; clear hb ho25))
              go_loopg [6] kj4 (fun kq v6 w' => ∃ (x5_2 : List Int) (x6_2 : Int), v6 = .int .i64 x6_2 ∧ Aside0 (wayfinderlaw15_BookAgain.l0 kq l1 x5_2 x6_2 l0_0 = some r) ∧ Aside0 (kq ≤ kj4) ∧ Aside0 (Kd.R (Kd.int .u8) 5 w' w.heap.size (fun _ => True) v201 x5_2) ∧ Aside0 (w'.heap[gb196]? = some (.cells #[(.slice A0_0 l0_0.length c0_0)] 50 (0, 0))) ∧ Aside0 (Below w.heap.size w w'))
              case atStart => exact ⟨(y200), (0), (by first | rfl | (simp; done) | (simp [*]; done)), H', ⟨Nat.le_refl _⟩, ⟨by (with_reducible repeat (first | apply Kd.R_alloc | apply Kd.R_drewN | apply Kd.R_drew)); exact HO202.out⟩, ⟨by (with_reducible repeat (first | refine blk_drewN ?_ _ | refine blk_drew ?_ | refine blk_alloc ?_ _)); exact BK196.out⟩, ⟨by repeat (first | (with_reducible first | exact HB.out | apply below_alloc | apply pw_below_drewN | apply below_drew1 | refine below_set ?_ GE196.out) | exact HB.out)⟩⟩
              case round =>
                clear H'
                try clear c1
                try clear c2
                try clear p2
                try clear c3
                try clear c4
                try clear c9
                try clear c10
                try clear c10b0
                try clear c10b1
                try clear c20
                try clear c21
                try clear c21b0
                try clear c21b1
                try clear c22
                try clear c22b0
                try clear c22b1
                try clear hcz11_0
                try clear hcz14_0
                try clear hcz16_0
                try clear hcz18_0
                try clear hcz23_0
                try clear hfz11_0
                try clear hfz14_0
                try clear hfz16_0
                try clear hfz18_0
                try clear hfz23_0
                try clear p2
                obtain ⟨x5_2, x6_2, rfl, HA, HK2, HO_5, BK196, HB⟩ := hrel
                cases gk with
                | zero => exact absurd HA.out (by simp [wayfinderlaw15_BookAgain.l0])
                | succ k2 =>
                  have H := HA.out
                  clear HA
                  simp only [wayfinderlaw15_BookAgain.l0] at H
                  have HC26 := Aside0.mk H
                  clear H
                  go_upto_region 7 with (fail)
                  go_cut [47] (fun v47 wc => ∃ (kq : Nat) (x47_25 : Bool), v47 = .bool x47_25 ∧ Aside0 (wayfinderlaw15_BookAgain.j2 kq l1 x5_2 x6_2 x47_25 l0_0 = some r) ∧ Aside0 (kq ≤ k2) ∧ Aside0 (Kd.R (Kd.int .u8) 5 wc w.heap.size (fun _ => True) v201 x5_2) ∧ Aside0 (wc.heap[gb196]? = some (.cells #[(.slice A0_0 l0_0.length c0_0)] 50 (0, 0))) ∧ Aside0 (Below w.heap.size w wc))
                  case first =>
                    have H := HC26.out
                    clear HC26
                    by_cases c27 : x6_2 < (x5_2.length : Int)
                    · rw [if_pos c27] at H
                      have c27b0 : decide (x6_2 < (x5_2.length : Int)) = true := decide_eq_true c27
                      clear c27
                      (first | rw [c27b0] | (simp only [i64_w, i32_w]; rw [c27b0]) | skip)
                      have H' := Aside0.mk H
                      clear H
                      obtain ⟨Ao28, co28, eo28⟩ := Kd.R_slice HO_5.out
                      subst eo28
                      go_wp2
                      go_meet
                      case rel => exact ⟨_, (decide (x6_2 < (l1.length : Int))), (by first | rfl | (simp; done) | (simp [*]; done)), H', ⟨by have := HJ4.out; have := HK2.out; first | omega | exact Nat.le_refl _⟩, ⟨by (with_reducible repeat (first | apply Kd.R_alloc | apply Kd.R_drewN | apply Kd.R_drew)); exact HO_5.out⟩, ⟨by (with_reducible repeat (first | refine blk_drewN ?_ _ | refine blk_drew ?_ | refine blk_alloc ?_ _)); exact BK196.out⟩, ⟨by repeat (first | (with_reducible first | exact HB.out | apply below_alloc | apply pw_below_drewN | apply below_drew1 | refine below_set ?_ GE196.out) | exact HB.out)⟩⟩
                    · rw [if_neg c27] at H
                      have c27b0 : decide (x6_2 < (x5_2.length : Int)) = false := decide_eq_false c27
                      clear c27
                      (first | rw [c27b0] | (simp only [i64_w, i32_w]; rw [c27b0]) | skip)
                      have H' := Aside0.mk H
                      clear H
                      obtain ⟨Ao29, co29, eo29⟩ := Kd.R_slice HO_5.out
                      subst eo29
                      go_wp2
                      go_meet
                      case rel => exact ⟨_, (false), (by first | rfl | (simp; done) | (simp [*]; done)), H', ⟨by have := HJ4.out; have := HK2.out; first | omega | exact Nat.le_refl _⟩, ⟨by (with_reducible repeat (first | apply Kd.R_alloc | apply Kd.R_drewN | apply Kd.R_drew)); exact HO_5.out⟩, ⟨by (with_reducible repeat (first | refine blk_drewN ?_ _ | refine blk_drew ?_ | refine blk_alloc ?_ _)); exact BK196.out⟩, ⟨by repeat (first | (with_reducible first | exact HB.out | apply below_alloc | apply pw_below_drewN | apply below_drew1 | refine below_set ?_ GE196.out) | exact HB.out)⟩⟩
                  case rest =>
                    clear HC26
                    try clear c1
                    try clear c2
                    try clear p2
                    try clear c3
                    try clear c4
                    try clear c9
                    try clear c10
                    try clear c10b0
                    try clear c10b1
                    try clear c20
                    try clear c21
                    try clear c21b0
                    try clear c21b1
                    try clear c22
                    try clear c22b0
                    try clear c22b1
                    try clear c27
                    try clear c27b0
                    try clear hcz11_0
                    try clear hcz14_0
                    try clear hcz16_0
                    try clear hcz18_0
                    try clear hcz23_0
                    try clear hfz11_0
                    try clear hfz14_0
                    try clear hfz16_0
                    try clear hfz18_0
                    try clear hfz23_0
                    try clear p2
                    obtain ⟨kq, x47_25, rfl, HA, HJ25, HO_5, BK196, HB⟩ := hcut
                    cases kq with
                    | zero => exact absurd HA.out (by simp [wayfinderlaw15_BookAgain.j2])
                    | succ kj25 =>
                      have H := HA.out
                      clear HA
                      simp only [wayfinderlaw15_BookAgain.j2] at H
                      by_cases c30 : x47_25 = true
                      · subst c30
                        have H1 : (if 0 ≤ x6_2 then (if x6_2 < (l0_0.length : Int) then (if ((rd_L3 l0_0 x6_2).length : Int) = 0 then (none) else (if x6_2 < (l1.length : Int) then (if x6_2 < (x5_2.length : Int) then (wayfinderlaw15_BookAgain.l0 kj25 l1 (x5_2.set (x6_2 : Int).toNat ((Int.tmod (wrap64 (rd l1 x6_2)) ((rd_L3 l0_0 x6_2).length : Int)) % 256)) (wrap64 (x6_2 + 1)) l0_0) else (none)) else (none))) else (none)) else (none)) = some r := by rw [if_pos rfl] at H; exact H
                        clear H
                        have H := H1
                        clear H1
                        by_cases c31 : 0 ≤ x6_2
                        · rw [if_pos c31] at H
                          have c31b0 : decide (0 ≤ x6_2) = true := decide_eq_true c31
                          clear c31
                          by_cases c32 : x6_2 < (l0_0.length : Int)
                          · rw [if_pos c32] at H
                            have c32b0 : decide (x6_2 < (l0_0.length : Int)) = true := decide_eq_true c32
                            clear c32
                            by_cases c33 : ((rd_L3 l0_0 x6_2).length : Int) = 0
                            · rw [if_pos c33] at H
                              exact absurd H (by simp)
                            · rw [if_neg c33] at H
                              have c33b0 : (((rd_L3 l0_0 x6_2).length : Int) == 0) = false := beq_eq_false_iff_ne.mpr c33
                              have c33b1 : (((rd_L3 l0_0 x6_2).length : Int) != 0) = true := bne_iff_ne.mpr c33
                              have c33b2 : ¬ ((rd_L3 l0_0 x6_2) = []) := fun h_ => c33 (by rw [h_]; rfl)
                              by_cases c34 : x6_2 < (l1.length : Int)
                              · rw [if_pos c34] at H
                                have c34b0 : decide (x6_2 < (l1.length : Int)) = true := decide_eq_true c34
                                clear c34
                                by_cases c35 : x6_2 < (x5_2.length : Int)
                                · rw [if_pos c35] at H
                                  have c35b0 : decide (x6_2 < (x5_2.length : Int)) = true := decide_eq_true c35
                                  clear c35
                                  obtain ⟨y206, hy206⟩ : ∃ y_ : List Int, y_ = (x5_2.set (x6_2 : Int).toNat ((Int.tmod (wrap64 (rd l1 x6_2)) ((rd_L3 l0_0 x6_2).length : Int)) % 256)) := ⟨_, rfl⟩
                                  replace H : (wayfinderlaw15_BookAgain.l0 kj25 l1 y206 (wrap64 (x6_2 + 1)) l0_0) = some r := by first | (rw [hy206]; with_reducible exact H) | (have H2_ := (Option.bind_some _ _).symm.trans H; rw [hy206]; with_reducible exact H2_) | (have H2_ := (Option.bind_some _ _).symm.trans H; with_reducible exact H2_) | with_reducible exact H | (rw [hy206]; exact H) | exact H
                                  have Ny206 := Aside0.mk hy206
                                  clear hy206
                                  have H' := Aside0.mk H
                                  clear H
                                  have hcz37_0 : wc.cell? ⟨gb196, 0, none⟩ = some (.slice A0_0 l0_0.length c0_0) := (blk_cell BK196.out 0).trans rfl
                                  have hfz37_0 := blk_frozen BK196.out 0
                                  have p203 : 0 ≤ (x6_2 : Int) := of_decide_eq_true (by first | (with_reducible assumption) | assumption)
                                  have q203 : x6_2 < (l0_0.length : Int) := of_decide_eq_true (by first | (with_reducible assumption) | assumption)
                                  obtain ⟨ad203, A203_0, c203_0, e203, hx203_0, hl203_0, hi203_0⟩ := at_L3 HR0_0.out x6_2 p203 q203
                                  cases e203
                                  replace hx203_0 := (HB.out.cell (World.block_lt_of_cell? w _ hx203_0)).trans hx203_0
                                  have HR203_0 := Aside0.mk hi203_0
                                  have HC203_0 := Aside0.mk hl203_0
                                  clear hi203_0 hl203_0
                                  replace p203 := eq_true p203
                                  replace q203 := eq_true q203
                                  try go_wp2
                                  have n0_ := Aside0.mk (Kd.R_drew HO_5.out)
                                  have n1_ := Aside0.mk (blk_drew BK196.out)
                                  have n2_ := Aside0.mk (below_drew1 HB.out)
                                  clear HO_5
                                  clear BK196
                                  clear HB
                                  have HO_5 := n0_
                                  have BK196 := n1_
                                  have HB := n2_
                                  clear n0_ n1_ n2_
                                  have p204 : 0 ≤ (x6_2 : Int) := of_decide_eq_true (by first | (with_reducible assumption) | assumption)
                                  have q204 : x6_2 < (l1.length : Int) := of_decide_eq_true (by first | (with_reducible assumption) | assumption)
                                  obtain ⟨ad204, e204, hx204_0⟩ := Kd.at_int HR1.out x6_2 p204 q204
                                  have hw204_0 := hx204_0
                                  cases e204
                                  replace hx204_0 := (HB.out.cell (World.block_lt_of_cell? w _ hx204_0)).trans hx204_0
                                  replace p204 := eq_true p204
                                  replace q204 := eq_true q204
                                  have p205 : 0 ≤ (x6_2 : Int) := of_decide_eq_true (by first | (with_reducible assumption) | assumption)
                                  have q205 : x6_2 < (l0_0.length : Int) := of_decide_eq_true (by first | (with_reducible assumption) | assumption)
                                  obtain ⟨ad205, A205_0, c205_0, e205, hx205_0, hl205_0, hi205_0⟩ := at_L3 HR0_0.out x6_2 p205 q205
                                  have hw205_0 := hx205_0
                                  obtain rfl : ad203 = ad205 := (by injection e205)
                                  replace hx205_0 := (HB.out.cell (World.block_lt_of_cell? w _ hx205_0)).trans hx205_0
                                  have HR205_0 := Aside0.mk hi205_0
                                  have HC205_0 := Aside0.mk hl205_0
                                  clear hi205_0 hl205_0
                                  replace p205 := eq_true p205
                                  replace q205 := eq_true q205
                                  have p36 : 0 ≤ (x6_2 : Int) := of_decide_eq_true (by first | (with_reducible assumption) | assumption)
                                  have q36 : (x6_2 : Int) < ((x5_2.length : Int) : Int) := of_decide_eq_true (by first | (with_reducible assumption) | assumption)
                                  obtain ⟨go36, co36, eo36, gb36, gl36, cl36, HG36⟩ := Kd.R_form HO_5.out (by omega)
                                  (first | cases eo36 | (injection eo36 with ea_ en_ ec_; (first | subst ea_ | (injection ea_ with ea_; subst ea_)); subst ec_; clear en_))
                                  have GB36 := Aside0.mk gb36
                                  have GG36 := Aside0.mk HG36
                                  clear gb36 gl36 HG36
                                  obtain ⟨hx36_0, hf36_0⟩ := Kd.R_celln 0 HO_5.out (x6_2 : Int) p36 q36
                                  replace p36 := eq_true p36
                                  replace q36 := eq_true q36
                                  have HP39 := Kd.R_putn HO_5.out (x6_2 : Int) ((Int.tmod (wrap64 (rd l1 x6_2)) ((rd_L3 l0_0 x6_2).length : Int)) % 256)
                                  rw [← Ny206.out] at HP39
                                  have HQ39 := Aside0.mk HP39
                                  clear HP39
                                  refine start_ (n := 17) (S := fun w' => w'.cell? ⟨gb196, 0, none⟩ = some (.slice (some ad203) l0_0.length c0_0) ∧ w'.cell? (ad204.add (x6_2).toNat) = some (.int .u8 (rd l1 x6_2)) ∧ w'.cell? (ad203.add (x6_2).toNat) = some (.slice A205_0 (rd_L3 l0_0 x6_2).length c205_0)) (ds := [16]) #[false, false, false, false, false, false, false, false, false, false, false, false, false, false, false, false, false] (by kernel_rfl) rfl rfl ⟨(blk_cell BK196.out 0).trans rfl, ((HB.out.cell (World.block_lt_of_cell? w _ hw204_0)).trans hw204_0), ((HB.out.cell (World.block_lt_of_cell? w _ hw205_0)).trans hw205_0)⟩ (fun hHeld => ?_); refine with_tabW wayfinderlaw15_BookAgain.tab11 wayfinderlaw15_BookAgain.bits11 (fun HT_ HW_ => ?_)
                                  generalize wc.drew = w38 at HO_5 BK196 HB GG36 HQ39 HR205_0 hf36_0 hx204_0 hx205_0 hx36_0 hHeld ⊢
                                  refine pure_ (i := 0) (N := some 57) (v := ?_) (a' := ?_) #[true, false, false, false, false, false, false, false, false, false, false, false, false, false, false, false, false] rfl rfl (any_of HT_.out (by kernel_rfl)) (fun _ _ _ h => h) (Or.inl ⟨by rfl, ?_⟩) ?_ ?_
                                  rotate_left
                                  · intro w'
                                    go_simp
                                    with_reducible rfl
                                  rotate_left
                                  · simp only [Act.put, List.setIfInBounds_toArray, List.set_cons_zero, List.set_cons_succ, i64_w, i32_w]
                                    rfl
                                  refine pure_ (i := 1) (N := some 58) (v := ?_) (a' := ?_) #[true, true, false, false, false, false, false, false, false, false, false, false, false, false, false, false, false] rfl rfl (any_of HT_.out (by kernel_rfl)) (fun _ _ _ h => h) (Or.inl ⟨by rfl, ?_⟩) ?_ ?_
                                  rotate_left
                                  · intro w'
                                    go_simp
                                    with_reducible rfl
                                  rotate_left
                                  · simp only [Act.put, List.setIfInBounds_toArray, List.set_cons_zero, List.set_cons_succ, i64_w, i32_w]
                                    rfl
                                  refine pure_ (i := 2) (N := some 59) (v := ?_) (a' := ?_) #[true, true, true, false, false, false, false, false, false, false, false, false, false, false, false, false, false] rfl rfl (any_of HT_.out (by kernel_rfl)) (fun _ _ _ h => h) (Or.inl ⟨by rfl, ?_⟩) ?_ ?_
                                  rotate_left
                                  · intro w'
                                    go_simp
                                    with_reducible rfl
                                  rotate_left
                                  · simp only [Act.put, List.setIfInBounds_toArray, List.set_cons_zero, List.set_cons_succ, i64_w, i32_w]
                                    rfl
                                  refine pure_ (i := 3) (N := some 60) (v := ?_) (a' := ?_) #[true, true, true, true, false, false, false, false, false, false, false, false, false, false, false, false, false] rfl rfl (any_of HT_.out (by kernel_rfl)) (fun _ _ _ h => h) (Or.inl ⟨by rfl, ?_⟩) ?_ ?_
                                  rotate_left
                                  · intro w'
                                    go_simp
                                    with_reducible rfl
                                  rotate_left
                                  · simp only [Act.put, List.setIfInBounds_toArray, List.set_cons_zero, List.set_cons_succ, i64_w, i32_w]
                                    rfl
                                  refine pure_ (i := 4) (N := some 61) (v := ?_) (a' := ?_) #[true, true, true, true, true, false, false, false, false, false, false, false, false, false, false, false, false] rfl rfl (any_of HT_.out (by kernel_rfl)) (fun _ _ _ h => h) (Or.inl ⟨by rfl, ?_⟩) ?_ ?_
                                  rotate_left
                                  · intro w'
                                    go_simp
                                    with_reducible rfl
                                  rotate_left
                                  · simp only [Act.put, List.setIfInBounds_toArray, List.set_cons_zero, List.set_cons_succ, i64_w, i32_w]
                                    rfl
                                  refine pure_ (i := 7) (N := some 64) (v := ?_) (a' := ?_) #[true, true, true, true, true, false, false, true, false, false, false, false, false, false, false, false, false] rfl rfl (any_of HT_.out (by kernel_rfl)) (fun _ _ _ h => h) (Or.inl ⟨by rfl, ?_⟩) ?_ ?_
                                  rotate_left
                                  · intro w'
                                    go_simp
                                    with_reducible rfl
                                  rotate_left
                                  · simp only [Act.put, List.setIfInBounds_toArray, List.set_cons_zero, List.set_cons_succ, i64_w, i32_w]
                                    rfl
                                  refine pure_ (i := 9) (N := some 66) (v := ?_) (a' := ?_) #[true, true, true, true, true, false, false, true, false, true, false, false, false, false, false, false, false] rfl rfl (any_of HT_.out (by kernel_rfl)) (fun _ _ _ h => h) (Or.inl ⟨by rfl, ?_⟩) ?_ ?_
                                  rotate_left
                                  · intro w'
                                    go_simp
                                    with_reducible rfl
                                  rotate_left
                                  · simp only [Act.put, List.setIfInBounds_toArray, List.set_cons_zero, List.set_cons_succ, i64_w, i32_w]
                                    rfl
                                  refine take_ (i := 5) (N := some 62) (v := ?_) (a' := ?_) #[true, true, true, true, true, true, false, true, false, true, false, false, false, false, false, false, false] rfl rfl (take_ofW HT_.out HW_.out (by kernel_rfl)) (fun _ _ _ h => h) (Or.inl ⟨by rfl, ?_⟩) hHeld ?_ ?_
                                  rotate_left
                                  · rintro w' ⟨s0, s1, s2⟩
                                    go_simp
                                    with_reducible rfl
                                  rotate_left
                                  · simp only [Act.put, List.setIfInBounds_toArray, List.set_cons_zero, List.set_cons_succ, i64_w, i32_w]
                                    rfl
                                  refine pure_ (i := 6) (N := some 63) (v := ?_) (a' := ?_) #[true, true, true, true, true, true, true, true, false, true, false, false, false, false, false, false, false] rfl rfl (any_of HT_.out (by kernel_rfl)) (fun _ _ _ h => h) (Or.inl ⟨by rfl, ?_⟩) ?_ ?_
                                  rotate_left
                                  · intro w'
                                    go_simp
                                    with_reducible rfl
                                  rotate_left
                                  · simp only [Act.put, List.setIfInBounds_toArray, List.set_cons_zero, List.set_cons_succ, i64_w, i32_w]
                                    rfl
                                  refine take_ (i := 8) (N := some 65) (v := ?_) (a' := ?_) #[true, true, true, true, true, true, true, true, true, true, false, false, false, false, false, false, false] rfl rfl (take_ofW HT_.out HW_.out (by kernel_rfl)) (fun _ _ _ h => h) (Or.inl ⟨by rfl, ?_⟩) hHeld ?_ ?_
                                  rotate_left
                                  · rintro w' ⟨s0, s1, s2⟩
                                    go_simp
                                    with_reducible rfl
                                  rotate_left
                                  · simp only [Act.put, List.setIfInBounds_toArray, List.set_cons_zero, List.set_cons_succ, i64_w, i32_w]
                                    rfl
                                  refine pure_ (i := 10) (N := some 67) (v := ?_) (a' := ?_) #[true, true, true, true, true, true, true, true, true, true, true, false, false, false, false, false, false] rfl rfl (any_of HT_.out (by kernel_rfl)) (fun _ _ _ h => h) (Or.inl ⟨by rfl, ?_⟩) ?_ ?_
                                  rotate_left
                                  · intro w'
                                    go_simp
                                    with_reducible rfl
                                  rotate_left
                                  · simp only [Act.put, List.setIfInBounds_toArray, List.set_cons_zero, List.set_cons_succ, i64_w, i32_w]
                                    rfl
                                  refine take_ (i := 11) (N := some 68) (v := ?_) (a' := ?_) #[true, true, true, true, true, true, true, true, true, true, true, true, false, false, false, false, false] rfl rfl (take_ofW HT_.out HW_.out (by kernel_rfl)) (fun _ _ _ h => h) (Or.inl ⟨by rfl, ?_⟩) hHeld ?_ ?_
                                  rotate_left
                                  · rintro w' ⟨s0, s1, s2⟩
                                    go_simp
                                    with_reducible rfl
                                  rotate_left
                                  · simp only [Act.put, List.setIfInBounds_toArray, List.set_cons_zero, List.set_cons_succ, i64_w, i32_w]
                                    rfl
                                  refine pure_ (i := 12) (N := some 69) (v := ?_) (a' := ?_) #[true, true, true, true, true, true, true, true, true, true, true, true, true, false, false, false, false] rfl rfl (any_of HT_.out (by kernel_rfl)) (fun _ _ _ h => h) (Or.inl ⟨by rfl, ?_⟩) ?_ ?_
                                  rotate_left
                                  · intro w'
                                    go_simp
                                    with_reducible rfl
                                  rotate_left
                                  · simp only [Act.put, List.setIfInBounds_toArray, List.set_cons_zero, List.set_cons_succ, i64_w, i32_w]
                                    rfl
                                  refine pure_ (i := 13) (N := some 70) (v := ?_) (a' := ?_) #[true, true, true, true, true, true, true, true, true, true, true, true, true, true, false, false, false] rfl rfl (any_of HT_.out (by kernel_rfl)) (fun _ _ _ h => h) (Or.inl ⟨by rfl, ?_⟩) ?_ ?_
                                  rotate_left
                                  · intro w'
                                    go_simp
                                    with_reducible rfl
                                  rotate_left
                                  · simp only [Act.put, List.setIfInBounds_toArray, List.set_cons_zero, List.set_cons_succ, i64_w, i32_w]
                                    rfl
                                  refine pure_ (i := 14) (N := some 71) (v := ?_) (a' := ?_) #[true, true, true, true, true, true, true, true, true, true, true, true, true, true, true, false, false] rfl rfl (any_of HT_.out (by kernel_rfl)) (fun _ _ _ h => h) (Or.inl ⟨by rfl, ?_⟩) ?_ ?_
                                  rotate_left
                                  · intro w'
                                    go_simp
                                    with_reducible rfl
                                  rotate_left
                                  · simp only [Act.put, List.setIfInBounds_toArray, List.set_cons_zero, List.set_cons_succ, i64_w, i32_w]
                                    rfl
                                  refine pure_ (i := 15) (N := some 72) (v := ?_) (a' := ?_) #[true, true, true, true, true, true, true, true, true, true, true, true, true, true, true, true, false] rfl rfl (any_of HT_.out (by kernel_rfl)) (fun _ _ _ h => h) (Or.inl ⟨by rfl, ?_⟩) ?_ ?_
                                  rotate_left
                                  · intro w'
                                    go_simp
                                    with_reducible rfl
                                  rotate_left
                                  · simp only [Act.put, List.setIfInBounds_toArray, List.set_cons_zero, List.set_cons_succ, i64_w, i32_w]
                                    rfl
                                  refine last_ (i := 16) (N := none) #[true, true, true, true, true, true, true, true, true, true, true, true, true, true, true, true, true] rfl rfl (one_of HT_.out (by kernel_rfl)) (by decide) (fun K hK => ?_)
                                  refine skip_ (w1 := ?_) (by rfl) rfl ?_ ?_
                                  rotate_left
                                  · go_simp
                                    rfl
                                  refine hK.out _ _ ?_
                                  clear hK K
                                  refine done_ (done_of HT_.out (by kernel_rfl)) ?_
                                  try go_wp2
                                  go_roundg kj25
                                  case measure => have := HJ4.out; have := HK2.out; have := HJ25.out; omega
                                  case rel => exact ⟨(y206), (wrap64 (x6_2 + 1)), (by first | rfl | (simp; done) | (simp [*]; done)), H', ⟨by have := HJ4.out; have := HK2.out; have := HJ25.out; omega⟩, ⟨by (with_reducible repeat (first | apply Kd.R_alloc | apply Kd.R_drewN | apply Kd.R_drew)); exact HQ39.out⟩, ⟨by (with_reducible repeat (first | refine blk_drewN ?_ _ | refine blk_drew ?_ | refine blk_alloc ?_ _)); refine blk_far ?_ (by have h_ := Kd.R_ne HO_5.out BK196.out (by decide); intro e_; exact h_ (by rw [e_]; rfl)) _; (with_reducible repeat (first | refine blk_drewN ?_ _ | refine blk_drew ?_ | refine blk_alloc ?_ _)); exact BK196.out⟩, ⟨by repeat (first | (with_reducible first | exact HB.out | apply below_alloc | apply pw_below_drewN | apply below_drew1 | refine below_set ?_ GB36.out | refine below_set ?_ GE196.out) | exact HB.out)⟩⟩
                                · rw [if_neg c35] at H
                                  exact absurd H (by simp)
                              · rw [if_neg c34] at H
                                exact absurd H (by simp)
                          · rw [if_neg c32] at H
                            exact absurd H (by simp)
                        · rw [if_neg c31] at H
                          exact absurd H (by simp)
                      · replace c30 := Bool.eq_false_iff.mpr c30
                        subst c30
                        have H1 : ((book_Decode.f kj25 l0_0 x5_2).bind fun bt207 => ((book_Encode.f kj25 l0_0 bt207.1).bind fun bt211 => ((book_Decode.f kj25 l0_0 bt211.1).bind fun bt215 => ((book_Loss.f kj25 l0_0 bt207.1).bind fun bt219 => (if bt207.2 = 0 then (if bt211.2 = 0 then (if bt215.2 = 0 then (if bt219.2 = 0 then (if bt219.1 = 0 then ((wayfinderkit_Same_int32.f kj25 bt207.1 bt215.1).bind fun t221 => (if t221 = true then ((book_Dim.f l0_0).bind fun t222 => (if (bt207.1.length : Int) = t222 then (wayfinderlaw15_BookAgain.j3 kj25 x5_2 bt207.1 bt211.1 ((bt211.1.length : Int) != (x5_2.length : Int)) l0_0) else (wayfinderlaw15_BookAgain.j3 kj25 x5_2 bt207.1 bt211.1 true l0_0))) else (wayfinderlaw15_BookAgain.j3 kj25 x5_2 bt207.1 bt211.1 true l0_0))) else (wayfinderlaw15_BookAgain.j3 kj25 x5_2 bt207.1 bt211.1 true l0_0)) else (wayfinderlaw15_BookAgain.j3 kj25 x5_2 bt207.1 bt211.1 true l0_0)) else (wayfinderlaw15_BookAgain.j3 kj25 x5_2 bt207.1 bt211.1 true l0_0)) else (wayfinderlaw15_BookAgain.j3 kj25 x5_2 bt207.1 bt211.1 true l0_0)) else (wayfinderlaw15_BookAgain.j3 kj25 x5_2 bt207.1 bt211.1 true l0_0)))))) = some r := by rw [if_neg (show ¬ (false = true) by decide)] at H; exact H
                        clear H
                        have H := H1
                        clear H1
                        replace H := Option.bind_eq_some_iff.mp H
                        obtain ⟨⟨t207, t210⟩, A400, H⟩ := H
                        replace H : ((book_Encode.f kj25 l0_0 t207).bind fun bt211 => ((book_Decode.f kj25 l0_0 bt211.1).bind fun bt215 => ((book_Loss.f kj25 l0_0 t207).bind fun bt219 => (if t210 = 0 then (if bt211.2 = 0 then (if bt215.2 = 0 then (if bt219.2 = 0 then (if bt219.1 = 0 then ((wayfinderkit_Same_int32.f kj25 t207 bt215.1).bind fun t221 => (if t221 = true then ((book_Dim.f l0_0).bind fun t222 => (if (t207.length : Int) = t222 then (wayfinderlaw15_BookAgain.j3 kj25 x5_2 t207 bt211.1 ((bt211.1.length : Int) != (x5_2.length : Int)) l0_0) else (wayfinderlaw15_BookAgain.j3 kj25 x5_2 t207 bt211.1 true l0_0))) else (wayfinderlaw15_BookAgain.j3 kj25 x5_2 t207 bt211.1 true l0_0))) else (wayfinderlaw15_BookAgain.j3 kj25 x5_2 t207 bt211.1 true l0_0)) else (wayfinderlaw15_BookAgain.j3 kj25 x5_2 t207 bt211.1 true l0_0)) else (wayfinderlaw15_BookAgain.j3 kj25 x5_2 t207 bt211.1 true l0_0)) else (wayfinderlaw15_BookAgain.j3 kj25 x5_2 t207 bt211.1 true l0_0)) else (wayfinderlaw15_BookAgain.j3 kj25 x5_2 t207 bt211.1 true l0_0))))) = some r := H
                        have A40 := Aside0.mk A400
                        clear A400
                        replace H := Option.bind_eq_some_iff.mp H
                        obtain ⟨⟨t211, t214⟩, A410, H⟩ := H
                        replace H : ((book_Decode.f kj25 l0_0 t211).bind fun bt215 => ((book_Loss.f kj25 l0_0 t207).bind fun bt219 => (if t210 = 0 then (if t214 = 0 then (if bt215.2 = 0 then (if bt219.2 = 0 then (if bt219.1 = 0 then ((wayfinderkit_Same_int32.f kj25 t207 bt215.1).bind fun t221 => (if t221 = true then ((book_Dim.f l0_0).bind fun t222 => (if (t207.length : Int) = t222 then (wayfinderlaw15_BookAgain.j3 kj25 x5_2 t207 t211 ((t211.length : Int) != (x5_2.length : Int)) l0_0) else (wayfinderlaw15_BookAgain.j3 kj25 x5_2 t207 t211 true l0_0))) else (wayfinderlaw15_BookAgain.j3 kj25 x5_2 t207 t211 true l0_0))) else (wayfinderlaw15_BookAgain.j3 kj25 x5_2 t207 t211 true l0_0)) else (wayfinderlaw15_BookAgain.j3 kj25 x5_2 t207 t211 true l0_0)) else (wayfinderlaw15_BookAgain.j3 kj25 x5_2 t207 t211 true l0_0)) else (wayfinderlaw15_BookAgain.j3 kj25 x5_2 t207 t211 true l0_0)) else (wayfinderlaw15_BookAgain.j3 kj25 x5_2 t207 t211 true l0_0)))) = some r := H
                        have A41 := Aside0.mk A410
                        clear A410
                        replace H := Option.bind_eq_some_iff.mp H
                        obtain ⟨⟨t215, t218⟩, A420, H⟩ := H
                        replace H : ((book_Loss.f kj25 l0_0 t207).bind fun bt219 => (if t210 = 0 then (if t214 = 0 then (if t218 = 0 then (if bt219.2 = 0 then (if bt219.1 = 0 then ((wayfinderkit_Same_int32.f kj25 t207 t215).bind fun t221 => (if t221 = true then ((book_Dim.f l0_0).bind fun t222 => (if (t207.length : Int) = t222 then (wayfinderlaw15_BookAgain.j3 kj25 x5_2 t207 t211 ((t211.length : Int) != (x5_2.length : Int)) l0_0) else (wayfinderlaw15_BookAgain.j3 kj25 x5_2 t207 t211 true l0_0))) else (wayfinderlaw15_BookAgain.j3 kj25 x5_2 t207 t211 true l0_0))) else (wayfinderlaw15_BookAgain.j3 kj25 x5_2 t207 t211 true l0_0)) else (wayfinderlaw15_BookAgain.j3 kj25 x5_2 t207 t211 true l0_0)) else (wayfinderlaw15_BookAgain.j3 kj25 x5_2 t207 t211 true l0_0)) else (wayfinderlaw15_BookAgain.j3 kj25 x5_2 t207 t211 true l0_0)) else (wayfinderlaw15_BookAgain.j3 kj25 x5_2 t207 t211 true l0_0))) = some r := H
                        have A42 := Aside0.mk A420
                        clear A420
                        replace H := Option.bind_eq_some_iff.mp H
                        obtain ⟨⟨t219, t220⟩, A430, H⟩ := H
                        replace H : (if t210 = 0 then (if t214 = 0 then (if t218 = 0 then (if t220 = 0 then (if t219 = 0 then ((wayfinderkit_Same_int32.f kj25 t207 t215).bind fun t221 => (if t221 = true then ((book_Dim.f l0_0).bind fun t222 => (if (t207.length : Int) = t222 then (wayfinderlaw15_BookAgain.j3 kj25 x5_2 t207 t211 ((t211.length : Int) != (x5_2.length : Int)) l0_0) else (wayfinderlaw15_BookAgain.j3 kj25 x5_2 t207 t211 true l0_0))) else (wayfinderlaw15_BookAgain.j3 kj25 x5_2 t207 t211 true l0_0))) else (wayfinderlaw15_BookAgain.j3 kj25 x5_2 t207 t211 true l0_0)) else (wayfinderlaw15_BookAgain.j3 kj25 x5_2 t207 t211 true l0_0)) else (wayfinderlaw15_BookAgain.j3 kj25 x5_2 t207 t211 true l0_0)) else (wayfinderlaw15_BookAgain.j3 kj25 x5_2 t207 t211 true l0_0)) else (wayfinderlaw15_BookAgain.j3 kj25 x5_2 t207 t211 true l0_0)) = some r := H
                        have A43 := Aside0.mk A430
                        clear A430
                        have HC44 := Aside0.mk H
                        clear H
                        have hcz45_0 : wc.cell? ⟨gb196, 0, none⟩ = some (.slice A0_0 l0_0.length c0_0) := (blk_cell BK196.out 0).trans rfl
                        have hfz45_0 := blk_frozen BK196.out 0
                        obtain ⟨Ao46, co46, eo46⟩ := Kd.R_slice HO_5.out
                        subst eo46
                        go_upto_region 16 with (first | ((with_reducible refine gate_callee (f := 37) rfl ?_); refine goesL_ (some 76) rfl rfl Try.func37 (by kernel_rfl) rfl #[.agg #[.slice A0_0 l0_0.length c0_0], .slice Ao46 x5_2.length co46] rfl (by (try simp only [List.map_toArray, List.map_cons, List.map_nil]); first | done | rfl | (simp only [List.length_drop, List.length_take]; rfl)) ?_; (with_reducible refine (book_Decode.calls kj25 _ _ l0_0 _ _ x5_2 t207 t210 _ ?side1 ?side2 ?side3 ?side4 A40.out).mono ?_); (case side1 => repeat (first | exact (Kd.C_below HR0_0.out HB.out) | (with_reducible refine Kd.C_alloc ?_ _) | (with_reducible refine Kd.C_drewN ?_ _) | (with_reducible refine Kd.C_drew ?_))); (case side2 => exact HC0_0.out); (case side3 => repeat (first | exact (Kd.R_reads' HO_5.out).2.2 | (with_reducible refine Kd.C_alloc ?_ _) | (with_reducible refine Kd.C_drewN ?_ _) | (with_reducible refine Kd.C_drew ?_))); (case side4 => exact (Kd.R_reads' HO_5.out).2.1); rintro e w47 ⟨v208, rfl, ho0, hb⟩; refine ⟨_, rfl, ?_⟩; have n0_ := Aside0.mk (Kd.R_below (by (with_reducible repeat (first | apply Kd.R_alloc | apply Kd.R_drewN | apply Kd.R_drew)); exact HO_5.out) hb); have n1_ := Aside0.mk (Kd.R_lower ho0 (below_size (by repeat (first | (with_reducible first | exact HB.out | apply below_alloc | apply pw_below_drewN | apply below_drew1 | refine below_set ?_ GE196.out) | exact HB.out)))); have n2_ := Aside0.mk (blk_below (g := gb196) (o := .cells #[.slice A0_0 l0_0.length c0_0] 50 (0, 0)) (by (with_reducible repeat (first | refine blk_drewN ?_ _ | refine blk_drew ?_ | refine blk_alloc ?_ _)); exact BK196.out) hb); have n3_ := Aside0.mk (below_step (by repeat (first | (with_reducible first | exact HB.out | apply below_alloc | apply pw_below_drewN | apply below_drew1 | refine below_set ?_ GE196.out) | exact HB.out)) hb); clear HO_5; clear BK196; clear HB; have HO_5 := n0_; have HO209 := n1_; have BK196 := n2_; have HB := n3_; clear n0_ n1_ n2_ n3_; (try clear hb); (try clear hb2); (try clear hk); (try clear hi); (try clear ho0); have hcz48_0 : w47.cell? ⟨gb196, 0, none⟩ = some (.slice A0_0 l0_0.length c0_0) := (blk_cell BK196.out 0).trans rfl; have hfz48_0 := blk_frozen BK196.out 0; obtain ⟨Ao49, co49, eo49⟩ := Kd.R_slice HO209.out; subst eo49) | ((with_reducible refine gate_callee (f := 35) rfl ?_); refine goesL_ (some 82) rfl rfl Try.func35 (by kernel_rfl) rfl #[.agg #[.slice A0_0 l0_0.length c0_0], .slice Ao49 t207.length co49] rfl (by (try simp only [List.map_toArray, List.map_cons, List.map_nil]); first | done | rfl | (simp only [List.length_drop, List.length_take]; rfl)) ?_; (with_reducible refine (book_Encode.calls kj25 _ _ l0_0 _ _ t207 t211 t214 _ ?side1 ?side2 ?side3 ?side4 A41.out).mono ?_); (case side1 => repeat (first | exact (Kd.C_below HR0_0.out HB.out) | (with_reducible refine Kd.C_alloc ?_ _) | (with_reducible refine Kd.C_drewN ?_ _) | (with_reducible refine Kd.C_drew ?_))); (case side2 => exact HC0_0.out); (case side3 => repeat (first | exact (Kd.R_reads' HO209.out).2.2 | (with_reducible refine Kd.C_alloc ?_ _) | (with_reducible refine Kd.C_drewN ?_ _) | (with_reducible refine Kd.C_drew ?_))); (case side4 => exact (Kd.R_reads' HO209.out).2.1); rintro e w50 ⟨v212, rfl, ho0, hb⟩; refine ⟨_, rfl, ?_⟩; have n0_ := Aside0.mk (Kd.R_elder' (by (with_reducible repeat (first | apply Kd.R_alloc | apply Kd.R_drewN | apply Kd.R_drew)); exact HO_5.out) (Kd.R_base ho0) hb); have n1_ := Aside0.mk (Kd.R_below (by (with_reducible repeat (first | apply Kd.R_alloc | apply Kd.R_drewN | apply Kd.R_drew)); exact HO209.out) hb); have n2_ := Aside0.mk (Kd.R_lower (Kd.R_new' ho0 (Kd.R_lt (by (with_reducible repeat (first | apply Kd.R_alloc | apply Kd.R_drewN | apply Kd.R_drew)); exact HO_5.out))) (below_size (by repeat (first | (with_reducible first | exact HB.out | apply below_alloc | apply pw_below_drewN | apply below_drew1 | refine below_set ?_ GE196.out) | exact HB.out)))); have n3_ := Aside0.mk (blk_below (g := gb196) (o := .cells #[.slice A0_0 l0_0.length c0_0] 50 (0, 0)) (by (with_reducible repeat (first | refine blk_drewN ?_ _ | refine blk_drew ?_ | refine blk_alloc ?_ _)); exact BK196.out) hb); have n4_ := Aside0.mk (below_step (by repeat (first | (with_reducible first | exact HB.out | apply below_alloc | apply pw_below_drewN | apply below_drew1 | refine below_set ?_ GE196.out) | exact HB.out)) hb); clear HO_5; clear HO209; clear BK196; clear HB; have HO_5 := n0_; have HO209 := n1_; have HO213 := n2_; have BK196 := n3_; have HB := n4_; clear n0_ n1_ n2_ n3_ n4_; (try clear hb); (try clear hb2); (try clear hk); (try clear hi); (try clear ho0); have hcz51_0 : w50.cell? ⟨gb196, 0, none⟩ = some (.slice A0_0 l0_0.length c0_0) := (blk_cell BK196.out 0).trans rfl; have hfz51_0 := blk_frozen BK196.out 0; obtain ⟨Ao52, co52, eo52⟩ := Kd.R_slice HO213.out; subst eo52) | ((with_reducible refine gate_callee (f := 37) rfl ?_); refine goesL_ (some 88) rfl rfl Try.func37 (by kernel_rfl) rfl #[.agg #[.slice A0_0 l0_0.length c0_0], .slice Ao52 t211.length co52] rfl (by (try simp only [List.map_toArray, List.map_cons, List.map_nil]); first | done | rfl | (simp only [List.length_drop, List.length_take]; rfl)) ?_; (with_reducible refine (book_Decode.calls kj25 _ _ l0_0 _ _ t211 t215 t218 _ ?side1 ?side2 ?side3 ?side4 A42.out).mono ?_); (case side1 => repeat (first | exact (Kd.C_below HR0_0.out HB.out) | (with_reducible refine Kd.C_alloc ?_ _) | (with_reducible refine Kd.C_drewN ?_ _) | (with_reducible refine Kd.C_drew ?_))); (case side2 => exact HC0_0.out); (case side3 => repeat (first | exact (Kd.R_reads' HO213.out).2.2 | (with_reducible refine Kd.C_alloc ?_ _) | (with_reducible refine Kd.C_drewN ?_ _) | (with_reducible refine Kd.C_drew ?_))); (case side4 => exact (Kd.R_reads' HO213.out).2.1); rintro e w53 ⟨v216, rfl, ho0, hb⟩; refine ⟨_, rfl, ?_⟩; have n0_ := Aside0.mk (Kd.R_below (by (with_reducible repeat (first | apply Kd.R_alloc | apply Kd.R_drewN | apply Kd.R_drew)); exact HO_5.out) hb); have n1_ := Aside0.mk (Kd.R_elder' (by (with_reducible repeat (first | apply Kd.R_alloc | apply Kd.R_drewN | apply Kd.R_drew)); exact HO209.out) (Kd.R_base ho0) hb); have n2_ := Aside0.mk (Kd.R_below (by (with_reducible repeat (first | apply Kd.R_alloc | apply Kd.R_drewN | apply Kd.R_drew)); exact HO213.out) hb); have n3_ := Aside0.mk (Kd.R_lower (Kd.R_new' ho0 (Kd.R_lt (by (with_reducible repeat (first | apply Kd.R_alloc | apply Kd.R_drewN | apply Kd.R_drew)); exact HO209.out))) (below_size (by repeat (first | (with_reducible first | exact HB.out | apply below_alloc | apply pw_below_drewN | apply below_drew1 | refine below_set ?_ GE196.out) | exact HB.out)))); have n4_ := Aside0.mk (blk_below (g := gb196) (o := .cells #[.slice A0_0 l0_0.length c0_0] 50 (0, 0)) (by (with_reducible repeat (first | refine blk_drewN ?_ _ | refine blk_drew ?_ | refine blk_alloc ?_ _)); exact BK196.out) hb); have n5_ := Aside0.mk (below_step (by repeat (first | (with_reducible first | exact HB.out | apply below_alloc | apply pw_below_drewN | apply below_drew1 | refine below_set ?_ GE196.out) | exact HB.out)) hb); clear HO_5; clear HO209; clear HO213; clear BK196; clear HB; have HO_5 := n0_; have HO209 := n1_; have HO213 := n2_; have HO217 := n3_; have BK196 := n4_; have HB := n5_; clear n0_ n1_ n2_ n3_ n4_ n5_; (try clear hb); (try clear hb2); (try clear hk); (try clear hi); (try clear ho0); have hcz54_0 : w53.cell? ⟨gb196, 0, none⟩ = some (.slice A0_0 l0_0.length c0_0) := (blk_cell BK196.out 0).trans rfl; have hfz54_0 := blk_frozen BK196.out 0) | ((with_reducible refine gate_callee (f := 36) rfl ?_); refine goesL_ (some 94) rfl rfl Try.func36 (by kernel_rfl) rfl #[.agg #[.slice A0_0 l0_0.length c0_0], .slice Ao49 t207.length co49] rfl (by (try simp only [List.map_toArray, List.map_cons, List.map_nil]); first | done | rfl | (simp only [List.length_drop, List.length_take]; rfl)) ?_; (with_reducible refine (book_Loss.calls kj25 _ _ l0_0 _ _ t207 t219 t220 _ ?side1 ?side2 ?side3 ?side4 A43.out).mono ?_); (case side1 => repeat (first | exact (Kd.C_below HR0_0.out HB.out) | (with_reducible refine Kd.C_alloc ?_ _) | (with_reducible refine Kd.C_drewN ?_ _) | (with_reducible refine Kd.C_drew ?_))); (case side2 => exact HC0_0.out); (case side3 => repeat (first | exact (Kd.R_reads' HO209.out).2.2 | (with_reducible refine Kd.C_alloc ?_ _) | (with_reducible refine Kd.C_drewN ?_ _) | (with_reducible refine Kd.C_drew ?_))); (case side4 => exact (Kd.R_reads' HO209.out).2.1); rintro e w55 ⟨rfl, hb⟩; refine ⟨_, rfl, ?_⟩; have n0_ := Aside0.mk (Kd.R_below (by (with_reducible repeat (first | apply Kd.R_alloc | apply Kd.R_drewN | apply Kd.R_drew)); exact HO_5.out) hb); have n1_ := Aside0.mk (Kd.R_below (by (with_reducible repeat (first | apply Kd.R_alloc | apply Kd.R_drewN | apply Kd.R_drew)); exact HO209.out) hb); have n2_ := Aside0.mk (Kd.R_below (by (with_reducible repeat (first | apply Kd.R_alloc | apply Kd.R_drewN | apply Kd.R_drew)); exact HO213.out) hb); have n3_ := Aside0.mk (Kd.R_below (by (with_reducible repeat (first | apply Kd.R_alloc | apply Kd.R_drewN | apply Kd.R_drew)); exact HO217.out) hb); have n4_ := Aside0.mk (blk_below (g := gb196) (o := .cells #[.slice A0_0 l0_0.length c0_0] 50 (0, 0)) (by (with_reducible repeat (first | refine blk_drewN ?_ _ | refine blk_drew ?_ | refine blk_alloc ?_ _)); exact BK196.out) hb); have n5_ := Aside0.mk (below_step (by repeat (first | (with_reducible first | exact HB.out | apply below_alloc | apply pw_below_drewN | apply below_drew1 | refine below_set ?_ GE196.out) | exact HB.out)) hb); clear HO_5; clear HO209; clear HO213; clear HO217; clear BK196; clear HB; have HO_5 := n0_; have HO209 := n1_; have HO213 := n2_; have HO217 := n3_; have BK196 := n4_; have HB := n5_; clear n0_ n1_ n2_ n3_ n4_ n5_; (try clear hb); (try clear hb2); (try clear hk); (try clear hi)))
                        (try simp only [Act.put, List.setIfInBounds_toArray, List.set_cons_zero, List.set_cons_succ])
                        go_cut [134] (fun v134 wc => ∃ (kq : Nat) (x134_43 : Bool), v134 = .bool x134_43 ∧ Aside0 (wayfinderlaw15_BookAgain.j3 kq x5_2 t207 t211 x134_43 l0_0 = some r) ∧ Aside0 (kq ≤ kj25) ∧ Aside0 (Kd.R (Kd.int .u8) 5 wc w.heap.size (fun k_ => some k_ ≠ ((.slice Ao52 t211.length co52) : Value).ownBlock) (.slice Ao46 x5_2.length co46) x5_2) ∧ Aside0 (Kd.R (Kd.int .i32) 21 wc w.heap.size (fun _ => True) (.slice Ao49 t207.length co49) t207) ∧ Aside0 (Kd.R (Kd.int .u8) 5 wc w.heap.size (fun k_ => some k_ ≠ ((.slice Ao46 x5_2.length co46) : Value).ownBlock) (.slice Ao52 t211.length co52) t211) ∧ Aside0 (wc.heap[gb196]? = some (.cells #[(.slice A0_0 l0_0.length c0_0)] 50 (0, 0))) ∧ Aside0 (Below w.heap.size w wc))
                        case first =>
                          have H := HC44.out
                          clear HC44
                          by_cases c56 : t210 = 0
                          · rw [if_pos c56] at H
                            have c56b0 : (t210 == 0) = true := beq_iff_eq.mpr c56
                            have c56b1 : (t210 != 0) = false := bne_eq_false_iff_eq.mpr c56
                            clear c56
                            (first | rw [c56b0] | (simp only [i64_w, i32_w]; rw [c56b0]) | skip)
                            by_cases c57 : t214 = 0
                            · rw [if_pos c57] at H
                              have c57b0 : (t214 == 0) = true := beq_iff_eq.mpr c57
                              have c57b1 : (t214 != 0) = false := bne_eq_false_iff_eq.mpr c57
                              clear c57
                              by_cases c58 : t218 = 0
                              · rw [if_pos c58] at H
                                have c58b0 : (t218 == 0) = true := beq_iff_eq.mpr c58
                                have c58b1 : (t218 != 0) = false := bne_eq_false_iff_eq.mpr c58
                                clear c58
                                by_cases c59 : t220 = 0
                                · rw [if_pos c59] at H
                                  have c59b0 : (t220 == 0) = true := beq_iff_eq.mpr c59
                                  have c59b1 : (t220 != 0) = false := bne_eq_false_iff_eq.mpr c59
                                  clear c59
                                  by_cases c60 : t219 = 0
                                  · rw [if_pos c60] at H
                                    have c60b0 : (t219 == 0) = true := beq_iff_eq.mpr c60
                                    have c60b1 : (t219 != 0) = false := bne_eq_false_iff_eq.mpr c60
                                    clear c60
                                    replace H := Option.bind_eq_some_iff.mp H
                                    obtain ⟨t221, A610, H⟩ := H
                                    replace H : (if t221 = true then ((book_Dim.f l0_0).bind fun t222 => (if (t207.length : Int) = t222 then (wayfinderlaw15_BookAgain.j3 kj25 x5_2 t207 t211 ((t211.length : Int) != (x5_2.length : Int)) l0_0) else (wayfinderlaw15_BookAgain.j3 kj25 x5_2 t207 t211 true l0_0))) else (wayfinderlaw15_BookAgain.j3 kj25 x5_2 t207 t211 true l0_0)) = some r := H
                                    have A61 := Aside0.mk A610
                                    clear A610
                                    by_cases c62 : t221 = true
                                    · subst c62
                                      have H1 : ((book_Dim.f l0_0).bind fun t222 => (if (t207.length : Int) = t222 then (wayfinderlaw15_BookAgain.j3 kj25 x5_2 t207 t211 ((t211.length : Int) != (x5_2.length : Int)) l0_0) else (wayfinderlaw15_BookAgain.j3 kj25 x5_2 t207 t211 true l0_0))) = some r := by rw [if_pos rfl] at H; exact H
                                      clear H
                                      have H := H1
                                      clear H1
                                      replace H := Option.bind_eq_some_iff.mp H
                                      obtain ⟨t222, A630, H⟩ := H
                                      replace H : (if (t207.length : Int) = t222 then (wayfinderlaw15_BookAgain.j3 kj25 x5_2 t207 t211 ((t211.length : Int) != (x5_2.length : Int)) l0_0) else (wayfinderlaw15_BookAgain.j3 kj25 x5_2 t207 t211 true l0_0)) = some r := H
                                      have A63 := Aside0.mk A630
                                      clear A630
                                      by_cases c64 : (t207.length : Int) = t222
                                      · rw [if_pos c64] at H
                                        have c64b0 : ((t207.length : Int) == t222) = true := beq_iff_eq.mpr c64
                                        have c64b1 : ((t207.length : Int) != t222) = false := bne_eq_false_iff_eq.mpr c64
                                        clear c64
                                        have H' := Aside0.mk H
                                        clear H
                                        obtain ⟨Ao65, co65, eo65⟩ := Kd.R_slice HO217.out
                                        subst eo65
                                        go_wp2_with (first | (go_at_call 15; (with_reducible refine (wayfinderkit_Same_int32.calls kj25 _ _ t207 _ _ t215 true _ ?side1 ?side2 ?side3 ?side4 A61.out).mono ?_); (case side1 => repeat (first | exact (Kd.R_reads' HO209.out).2.2 | (with_reducible refine Kd.C_alloc ?_ _) | (with_reducible refine Kd.C_drewN ?_ _) | (with_reducible refine Kd.C_drew ?_))); (case side2 => exact (Kd.R_reads' HO209.out).2.1); (case side3 => repeat (first | exact (Kd.R_reads' HO217.out).2.2 | (with_reducible refine Kd.C_alloc ?_ _) | (with_reducible refine Kd.C_drewN ?_ _) | (with_reducible refine Kd.C_drew ?_))); (case side4 => exact (Kd.R_reads' HO217.out).2.1); rintro e w' ⟨rfl, ⟨nd, rfl⟩⟩; have hcz66_0 : w55.cell? ⟨gb196, 0, none⟩ = some (.slice A0_0 l0_0.length c0_0) := (blk_cell BK196.out 0).trans rfl; have hfz66_0 := blk_frozen BK196.out 0) | (go_at_call 38; (with_reducible refine (book_Dim.calls _ _ l0_0 t222 _ ?side1 ?side2 A63.out).mono ?_); (case side1 => repeat (first | exact (Kd.C_below HR0_0.out (by repeat (first | (with_reducible first | exact HB.out | apply below_alloc | apply pw_below_drewN | apply below_drew1 | refine below_set ?_ GE196.out) | exact HB.out))) | (with_reducible refine Kd.C_alloc ?_ _) | (with_reducible refine Kd.C_drewN ?_ _) | (with_reducible refine Kd.C_drew ?_))); (case side2 => exact HC0_0.out); rintro e w67 ⟨rfl, hb⟩; have n0_ := Aside0.mk (Kd.R_below (by (with_reducible repeat (first | apply Kd.R_alloc | apply Kd.R_drewN | apply Kd.R_drew)); exact HO_5.out) hb); have n1_ := Aside0.mk (Kd.R_below (by (with_reducible repeat (first | apply Kd.R_alloc | apply Kd.R_drewN | apply Kd.R_drew)); exact HO209.out) hb); have n2_ := Aside0.mk (Kd.R_below (by (with_reducible repeat (first | apply Kd.R_alloc | apply Kd.R_drewN | apply Kd.R_drew)); exact HO213.out) hb); have n3_ := Aside0.mk (Kd.R_below (by (with_reducible repeat (first | apply Kd.R_alloc | apply Kd.R_drewN | apply Kd.R_drew)); exact HO217.out) hb); have n4_ := Aside0.mk (blk_below (g := gb196) (o := .cells #[.slice A0_0 l0_0.length c0_0] 50 (0, 0)) (by (with_reducible repeat (first | refine blk_drewN ?_ _ | refine blk_drew ?_ | refine blk_alloc ?_ _)); exact BK196.out) hb); have n5_ := Aside0.mk (below_step (by repeat (first | (with_reducible first | exact HB.out | apply below_alloc | apply pw_below_drewN | apply below_drew1 | refine below_set ?_ GE196.out) | exact HB.out)) hb); clear HO_5; clear HO209; clear HO213; clear HO217; clear BK196; clear HB; have HO_5 := n0_; have HO209 := n1_; have HO213 := n2_; have HO217 := n3_; have BK196 := n4_; have HB := n5_; clear n0_ n1_ n2_ n3_ n4_ n5_; (try clear hb); (try clear hb2); (try clear hk); (try clear hi)))
                                        go_meet
                                        case rel => exact ⟨_, (((t211.length : Int) != (x5_2.length : Int))), (by first | rfl | (simp; done) | (simp [*]; done)), H', ⟨by have := HJ4.out; have := HK2.out; have := HJ25.out; first | omega | exact Nat.le_refl _⟩, ⟨by (with_reducible repeat (first | apply Kd.R_alloc | apply Kd.R_drewN | apply Kd.R_drew)); exact Kd.R_mono HO_5.out (fun _ hk => hk.2)⟩, ⟨by (with_reducible repeat (first | apply Kd.R_alloc | apply Kd.R_drewN | apply Kd.R_drew)); exact Kd.R_mono HO209.out (fun _ hk => trivial)⟩, ⟨by (with_reducible repeat (first | apply Kd.R_alloc | apply Kd.R_drewN | apply Kd.R_drew)); exact Kd.R_mono HO213.out (fun _ hk => hk.2)⟩, ⟨by (with_reducible repeat (first | refine blk_drewN ?_ _ | refine blk_drew ?_ | refine blk_alloc ?_ _)); exact BK196.out⟩, ⟨by repeat (first | (with_reducible first | exact HB.out | apply below_alloc | apply pw_below_drewN | apply below_drew1 | refine below_set ?_ GE196.out) | exact HB.out)⟩⟩
                                      · rw [if_neg c64] at H
                                        have c64b0 : ((t207.length : Int) == t222) = false := beq_eq_false_iff_ne.mpr c64
                                        have c64b1 : ((t207.length : Int) != t222) = true := bne_iff_ne.mpr c64
                                        have H' := Aside0.mk H
                                        clear H
                                        obtain ⟨Ao68, co68, eo68⟩ := Kd.R_slice HO217.out
                                        subst eo68
                                        go_wp2_with (first | (go_at_call 15; (with_reducible refine (wayfinderkit_Same_int32.calls kj25 _ _ t207 _ _ t215 true _ ?side1 ?side2 ?side3 ?side4 A61.out).mono ?_); (case side1 => repeat (first | exact (Kd.R_reads' HO209.out).2.2 | (with_reducible refine Kd.C_alloc ?_ _) | (with_reducible refine Kd.C_drewN ?_ _) | (with_reducible refine Kd.C_drew ?_))); (case side2 => exact (Kd.R_reads' HO209.out).2.1); (case side3 => repeat (first | exact (Kd.R_reads' HO217.out).2.2 | (with_reducible refine Kd.C_alloc ?_ _) | (with_reducible refine Kd.C_drewN ?_ _) | (with_reducible refine Kd.C_drew ?_))); (case side4 => exact (Kd.R_reads' HO217.out).2.1); rintro e w' ⟨rfl, ⟨nd, rfl⟩⟩; have hcz69_0 : w55.cell? ⟨gb196, 0, none⟩ = some (.slice A0_0 l0_0.length c0_0) := (blk_cell BK196.out 0).trans rfl; have hfz69_0 := blk_frozen BK196.out 0) | (go_at_call 38; (with_reducible refine (book_Dim.calls _ _ l0_0 t222 _ ?side1 ?side2 A63.out).mono ?_); (case side1 => repeat (first | exact (Kd.C_below HR0_0.out (by repeat (first | (with_reducible first | exact HB.out | apply below_alloc | apply pw_below_drewN | apply below_drew1 | refine below_set ?_ GE196.out) | exact HB.out))) | (with_reducible refine Kd.C_alloc ?_ _) | (with_reducible refine Kd.C_drewN ?_ _) | (with_reducible refine Kd.C_drew ?_))); (case side2 => exact HC0_0.out); rintro e w70 ⟨rfl, hb⟩; have n0_ := Aside0.mk (Kd.R_below (by (with_reducible repeat (first | apply Kd.R_alloc | apply Kd.R_drewN | apply Kd.R_drew)); exact HO_5.out) hb); have n1_ := Aside0.mk (Kd.R_below (by (with_reducible repeat (first | apply Kd.R_alloc | apply Kd.R_drewN | apply Kd.R_drew)); exact HO209.out) hb); have n2_ := Aside0.mk (Kd.R_below (by (with_reducible repeat (first | apply Kd.R_alloc | apply Kd.R_drewN | apply Kd.R_drew)); exact HO213.out) hb); have n3_ := Aside0.mk (Kd.R_below (by (with_reducible repeat (first | apply Kd.R_alloc | apply Kd.R_drewN | apply Kd.R_drew)); exact HO217.out) hb); have n4_ := Aside0.mk (blk_below (g := gb196) (o := .cells #[.slice A0_0 l0_0.length c0_0] 50 (0, 0)) (by (with_reducible repeat (first | refine blk_drewN ?_ _ | refine blk_drew ?_ | refine blk_alloc ?_ _)); exact BK196.out) hb); have n5_ := Aside0.mk (below_step (by repeat (first | (with_reducible first | exact HB.out | apply below_alloc | apply pw_below_drewN | apply below_drew1 | refine below_set ?_ GE196.out) | exact HB.out)) hb); clear HO_5; clear HO209; clear HO213; clear HO217; clear BK196; clear HB; have HO_5 := n0_; have HO209 := n1_; have HO213 := n2_; have HO217 := n3_; have BK196 := n4_; have HB := n5_; clear n0_ n1_ n2_ n3_ n4_ n5_; (try clear hb); (try clear hb2); (try clear hk); (try clear hi)))
                                        go_meet
                                        case rel => exact ⟨_, (true), (by first | rfl | (simp; done) | (simp [*]; done)), H', ⟨by have := HJ4.out; have := HK2.out; have := HJ25.out; first | omega | exact Nat.le_refl _⟩, ⟨by (with_reducible repeat (first | apply Kd.R_alloc | apply Kd.R_drewN | apply Kd.R_drew)); exact Kd.R_mono HO_5.out (fun _ hk => hk.2)⟩, ⟨by (with_reducible repeat (first | apply Kd.R_alloc | apply Kd.R_drewN | apply Kd.R_drew)); exact Kd.R_mono HO209.out (fun _ hk => trivial)⟩, ⟨by (with_reducible repeat (first | apply Kd.R_alloc | apply Kd.R_drewN | apply Kd.R_drew)); exact Kd.R_mono HO213.out (fun _ hk => hk.2)⟩, ⟨by (with_reducible repeat (first | refine blk_drewN ?_ _ | refine blk_drew ?_ | refine blk_alloc ?_ _)); exact BK196.out⟩, ⟨by repeat (first | (with_reducible first | exact HB.out | apply below_alloc | apply pw_below_drewN | apply below_drew1 | refine below_set ?_ GE196.out) | exact HB.out)⟩⟩
                                    · replace c62 := Bool.eq_false_iff.mpr c62
                                      subst c62
                                      have H1 : (wayfinderlaw15_BookAgain.j3 kj25 x5_2 t207 t211 true l0_0) = some r := by rw [if_neg (show ¬ (false = true) by decide)] at H; exact H
                                      clear H
                                      have H := H1
                                      clear H1
                                      have H' := Aside0.mk H
                                      clear H
                                      obtain ⟨Ao71, co71, eo71⟩ := Kd.R_slice HO217.out
                                      subst eo71
                                      go_wp2_with (first | (go_at_call 15; (with_reducible refine (wayfinderkit_Same_int32.calls kj25 _ _ t207 _ _ t215 false _ ?side1 ?side2 ?side3 ?side4 A61.out).mono ?_); (case side1 => repeat (first | exact (Kd.R_reads' HO209.out).2.2 | (with_reducible refine Kd.C_alloc ?_ _) | (with_reducible refine Kd.C_drewN ?_ _) | (with_reducible refine Kd.C_drew ?_))); (case side2 => exact (Kd.R_reads' HO209.out).2.1); (case side3 => repeat (first | exact (Kd.R_reads' HO217.out).2.2 | (with_reducible refine Kd.C_alloc ?_ _) | (with_reducible refine Kd.C_drewN ?_ _) | (with_reducible refine Kd.C_drew ?_))); (case side4 => exact (Kd.R_reads' HO217.out).2.1); rintro e w' ⟨rfl, ⟨nd, rfl⟩⟩))
                                      go_meet
                                      case rel => exact ⟨_, (true), (by first | rfl | (simp; done) | (simp [*]; done)), H', ⟨by have := HJ4.out; have := HK2.out; have := HJ25.out; first | omega | exact Nat.le_refl _⟩, ⟨by (with_reducible repeat (first | apply Kd.R_alloc | apply Kd.R_drewN | apply Kd.R_drew)); exact Kd.R_mono HO_5.out (fun _ hk => hk.2)⟩, ⟨by (with_reducible repeat (first | apply Kd.R_alloc | apply Kd.R_drewN | apply Kd.R_drew)); exact Kd.R_mono HO209.out (fun _ hk => trivial)⟩, ⟨by (with_reducible repeat (first | apply Kd.R_alloc | apply Kd.R_drewN | apply Kd.R_drew)); exact Kd.R_mono HO213.out (fun _ hk => hk.2)⟩, ⟨by (with_reducible repeat (first | refine blk_drewN ?_ _ | refine blk_drew ?_ | refine blk_alloc ?_ _)); exact BK196.out⟩, ⟨by repeat (first | (with_reducible first | exact HB.out | apply below_alloc | apply pw_below_drewN | apply below_drew1 | refine below_set ?_ GE196.out) | exact HB.out)⟩⟩
                                  · rw [if_neg c60] at H
                                    have c60b0 : (t219 == 0) = false := beq_eq_false_iff_ne.mpr c60
                                    have c60b1 : (t219 != 0) = true := bne_iff_ne.mpr c60
                                    have H' := Aside0.mk H
                                    clear H
                                    go_wp2
                                    go_meet
                                    case rel => exact ⟨_, (true), (by first | rfl | (simp; done) | (simp [*]; done)), H', ⟨by have := HJ4.out; have := HK2.out; have := HJ25.out; first | omega | exact Nat.le_refl _⟩, ⟨by (with_reducible repeat (first | apply Kd.R_alloc | apply Kd.R_drewN | apply Kd.R_drew)); exact Kd.R_mono HO_5.out (fun _ hk => hk.2)⟩, ⟨by (with_reducible repeat (first | apply Kd.R_alloc | apply Kd.R_drewN | apply Kd.R_drew)); exact Kd.R_mono HO209.out (fun _ hk => trivial)⟩, ⟨by (with_reducible repeat (first | apply Kd.R_alloc | apply Kd.R_drewN | apply Kd.R_drew)); exact Kd.R_mono HO213.out (fun _ hk => hk.2)⟩, ⟨by (with_reducible repeat (first | refine blk_drewN ?_ _ | refine blk_drew ?_ | refine blk_alloc ?_ _)); exact BK196.out⟩, ⟨by repeat (first | (with_reducible first | exact HB.out | apply below_alloc | apply pw_below_drewN | apply below_drew1 | refine below_set ?_ GE196.out) | exact HB.out)⟩⟩
                                · rw [if_neg c59] at H
                                  have c59b0 : (t220 == 0) = false := beq_eq_false_iff_ne.mpr c59
                                  have c59b1 : (t220 != 0) = true := bne_iff_ne.mpr c59
                                  have H' := Aside0.mk H
                                  clear H
                                  go_wp2
                                  go_meet
                                  case rel => exact ⟨_, (true), (by first | rfl | (simp; done) | (simp [*]; done)), H', ⟨by have := HJ4.out; have := HK2.out; have := HJ25.out; first | omega | exact Nat.le_refl _⟩, ⟨by (with_reducible repeat (first | apply Kd.R_alloc | apply Kd.R_drewN | apply Kd.R_drew)); exact Kd.R_mono HO_5.out (fun _ hk => hk.2)⟩, ⟨by (with_reducible repeat (first | apply Kd.R_alloc | apply Kd.R_drewN | apply Kd.R_drew)); exact Kd.R_mono HO209.out (fun _ hk => trivial)⟩, ⟨by (with_reducible repeat (first | apply Kd.R_alloc | apply Kd.R_drewN | apply Kd.R_drew)); exact Kd.R_mono HO213.out (fun _ hk => hk.2)⟩, ⟨by (with_reducible repeat (first | refine blk_drewN ?_ _ | refine blk_drew ?_ | refine blk_alloc ?_ _)); exact BK196.out⟩, ⟨by repeat (first | (with_reducible first | exact HB.out | apply below_alloc | apply pw_below_drewN | apply below_drew1 | refine below_set ?_ GE196.out) | exact HB.out)⟩⟩
                              · rw [if_neg c58] at H
                                have c58b0 : (t218 == 0) = false := beq_eq_false_iff_ne.mpr c58
                                have c58b1 : (t218 != 0) = true := bne_iff_ne.mpr c58
                                have H' := Aside0.mk H
                                clear H
                                go_wp2
                                go_meet
                                case rel => exact ⟨_, (true), (by first | rfl | (simp; done) | (simp [*]; done)), H', ⟨by have := HJ4.out; have := HK2.out; have := HJ25.out; first | omega | exact Nat.le_refl _⟩, ⟨by (with_reducible repeat (first | apply Kd.R_alloc | apply Kd.R_drewN | apply Kd.R_drew)); exact Kd.R_mono HO_5.out (fun _ hk => hk.2)⟩, ⟨by (with_reducible repeat (first | apply Kd.R_alloc | apply Kd.R_drewN | apply Kd.R_drew)); exact Kd.R_mono HO209.out (fun _ hk => trivial)⟩, ⟨by (with_reducible repeat (first | apply Kd.R_alloc | apply Kd.R_drewN | apply Kd.R_drew)); exact Kd.R_mono HO213.out (fun _ hk => hk.2)⟩, ⟨by (with_reducible repeat (first | refine blk_drewN ?_ _ | refine blk_drew ?_ | refine blk_alloc ?_ _)); exact BK196.out⟩, ⟨by repeat (first | (with_reducible first | exact HB.out | apply below_alloc | apply pw_below_drewN | apply below_drew1 | refine below_set ?_ GE196.out) | exact HB.out)⟩⟩
                            · rw [if_neg c57] at H
                              have c57b0 : (t214 == 0) = false := beq_eq_false_iff_ne.mpr c57
                              have c57b1 : (t214 != 0) = true := bne_iff_ne.mpr c57
                              have H' := Aside0.mk H
                              clear H
                              go_wp2
                              go_meet
                              case rel => exact ⟨_, (true), (by first | rfl | (simp; done) | (simp [*]; done)), H', ⟨by have := HJ4.out; have := HK2.out; have := HJ25.out; first | omega | exact Nat.le_refl _⟩, ⟨by (with_reducible repeat (first | apply Kd.R_alloc | apply Kd.R_drewN | apply Kd.R_drew)); exact Kd.R_mono HO_5.out (fun _ hk => hk.2)⟩, ⟨by (with_reducible repeat (first | apply Kd.R_alloc | apply Kd.R_drewN | apply Kd.R_drew)); exact Kd.R_mono HO209.out (fun _ hk => trivial)⟩, ⟨by (with_reducible repeat (first | apply Kd.R_alloc | apply Kd.R_drewN | apply Kd.R_drew)); exact Kd.R_mono HO213.out (fun _ hk => hk.2)⟩, ⟨by (with_reducible repeat (first | refine blk_drewN ?_ _ | refine blk_drew ?_ | refine blk_alloc ?_ _)); exact BK196.out⟩, ⟨by repeat (first | (with_reducible first | exact HB.out | apply below_alloc | apply pw_below_drewN | apply below_drew1 | refine below_set ?_ GE196.out) | exact HB.out)⟩⟩
                          · rw [if_neg c56] at H
                            have c56b0 : (t210 == 0) = false := beq_eq_false_iff_ne.mpr c56
                            have c56b1 : (t210 != 0) = true := bne_iff_ne.mpr c56
                            (first | rw [c56b0] | (simp only [i64_w, i32_w]; rw [c56b0]) | skip)
                            have H' := Aside0.mk H
                            clear H
                            go_wp2
                            go_meet
                            case rel => exact ⟨_, (true), (by first | rfl | (simp; done) | (simp [*]; done)), H', ⟨by have := HJ4.out; have := HK2.out; have := HJ25.out; first | omega | exact Nat.le_refl _⟩, ⟨by (with_reducible repeat (first | apply Kd.R_alloc | apply Kd.R_drewN | apply Kd.R_drew)); exact Kd.R_mono HO_5.out (fun _ hk => hk.2)⟩, ⟨by (with_reducible repeat (first | apply Kd.R_alloc | apply Kd.R_drewN | apply Kd.R_drew)); exact Kd.R_mono HO209.out (fun _ hk => trivial)⟩, ⟨by (with_reducible repeat (first | apply Kd.R_alloc | apply Kd.R_drewN | apply Kd.R_drew)); exact Kd.R_mono HO213.out (fun _ hk => hk.2)⟩, ⟨by (with_reducible repeat (first | refine blk_drewN ?_ _ | refine blk_drew ?_ | refine blk_alloc ?_ _)); exact BK196.out⟩, ⟨by repeat (first | (with_reducible first | exact HB.out | apply below_alloc | apply pw_below_drewN | apply below_drew1 | refine below_set ?_ GE196.out) | exact HB.out)⟩⟩
                        case rest =>
                          clear HC44
                          try clear c1
                          try clear c2
                          try clear p2
                          try clear q2
                          try clear hx2
                          try clear c3
                          try clear p3
                          try clear q3
                          try clear hx3
                          try clear hf3
                          try clear c4
                          try clear c5
                          try clear c6
                          try clear p6
                          try clear c9
                          try clear c10
                          try clear c10b0
                          try clear c10b1
                          try clear c20
                          try clear p20
                          try clear q20
                          try clear hx20
                          try clear c21
                          try clear c21b0
                          try clear c21b1
                          try clear c22
                          try clear c22b0
                          try clear c22b1
                          try clear c27
                          try clear c27b0
                          try clear c30
                          try clear c31
                          try clear c31b0
                          try clear c32
                          try clear c32b0
                          try clear c33
                          try clear c33b0
                          try clear c33b1
                          try clear c33b2
                          try clear c34
                          try clear c34b0
                          try clear c35
                          try clear c35b0
                          try clear c36
                          try clear p36
                          try clear q36
                          try clear hx36
                          try clear hf36
                          try clear c37
                          try clear c56
                          try clear c56b0
                          try clear c56b1
                          try clear c57
                          try clear c57b0
                          try clear c57b1
                          try clear c58
                          try clear c58b0
                          try clear c58b1
                          try clear c59
                          try clear c59b0
                          try clear c59b1
                          try clear c60
                          try clear c60b0
                          try clear c60b1
                          try clear c62
                          try clear c64
                          try clear c64b0
                          try clear c64b1
                          try clear p64
                          try clear hcz11_0
                          try clear hcz14_0
                          try clear hcz16_0
                          try clear hcz18_0
                          try clear hcz23_0
                          try clear hcz37_0
                          try clear hcz45_0
                          try clear hcz48_0
                          try clear hcz51_0
                          try clear hcz54_0
                          try clear hcz66_0
                          try clear hcz69_0
                          try clear hfz11_0
                          try clear hfz14_0
                          try clear hfz16_0
                          try clear hfz18_0
                          try clear hfz23_0
                          try clear hfz37_0
                          try clear hfz45_0
                          try clear hfz48_0
                          try clear hfz51_0
                          try clear hfz54_0
                          try clear hfz66_0
                          try clear hfz69_0
                          try clear hx203_0
                          try clear hx204_0
                          try clear hx205_0
                          try clear hx36_0
                          try clear p2
                          try clear p203
                          try clear p204
                          try clear p205
                          try clear p36
                          try clear q203
                          try clear q204
                          try clear q205
                          try clear q36
                          obtain ⟨kq, x134_43, rfl, HA, HJ43, HO_5, HO_7, HO_9, BK196, HB⟩ := hcut
                          cases kq with
                          | zero => exact absurd HA.out (by simp [wayfinderlaw15_BookAgain.j3])
                          | succ kj43 =>
                            have H := HA.out
                            clear HA
                            simp only [wayfinderlaw15_BookAgain.j3] at H
                            by_cases c72 : x134_43 = true
                            · subst c72
                              have H1 : (none) = some r := by rw [if_pos rfl] at H; exact H
                              clear H
                              have H := H1
                              clear H1
                              exact absurd H (by simp)
                            · replace c72 := Bool.eq_false_iff.mpr c72
                              subst c72
                              have H1 : (wayfinderlaw15_BookAgain.l1 kj43 x5_2 t207 t211 0 0 l0_0) = some r := by rw [if_neg (show ¬ (false = true) by decide)] at H; exact H
                              clear H
                              have H := H1
                              clear H1
                              have H' := Aside0.mk H
                              clear H
                              go_wp2
                              go_loopg [15, 16] kj43 (fun kq v15 v16 w' => ∃ (x15_5 : Int) (x16_5 : Int), v15 = .int .i64 x15_5 ∧ v16 = .int .i64 x16_5 ∧ Aside0 (wayfinderlaw15_BookAgain.l1 kq x5_2 t207 t211 x15_5 x16_5 l0_0 = some r) ∧ Aside0 (kq ≤ kj43) ∧ Aside0 (Kd.R (Kd.int .u8) 5 w' w.heap.size (fun k_ => some k_ ≠ ((.slice Ao52 t211.length co52) : Value).ownBlock) (.slice Ao46 x5_2.length co46) x5_2) ∧ Aside0 (Kd.R (Kd.int .i32) 21 w' w.heap.size (fun _ => True) (.slice Ao49 t207.length co49) t207) ∧ Aside0 (Kd.R (Kd.int .u8) 5 w' w.heap.size (fun k_ => some k_ ≠ ((.slice Ao46 x5_2.length co46) : Value).ownBlock) (.slice Ao52 t211.length co52) t211) ∧ Aside0 (w'.heap[gb196]? = some (.cells #[(.slice A0_0 l0_0.length c0_0)] 50 (0, 0))) ∧ Aside0 (Below w.heap.size w w'))
                              case atStart => exact ⟨(0), (0), (by first | rfl | (simp; done) | (simp [*]; done)), (by first | rfl | (simp; done) | (simp [*]; done)), H', ⟨Nat.le_refl _⟩, ⟨by (with_reducible repeat (first | apply Kd.R_alloc | apply Kd.R_drewN | apply Kd.R_drew)); exact HO_5.out⟩, ⟨by (with_reducible repeat (first | apply Kd.R_alloc | apply Kd.R_drewN | apply Kd.R_drew)); exact HO_7.out⟩, ⟨by (with_reducible repeat (first | apply Kd.R_alloc | apply Kd.R_drewN | apply Kd.R_drew)); exact HO_9.out⟩, ⟨by (with_reducible repeat (first | refine blk_drewN ?_ _ | refine blk_drew ?_ | refine blk_alloc ?_ _)); exact BK196.out⟩, ⟨by repeat (first | (with_reducible first | exact HB.out | apply below_alloc | apply pw_below_drewN | apply below_drew1 | refine below_set ?_ GE196.out) | exact HB.out)⟩⟩
                              case round =>
                                clear H'
                                try clear c1
                                try clear c2
                                try clear p2
                                try clear q2
                                try clear hx2
                                try clear c3
                                try clear p3
                                try clear q3
                                try clear hx3
                                try clear hf3
                                try clear c4
                                try clear c5
                                try clear c6
                                try clear p6
                                try clear c7
                                try clear c9
                                try clear c10
                                try clear c10b0
                                try clear c10b1
                                try clear c20
                                try clear p20
                                try clear q20
                                try clear hx20
                                try clear c21
                                try clear c21b0
                                try clear c21b1
                                try clear c22
                                try clear c22b0
                                try clear c22b1
                                try clear c27
                                try clear c27b0
                                try clear c30
                                try clear c31
                                try clear c31b0
                                try clear c32
                                try clear c32b0
                                try clear c33
                                try clear c33b0
                                try clear c33b1
                                try clear c33b2
                                try clear c34
                                try clear c34b0
                                try clear c35
                                try clear c35b0
                                try clear c36
                                try clear p36
                                try clear q36
                                try clear hx36
                                try clear hf36
                                try clear c37
                                try clear c56
                                try clear c56b0
                                try clear c56b1
                                try clear c57
                                try clear c57b0
                                try clear c57b1
                                try clear c58
                                try clear c58b0
                                try clear c58b1
                                try clear c59
                                try clear c59b0
                                try clear c59b1
                                try clear c60
                                try clear c60b0
                                try clear c60b1
                                try clear c62
                                try clear c64
                                try clear c64b0
                                try clear c64b1
                                try clear p64
                                try clear c72
                                try clear hcz11_0
                                try clear hcz14_0
                                try clear hcz16_0
                                try clear hcz18_0
                                try clear hcz23_0
                                try clear hcz37_0
                                try clear hcz45_0
                                try clear hcz48_0
                                try clear hcz51_0
                                try clear hcz54_0
                                try clear hcz66_0
                                try clear hcz69_0
                                try clear hfz11_0
                                try clear hfz14_0
                                try clear hfz16_0
                                try clear hfz18_0
                                try clear hfz23_0
                                try clear hfz37_0
                                try clear hfz45_0
                                try clear hfz48_0
                                try clear hfz51_0
                                try clear hfz54_0
                                try clear hfz66_0
                                try clear hfz69_0
                                try clear hx203_0
                                try clear hx204_0
                                try clear hx205_0
                                try clear hx36_0
                                try clear p2
                                try clear p20
                                try clear p203
                                try clear p204
                                try clear p205
                                try clear p3
                                try clear p36
                                try clear p6
                                try clear p64
                                try clear q2
                                try clear q20
                                try clear q203
                                try clear q204
                                try clear q205
                                try clear q3
                                try clear q36
                                obtain ⟨x15_5, x16_5, rfl, rfl, HA, HK5, HO_5, HO_7, HO_9, BK196, HB⟩ := hrel
                                cases gk with
                                | zero => exact absurd HA.out (by simp [wayfinderlaw15_BookAgain.l1])
                                | succ k5 =>
                                  have H := HA.out
                                  clear HA
                                  simp only [wayfinderlaw15_BookAgain.l1] at H
                                  by_cases c73 : x16_5 < (x5_2.length : Int)
                                  · rw [if_pos c73] at H
                                    have c73b0 : decide (x16_5 < (x5_2.length : Int)) = true := decide_eq_true c73
                                    clear c73
                                    by_cases c74 : 0 ≤ x16_5
                                    · rw [if_pos c74] at H
                                      have c74b0 : decide (0 ≤ x16_5) = true := decide_eq_true c74
                                      clear c74
                                      by_cases c75 : x16_5 < (t211.length : Int)
                                      · rw [if_pos c75] at H
                                        have c75b0 : decide (x16_5 < (t211.length : Int)) = true := decide_eq_true c75
                                        clear c75
                                        by_cases c76 : (rd t211 x16_5) > (rd x5_2 x16_5)
                                        · rw [if_pos c76] at H
                                          exact absurd H (by simp)
                                        · rw [if_neg c76] at H
                                          have c76b0 : decide ((rd x5_2 x16_5) < (rd t211 x16_5)) = false := decide_eq_false c76
                                          clear c76
                                          replace H := Option.bind_eq_some_iff.mp H
                                          obtain ⟨⟨t226, t229⟩, A770, H⟩ := H
                                          replace H : (if t229 = 0 then (if (wrap64 (x15_5 + (t226.length : Int))) > (t207.length : Int) then (none) else (if 0 ≤ x15_5 then (if x15_5 ≤ (wrap64 (x15_5 + (t226.length : Int))) then (if (wrap64 (x15_5 + (t226.length : Int))) ≤ (t207.length : Int) then ((wayfinderkit_Same_int32.f k5 t226 ((t207.take ((wrap64 (x15_5 + (t226.length : Int))) : Int).toNat).drop (x15_5 : Int).toNat)).bind fun t234 => (if t234 = true then (wayfinderlaw15_BookAgain.l1 k5 x5_2 t207 t211 (wrap64 (x15_5 + (t226.length : Int))) (wrap64 (x16_5 + 1)) l0_0) else (none))) else (none)) else (none)) else (none))) else (none)) = some r := H
                                          have A77 := Aside0.mk A770
                                          clear A770
                                          by_cases c78 : t229 = 0
                                          · rw [if_pos c78] at H
                                            have c78b0 : (t229 == 0) = true := beq_iff_eq.mpr c78
                                            have c78b1 : (t229 != 0) = false := bne_eq_false_iff_eq.mpr c78
                                            clear c78
                                            by_cases c79 : (wrap64 (x15_5 + (t226.length : Int))) > (t207.length : Int)
                                            · rw [if_pos c79] at H
                                              exact absurd H (by simp)
                                            · rw [if_neg c79] at H
                                              have c79b0 : decide ((t207.length : Int) < (wrap64 (x15_5 + (t226.length : Int)))) = false := decide_eq_false c79
                                              clear c79
                                              by_cases c80 : 0 ≤ x15_5
                                              · rw [if_pos c80] at H
                                                have c80b0 := eq_true c80
                                                have c80b1 : decide (0 ≤ x15_5) = true := decide_eq_true c80
                                                clear c80
                                                by_cases c81 : x15_5 ≤ (wrap64 (x15_5 + (t226.length : Int)))
                                                · rw [if_pos c81] at H
                                                  have c81b0 := eq_true c81
                                                  have c81b1 : decide (x15_5 ≤ (wrap64 (x15_5 + (t226.length : Int)))) = true := decide_eq_true c81
                                                  by_cases c82 : (wrap64 (x15_5 + (t226.length : Int))) ≤ (t207.length : Int)
                                                  · rw [if_pos c82] at H
                                                    have c82b0 := eq_true c82
                                                    have c82b1 : decide ((wrap64 (x15_5 + (t226.length : Int))) ≤ (t207.length : Int)) = true := decide_eq_true c82
                                                    obtain ⟨y230, hy230⟩ : ∃ y_ : List Int, y_ = ((t207.take ((wrap64 (x15_5 + (t226.length : Int))) : Int).toNat).drop (x15_5 : Int).toNat) := ⟨_, rfl⟩
                                                    replace H : ((wayfinderkit_Same_int32.f k5 t226 y230).bind fun t234 => (if t234 = true then (wayfinderlaw15_BookAgain.l1 k5 x5_2 t207 t211 (wrap64 (x15_5 + (t226.length : Int))) (wrap64 (x16_5 + 1)) l0_0) else (none))) = some r := by first | (rw [hy230]; with_reducible exact H) | (have H2_ := (Option.bind_some _ _).symm.trans H; rw [hy230]; with_reducible exact H2_) | (have H2_ := (Option.bind_some _ _).symm.trans H; with_reducible exact H2_) | with_reducible exact H | (rw [hy230]; exact H) | exact H
                                                    have Ny230 := Aside0.mk hy230
                                                    clear hy230
                                                    replace H := Option.bind_eq_some_iff.mp H
                                                    obtain ⟨t234, A830, H⟩ := H
                                                    replace H : (if t234 = true then (wayfinderlaw15_BookAgain.l1 k5 x5_2 t207 t211 (wrap64 (x15_5 + (t226.length : Int))) (wrap64 (x16_5 + 1)) l0_0) else (none)) = some r := H
                                                    have A83 := Aside0.mk A830
                                                    clear A830
                                                    by_cases c84 : t234 = true
                                                    · subst c84
                                                      have H1 : (wayfinderlaw15_BookAgain.l1 k5 x5_2 t207 t211 (wrap64 (x15_5 + (t226.length : Int))) (wrap64 (x16_5 + 1)) l0_0) = some r := by rw [if_pos rfl] at H; exact H
                                                      clear H
                                                      have H := H1
                                                      clear H1
                                                      have H' := Aside0.mk H
                                                      clear H
                                                      try go_wp2
                                                      have n0_ := Aside0.mk (Kd.R_drew HO_5.out)
                                                      have n1_ := Aside0.mk (Kd.R_drew HO_7.out)
                                                      have n2_ := Aside0.mk (Kd.R_drew HO_9.out)
                                                      have n3_ := Aside0.mk (blk_drew BK196.out)
                                                      have n4_ := Aside0.mk (below_drew1 HB.out)
                                                      clear HO_5
                                                      clear HO_7
                                                      clear HO_9
                                                      clear BK196
                                                      clear HB
                                                      have HO_5 := n0_
                                                      have HO_7 := n1_
                                                      have HO_9 := n2_
                                                      have BK196 := n3_
                                                      have HB := n4_
                                                      clear n0_ n1_ n2_ n3_ n4_
                                                      have p223 : 0 ≤ (x16_5 : Int) := of_decide_eq_true (by first | (with_reducible assumption) | assumption)
                                                      have q223 : x16_5 < (t211.length : Int) := of_decide_eq_true (by first | (with_reducible assumption) | assumption)
                                                      obtain ⟨ad223, e223, hx223_0⟩ := Kd.at_int (Kd.R_reads' HO_9.out).2.2 x16_5 p223 q223
                                                      cases e223
                                                      replace p223 := eq_true p223
                                                      replace q223 := eq_true q223
                                                      have p224 : 0 ≤ (x16_5 : Int) := of_decide_eq_true (by first | (with_reducible assumption) | assumption)
                                                      have q224 : x16_5 < (x5_2.length : Int) := of_decide_eq_true (by first | (with_reducible assumption) | assumption)
                                                      obtain ⟨ad224, e224, hx224_0⟩ := Kd.at_int (Kd.R_reads' HO_5.out).2.2 x16_5 p224 q224
                                                      cases e224
                                                      replace p224 := eq_true p224
                                                      replace q224 := eq_true q224
                                                      refine start_ (n := 9) (S := fun w' => w'.cell? (ad223.add (x16_5).toNat) = some (.int .u8 (rd t211 x16_5)) ∧ w'.cell? (ad224.add (x16_5).toNat) = some (.int .u8 (rd x5_2 x16_5))) (ds := []) #[false, false, false, false, false, false, false, false, false] (by kernel_rfl) rfl rfl ⟨hx223_0, hx224_0⟩ (fun hHeld => ?_); refine with_tabW wayfinderlaw15_BookAgain.tab22 wayfinderlaw15_BookAgain.bits22 (fun HT_ HW_ => ?_)
                                                      generalize wr.drew = w85 at HO_5 HO_7 HO_9 BK196 HB hx223_0 hx224_0 hHeld ⊢
                                                      refine pure_ (i := 0) (N := some 141) (v := ?_) (a' := ?_) #[true, false, false, false, false, false, false, false, false] rfl rfl (any_of HT_.out (by kernel_rfl)) (fun _ _ _ h => h) (Or.inl ⟨by rfl, ?_⟩) ?_ ?_
                                                      rotate_left
                                                      · intro w'
                                                        go_simp
                                                        with_reducible rfl
                                                      rotate_left
                                                      · simp only [Act.put, List.setIfInBounds_toArray, List.set_cons_zero, List.set_cons_succ, i64_w, i32_w]
                                                        rfl
                                                      refine pure_ (i := 1) (N := some 142) (v := ?_) (a' := ?_) #[true, true, false, false, false, false, false, false, false] rfl rfl (any_of HT_.out (by kernel_rfl)) (fun _ _ _ h => h) (Or.inl ⟨by rfl, ?_⟩) ?_ ?_
                                                      rotate_left
                                                      · intro w'
                                                        go_simp
                                                        with_reducible rfl
                                                      rotate_left
                                                      · simp only [Act.put, List.setIfInBounds_toArray, List.set_cons_zero, List.set_cons_succ, i64_w, i32_w]
                                                        rfl
                                                      refine pure_ (i := 2) (N := some 143) (v := ?_) (a' := ?_) #[true, true, true, false, false, false, false, false, false] rfl rfl (any_of HT_.out (by kernel_rfl)) (fun _ _ _ h => h) (Or.inl ⟨by rfl, ?_⟩) ?_ ?_
                                                      rotate_left
                                                      · intro w'
                                                        go_simp
                                                        with_reducible rfl
                                                      rotate_left
                                                      · simp only [Act.put, List.setIfInBounds_toArray, List.set_cons_zero, List.set_cons_succ, i64_w, i32_w]
                                                        rfl
                                                      refine pure_ (i := 4) (N := some 145) (v := ?_) (a' := ?_) #[true, true, true, false, true, false, false, false, false] rfl rfl (any_of HT_.out (by kernel_rfl)) (fun _ _ _ h => h) (Or.inl ⟨by rfl, ?_⟩) ?_ ?_
                                                      rotate_left
                                                      · intro w'
                                                        go_simp
                                                        with_reducible rfl
                                                      rotate_left
                                                      · simp only [Act.put, List.setIfInBounds_toArray, List.set_cons_zero, List.set_cons_succ, i64_w, i32_w]
                                                        rfl
                                                      refine pure_ (i := 5) (N := some 146) (v := ?_) (a' := ?_) #[true, true, true, false, true, true, false, false, false] rfl rfl (any_of HT_.out (by kernel_rfl)) (fun _ _ _ h => h) (Or.inl ⟨by rfl, ?_⟩) ?_ ?_
                                                      rotate_left
                                                      · intro w'
                                                        go_simp
                                                        with_reducible rfl
                                                      rotate_left
                                                      · simp only [Act.put, List.setIfInBounds_toArray, List.set_cons_zero, List.set_cons_succ, i64_w, i32_w]
                                                        rfl
                                                      refine pure_ (i := 6) (N := some 147) (v := ?_) (a' := ?_) #[true, true, true, false, true, true, true, false, false] rfl rfl (any_of HT_.out (by kernel_rfl)) (fun _ _ _ h => h) (Or.inl ⟨by rfl, ?_⟩) ?_ ?_
                                                      rotate_left
                                                      · intro w'
                                                        go_simp
                                                        with_reducible rfl
                                                      rotate_left
                                                      · simp only [Act.put, List.setIfInBounds_toArray, List.set_cons_zero, List.set_cons_succ, i64_w, i32_w]
                                                        rfl
                                                      refine take_ (i := 3) (N := some 144) (v := ?_) (a' := ?_) #[true, true, true, true, true, true, true, false, false] rfl rfl (take_ofW HT_.out HW_.out (by kernel_rfl)) (fun _ _ _ h => h) (Or.inl ⟨by rfl, ?_⟩) hHeld ?_ ?_
                                                      rotate_left
                                                      · rintro w' ⟨s0, s1⟩
                                                        go_simp
                                                        with_reducible rfl
                                                      rotate_left
                                                      · simp only [Act.put, List.setIfInBounds_toArray, List.set_cons_zero, List.set_cons_succ, i64_w, i32_w]
                                                        rfl
                                                      refine take_ (i := 7) (N := some 148) (v := ?_) (a' := ?_) #[true, true, true, true, true, true, true, true, false] rfl rfl (take_ofW HT_.out HW_.out (by kernel_rfl)) (fun _ _ _ h => h) (Or.inl ⟨by rfl, ?_⟩) hHeld ?_ ?_
                                                      rotate_left
                                                      · rintro w' ⟨s0, s1⟩
                                                        go_simp
                                                        with_reducible rfl
                                                      rotate_left
                                                      · simp only [Act.put, List.setIfInBounds_toArray, List.set_cons_zero, List.set_cons_succ, i64_w, i32_w]
                                                        rfl
                                                      refine pure_ (i := 8) (N := some 149) (v := ?_) (a' := ?_) #[true, true, true, true, true, true, true, true, true] rfl rfl (any_of HT_.out (by kernel_rfl)) (fun _ _ _ h => h) (Or.inl ⟨by rfl, ?_⟩) ?_ ?_
                                                      rotate_left
                                                      · intro w'
                                                        go_simp
                                                        with_reducible rfl
                                                      rotate_left
                                                      · simp only [Act.put, List.setIfInBounds_toArray, List.set_cons_zero, List.set_cons_succ, i64_w, i32_w]
                                                        rfl
                                                      refine done_ (done_of HT_.out (by kernel_rfl)) ?_
                                                      try go_wp2
                                                      have n0_ := Aside0.mk (Kd.R_drew HO_5.out)
                                                      have n1_ := Aside0.mk (Kd.R_drew HO_7.out)
                                                      have n2_ := Aside0.mk (Kd.R_drew HO_9.out)
                                                      have n3_ := Aside0.mk (blk_drew BK196.out)
                                                      have n4_ := Aside0.mk (below_drew1 HB.out)
                                                      clear HO_5
                                                      clear HO_7
                                                      clear HO_9
                                                      clear BK196
                                                      clear HB
                                                      have HO_5 := n0_
                                                      have HO_7 := n1_
                                                      have HO_9 := n2_
                                                      have BK196 := n3_
                                                      have HB := n4_
                                                      clear n0_ n1_ n2_ n3_ n4_
                                                      have p225 : 0 ≤ (x16_5 : Int) := of_decide_eq_true (by first | (with_reducible assumption) | assumption)
                                                      have q225 : x16_5 < (x5_2.length : Int) := of_decide_eq_true (by first | (with_reducible assumption) | assumption)
                                                      obtain ⟨ad225, e225, hx225_0⟩ := Kd.at_int (Kd.R_reads' HO_5.out).2.2 x16_5 p225 q225
                                                      obtain rfl : ad224 = ad225 := (by injection e225)
                                                      replace p225 := eq_true p225
                                                      replace q225 := eq_true q225
                                                      refine start_ (n := 13) (S := fun w' => w'.cell? ⟨gb196, 0, none⟩ = some (.slice A0_0 l0_0.length c0_0) ∧ w'.cell? (ad224.add (x16_5).toNat) = some (.int .u8 (rd x5_2 x16_5))) (ds := []) #[false, false, false, false, false, false, false, false, false, false, false, false, false] (by kernel_rfl) rfl rfl ⟨(blk_cell BK196.out 0).trans rfl, hx225_0⟩ (fun hHeld => ?_); refine with_tabW wayfinderlaw15_BookAgain.tab24 wayfinderlaw15_BookAgain.bits24 (fun HT_ HW_ => ?_)
                                                      generalize w85.drew = w86 at HO_5 HO_7 HO_9 BK196 HB hx225_0 hHeld ⊢
                                                      refine pure_ (i := 1) (N := some 152) (v := ?_) (a' := ?_) #[false, true, false, false, false, false, false, false, false, false, false, false, false] rfl rfl (any_of HT_.out (by kernel_rfl)) (fun _ _ _ h => h) (Or.inl ⟨by rfl, ?_⟩) ?_ ?_
                                                      rotate_left
                                                      · intro w'
                                                        go_simp
                                                        with_reducible rfl
                                                      rotate_left
                                                      · simp only [Act.put, List.setIfInBounds_toArray, List.set_cons_zero, List.set_cons_succ, i64_w, i32_w]
                                                        rfl
                                                      refine pure_ (i := 2) (N := some 153) (v := ?_) (a' := ?_) #[false, true, true, false, false, false, false, false, false, false, false, false, false] rfl rfl (any_of HT_.out (by kernel_rfl)) (fun _ _ _ h => h) (Or.inl ⟨by rfl, ?_⟩) ?_ ?_
                                                      rotate_left
                                                      · intro w'
                                                        go_simp
                                                        with_reducible rfl
                                                      rotate_left
                                                      · simp only [Act.put, List.setIfInBounds_toArray, List.set_cons_zero, List.set_cons_succ, i64_w, i32_w]
                                                        rfl
                                                      refine pure_ (i := 3) (N := some 154) (v := ?_) (a' := ?_) #[false, true, true, true, false, false, false, false, false, false, false, false, false] rfl rfl (any_of HT_.out (by kernel_rfl)) (fun _ _ _ h => h) (Or.inl ⟨by rfl, ?_⟩) ?_ ?_
                                                      rotate_left
                                                      · intro w'
                                                        go_simp
                                                        with_reducible rfl
                                                      rotate_left
                                                      · simp only [Act.put, List.setIfInBounds_toArray, List.set_cons_zero, List.set_cons_succ, i64_w, i32_w]
                                                        rfl
                                                      refine pure_ (i := 4) (N := some 155) (v := ?_) (a' := ?_) #[false, true, true, true, true, false, false, false, false, false, false, false, false] rfl rfl (any_of HT_.out (by kernel_rfl)) (fun _ _ _ h => h) (Or.inl ⟨by rfl, ?_⟩) ?_ ?_
                                                      rotate_left
                                                      · intro w'
                                                        go_simp
                                                        with_reducible rfl
                                                      rotate_left
                                                      · simp only [Act.put, List.setIfInBounds_toArray, List.set_cons_zero, List.set_cons_succ, i64_w, i32_w]
                                                        rfl
                                                      refine take_ (i := 0) (N := some 151) (v := ?_) (a' := ?_) #[true, true, true, true, true, false, false, false, false, false, false, false, false] rfl rfl (take_ofW HT_.out HW_.out (by kernel_rfl)) (fun _ _ _ h => h) (Or.inl ⟨by rfl, ?_⟩) hHeld ?_ ?_
                                                      rotate_left
                                                      · rintro w' ⟨s0, s1⟩
                                                        go_simp
                                                        with_reducible rfl
                                                      rotate_left
                                                      · simp only [Act.put, List.setIfInBounds_toArray, List.set_cons_zero, List.set_cons_succ, i64_w, i32_w]
                                                        rfl
                                                      refine take_ (i := 5) (N := some 156) (v := ?_) (a' := ?_) #[true, true, true, true, true, true, false, false, false, false, false, false, false] rfl rfl (take_ofW HT_.out HW_.out (by kernel_rfl)) (fun _ _ _ h => h) (Or.inl ⟨by rfl, ?_⟩) hHeld ?_ ?_
                                                      rotate_left
                                                      · rintro w' ⟨s0, s1⟩
                                                        go_simp
                                                        with_reducible rfl
                                                      rotate_left
                                                      · simp only [Act.put, List.setIfInBounds_toArray, List.set_cons_zero, List.set_cons_succ, i64_w, i32_w]
                                                        rfl
                                                      refine pure_ (i := 6) (N := some 157) (v := ?_) (a' := ?_) #[true, true, true, true, true, true, true, false, false, false, false, false, false] rfl rfl (any_of HT_.out (by kernel_rfl)) (fun _ _ _ h => h) (Or.inl ⟨by rfl, ?_⟩) ?_ ?_
                                                      rotate_left
                                                      · intro w'
                                                        go_simp
                                                        with_reducible rfl
                                                      rotate_left
                                                      · simp only [Act.put, List.setIfInBounds_toArray, List.set_cons_zero, List.set_cons_succ, i64_w, i32_w]
                                                        rfl
                                                      refine one_ (i := 7) (N := some 158) #[true, true, true, true, true, true, true, true, false, false, false, false, false] rfl rfl (one_of HT_.out (by kernel_rfl)) (by decide) (fun K hK => ?_)
                                                      refine goes_ Try.func39 (by kernel_rfl) rfl #[.agg #[.slice A0_0 l0_0.length c0_0], .int .i64 x16_5, .int .i64 (wrap64 (rd x5_2 x16_5))] (by rfl) rfl rfl (by (try simp only [List.map_toArray, List.map_cons, List.map_nil]); first | done | rfl | (simp only [List.length_drop, List.length_take]; rfl)) ?_
                                                      with_reducible refine (book_Word.calls _ _ l0_0 x16_5 (wrap64 (rd x5_2 x16_5)) t226 t229 _ ?side1 ?side2 A77.out).mono ?_
                                                      (case side1 => repeat (first | exact (Kd.C_below HR0_0.out HB.out) | (with_reducible refine Kd.C_alloc ?_ _) | (with_reducible refine Kd.C_drewN ?_ _) | (with_reducible refine Kd.C_drew ?_)))
                                                      (case side2 => exact HC0_0.out)
                                                      rintro e w87 ⟨v227, rfl, ho0, hb⟩
                                                      have HS1_ := (hb.cell (World.block_lt_of_cell? _ _ (hHeld.2))).trans (hHeld.2)
                                                      refine ⟨_, rfl, ?_⟩
                                                      have n0_ := Aside0.mk (Kd.R_below (by (with_reducible repeat (first | apply Kd.R_alloc | apply Kd.R_drewN | apply Kd.R_drew)); exact HO_5.out) hb)
                                                      have n1_ := Aside0.mk (Kd.R_elder' (by (with_reducible repeat (first | apply Kd.R_alloc | apply Kd.R_drewN | apply Kd.R_drew)); exact HO_7.out) (Kd.R_base ho0) hb)
                                                      have n2_ := Aside0.mk (Kd.R_below (by (with_reducible repeat (first | apply Kd.R_alloc | apply Kd.R_drewN | apply Kd.R_drew)); exact HO_9.out) hb)
                                                      have n3_ := Aside0.mk (Kd.R_lower (Kd.R_new' ho0 (Kd.R_lt (by (with_reducible repeat (first | apply Kd.R_alloc | apply Kd.R_drewN | apply Kd.R_drew)); exact HO_7.out))) (below_size (by repeat (first | (with_reducible first | exact HB.out | apply below_alloc | apply pw_below_drewN | apply below_drew1 | refine below_set ?_ GE196.out) | exact HB.out))))
                                                      have n4_ := Aside0.mk (blk_below (g := gb196) (o := .cells #[.slice A0_0 l0_0.length c0_0] 50 (0, 0)) (by (with_reducible repeat (first | refine blk_drewN ?_ _ | refine blk_drew ?_ | refine blk_alloc ?_ _)); exact BK196.out) hb)
                                                      have n5_ := Aside0.mk (below_step (by repeat (first | (with_reducible first | exact HB.out | apply below_alloc | apply pw_below_drewN | apply below_drew1 | refine below_set ?_ GE196.out) | exact HB.out)) hb)
                                                      clear HO_5
                                                      clear HO_7
                                                      clear HO_9
                                                      clear BK196
                                                      clear HB
                                                      have HO_5 := n0_
                                                      have HO_7 := n1_
                                                      have HO_9 := n2_
                                                      have HO228 := n3_
                                                      have BK196 := n4_
                                                      have HB := n5_
                                                      clear n0_ n1_ n2_ n3_ n4_ n5_
                                                      (try clear hb)
                                                      (try clear hb2)
                                                      (try clear hk)
                                                      (try clear hi)
                                                      (try clear ho0)
                                                      refine hK.out _ _ ⟨(blk_cell BK196.out 0).trans rfl, HS1_⟩ (fun hHeld => ?_)
                                                      clear hK K
                                                      refine norm_ (a' := ?_) ?_ ?_
                                                      rotate_left
                                                      · show Act.put _ (some 158) _ = _
                                                        simp only [Act.put, List.setIfInBounds_toArray, List.set_cons_zero, List.set_cons_succ, i64_w, i32_w]
                                                        rfl
                                                      refine pure_ (i := 8) (N := some 150) (v := ?_) (a' := ?_) #[true, true, true, true, true, true, true, true, true, false, false, false, false] rfl rfl (any_of HT_.out (by kernel_rfl)) (fun _ _ _ h => h) (Or.inl ⟨by rfl, ?_⟩) ?_ ?_
                                                      rotate_left
                                                      · intro w'
                                                        go_simp
                                                        with_reducible rfl
                                                      rotate_left
                                                      · simp only [Act.put, List.setIfInBounds_toArray, List.set_cons_zero, List.set_cons_succ, i64_w, i32_w]
                                                        rfl
                                                      refine pure_ (i := 9) (N := some 159) (v := ?_) (a' := ?_) #[true, true, true, true, true, true, true, true, true, true, false, false, false] rfl rfl (any_of HT_.out (by kernel_rfl)) (fun _ _ _ h => h) (Or.inl ⟨by rfl, ?_⟩) ?_ ?_
                                                      rotate_left
                                                      · intro w'
                                                        go_simp
                                                        with_reducible rfl
                                                      rotate_left
                                                      · simp only [Act.put, List.setIfInBounds_toArray, List.set_cons_zero, List.set_cons_succ, i64_w, i32_w]
                                                        rfl
                                                      refine pure_ (i := 10) (N := some 160) (v := ?_) (a' := ?_) #[true, true, true, true, true, true, true, true, true, true, true, false, false] rfl rfl (any_of HT_.out (by kernel_rfl)) (fun _ _ _ h => h) (Or.inl ⟨by rfl, ?_⟩) ?_ ?_
                                                      rotate_left
                                                      · intro w'
                                                        go_simp
                                                        with_reducible rfl
                                                      rotate_left
                                                      · simp only [Act.put, List.setIfInBounds_toArray, List.set_cons_zero, List.set_cons_succ, i64_w, i32_w]
                                                        rfl
                                                      refine pure_ (i := 11) (N := some 17) (v := ?_) (a' := ?_) #[true, true, true, true, true, true, true, true, true, true, true, true, false] rfl rfl (any_of HT_.out (by kernel_rfl)) (fun _ _ _ h => h) (Or.inl ⟨by rfl, ?_⟩) ?_ ?_
                                                      rotate_left
                                                      · intro w'
                                                        go_simp
                                                        with_reducible rfl
                                                      rotate_left
                                                      · simp only [Act.put, List.setIfInBounds_toArray, List.set_cons_zero, List.set_cons_succ, i64_w, i32_w]
                                                        rfl
                                                      refine pure_ (i := 12) (N := some 18) (v := ?_) (a' := ?_) #[true, true, true, true, true, true, true, true, true, true, true, true, true] rfl rfl (any_of HT_.out (by kernel_rfl)) (fun _ _ _ h => h) (Or.inl ⟨by rfl, ?_⟩) ?_ ?_
                                                      rotate_left
                                                      · intro w'
                                                        go_simp
                                                        with_reducible rfl
                                                      rotate_left
                                                      · simp only [Act.put, List.setIfInBounds_toArray, List.set_cons_zero, List.set_cons_succ, i64_w, i32_w]
                                                        rfl
                                                      refine done_ (done_of HT_.out (by kernel_rfl)) ?_
                                                      obtain ⟨Ao88, co88, eo88⟩ := Kd.R_slice HO228.out
                                                      subst eo88
                                                      have q89 : ((wrap64 (x15_5 + (t226.length : Int))) : Int) ≤ ((t207.length : Int) : Int) := of_decide_eq_true (by first | (with_reducible assumption) | assumption)
                                                      obtain ⟨i089, hi089, _, hsz89, _⟩ := info_parts info21
                                                      have hroom89 : t207.length ≤ co49 := (Kd.R_reads' HO_7.out).2.1
                                                      have hC89 : Kd.C (Kd.int .i32) _ Ao49 t207.length t207 := (Kd.R_reads' HO_7.out).2.2
                                                      have ql89 : (x15_5 : Int) ≤ ((wrap64 (x15_5 + (t226.length : Int))) : Int) := of_decide_eq_true (by first | (with_reducible assumption) | assumption)
                                                      have q089 : (0 : Int) ≤ (x15_5 : Int) := of_decide_eq_true (by first | (with_reducible assumption) | assumption)
                                                      have hcut89 := cut_mid (P := Try.prog) 25 21 .i64 .i64 Try.underlying25 hi089 1 hsz89 Ao49 t207.length co49 x15_5 (wrap64 (x15_5 + (t226.length : Int))) q089 ql89 q89 hroom89
                                                      have hr89 := Kd.C_mid (lo := (x15_5 : Int).toNat) (hi := ((wrap64 (x15_5 + (t226.length : Int))) : Int).toNat) (c := co49) hC89 (by omega) (by omega) hroom89
                                                      obtain ⟨A89, hA89⟩ : ∃ A1, A1 = (if co49 = (x15_5 : Int).toNat then Ao49 else (Ao49 : Option Addr).map (·.add ((x15_5 : Int).toNat * 1))) := ⟨_, rfl⟩
                                                      obtain ⟨c89, hc89⟩ : ∃ c1, c1 = co49 - (x15_5 : Int).toNat := ⟨_, rfl⟩
                                                      have hy89 : y230.length = ((wrap64 (x15_5 + (t226.length : Int))) : Int).toNat - (x15_5 : Int).toNat := (by rw [Ny230.out, List.length_drop, List.length_take] <;> omega)
                                                      rw [show ((t207).take ((wrap64 (x15_5 + (t226.length : Int))) : Int).toNat).drop (x15_5 : Int).toNat = y230 from Ny230.out.symm] at hr89
                                                      replace hr89 : Kd.C (Kd.int .i32) _ A89 y230.length y230 := (by rw [hA89]; exact hr89)
                                                      rw [← hy89, ← hA89, ← hc89] at hcut89
                                                      have HR233 := Aside0.mk hr89
                                                      have HC233 := Aside0.mk (show y230.length ≤ c89 from by rw [hy89, hc89]; exact Nat.sub_le_sub_right (Nat.le_trans (by omega) hroom89) _)
                                                      clear hr89 hC89 hroom89 hi089 hsz89 hc89
                                                      have KY89 := Aside0.mk hy89
                                                      have KA89 := Aside0.mk hA89
                                                      clear hy89 hA89
                                                      have KL89 := Aside0.mk (show ((wrap64 (x15_5 + (t226.length : Int))) : Int).toNat ≤ t207.length from by omega)
                                                      have KM89 := Aside0.mk (show (x15_5 : Int).toNat ≤ ((wrap64 (x15_5 + (t226.length : Int))) : Int).toNat from by omega)
                                                      replace q89 := eq_true q89
                                                      try go_wp2_with (first | (go_at_call 15; (with_reducible refine (wayfinderkit_Same_int32.calls k5 _ _ t226 _ _ y230 true _ ?side1 ?side2 ?side3 ?side4 A83.out).mono ?_); (case side1 => repeat (first | exact (Kd.R_reads' HO228.out).2.2 | (with_reducible refine Kd.C_alloc ?_ _) | (with_reducible refine Kd.C_drewN ?_ _) | (with_reducible refine Kd.C_drew ?_))); (case side2 => exact (Kd.R_reads' HO228.out).2.1); (case side3 => repeat (first | exact (by repeat (first | (with_reducible exact HR233.out) | (with_reducible refine Kd.C_alloc ?_ _) | (with_reducible refine Kd.C_drewN ?_ _) | (with_reducible refine Kd.C_drew ?_) | exact HR233.out)) | (with_reducible refine Kd.C_alloc ?_ _) | (with_reducible refine Kd.C_drewN ?_ _) | (with_reducible refine Kd.C_drew ?_))); (case side4 => exact HC233.out); rintro e w' ⟨rfl, ⟨nd, rfl⟩⟩))
                                                      go_roundg k5
                                                      case measure => have := HJ4.out; have := HK2.out; have := HJ25.out; have := HJ43.out; have := HK5.out; omega
                                                      case rel => exact ⟨(wrap64 (x15_5 + (t226.length : Int))), (wrap64 (x16_5 + 1)), (by first | rfl | (simp; done) | (simp [*]; done)), (by first | rfl | (simp; done) | (simp [*]; done)), H', ⟨by have := HJ4.out; have := HK2.out; have := HJ25.out; have := HJ43.out; have := HK5.out; omega⟩, ⟨by (with_reducible repeat (first | apply Kd.R_alloc | apply Kd.R_drewN | apply Kd.R_drew)); exact HO_5.out⟩, ⟨by (with_reducible repeat (first | apply Kd.R_alloc | apply Kd.R_drewN | apply Kd.R_drew)); exact Kd.R_mono HO_7.out (fun _ hk => trivial)⟩, ⟨by (with_reducible repeat (first | apply Kd.R_alloc | apply Kd.R_drewN | apply Kd.R_drew)); exact HO_9.out⟩, ⟨by (with_reducible repeat (first | refine blk_drewN ?_ _ | refine blk_drew ?_ | refine blk_alloc ?_ _)); exact BK196.out⟩, ⟨by repeat (first | (with_reducible first | exact HB.out | apply below_alloc | apply pw_below_drewN | apply below_drew1 | refine below_set ?_ GE196.out) | exact HB.out)⟩⟩
                                                    · replace c84 := Bool.eq_false_iff.mpr c84
                                                      subst c84
                                                      have H1 : (none) = some r := by rw [if_neg (show ¬ (false = true) by decide)] at H; exact H
                                                      clear H
                                                      have H := H1
                                                      clear H1
                                                      exact absurd H (by simp)
                                                  · rw [if_neg c82] at H
                                                    exact absurd H (by simp)
                                                · rw [if_neg c81] at H
                                                  exact absurd H (by simp)
                                              · rw [if_neg c80] at H
                                                exact absurd H (by simp)
                                          · rw [if_neg c78] at H
                                            exact absurd H (by simp)
                                      · rw [if_neg c75] at H
                                        exact absurd H (by simp)
                                    · rw [if_neg c74] at H
                                      exact absurd H (by simp)
                                  · rw [if_neg c73] at H
                                    have c73b0 : decide (x16_5 < (x5_2.length : Int)) = false := decide_eq_false c73
                                    clear c73
                                    obtain rfl := Option.some.inj H
                                    go_wp2
                                    go_ret
                                    exact ⟨by first | rfl | (simp [errW_none, errW_some] <;> rfl) | (simp [*, errW_none, errW_some] <;> rfl), by repeat (first | (with_reducible first | exact HB.out | apply below_alloc | apply pw_below_drewN | apply below_drew1 | refine below_set ?_ GE196.out) | exact HB.out)⟩
            · rw [if_neg c22] at H
              exact absurd H (by simp)
          · rw [if_neg c21] at H
            exact absurd H (by simp)
  · replace c4 := Bool.eq_false_iff.mpr c4
    subst c4
    have H1 : (none) = some r := by rw [if_neg (show ¬ (false = true) by decide)] at H; exact H
    clear H
    have H := H1
    clear H1
    exact absurd H (by simp)

end Go.Proofs.Ytpcacklmelokiaa.Bk
