/- Statement TrainTurns, plainly. -/
import Derived.Test.YteickelddnhdiaaTrx1
import Derived.Test.YteickelddnhdiaaEvP
namespace Go.Proofs.Yteickelddnhdiaa.Pure
open Go.RowKit Go.Proofs.Yteickelddnhdiaa.Tr Go.Proofs.YteickelddnhdiaaW.PrintWords Go.Proofs.YteickelddnhdiaaW.PrintLast Go.Proofs.Yteickelddnhdiaa.G
set_option linter.unusedVariables false
theorem Pick_nat (a : Int) (P : Nat) (h1 : 1 ≤ P) (h2 : P ≤ 2000) : ∃ p : Nat, p < P ∧ wayfinderkit_Pick.f a (P : Int) = some (p : Int) := by
  have h3 := tmod_pick (a := a) (m := (P : Int)) (by omega)
  have h4 := Int.emod_nonneg a (show (P : Int) ≠ 0 by omega)
  have h5 := Int.emod_lt_of_pos a (show 0 < (P : Int) by omega)
  refine ⟨(a % (P : Int)).toNat, by omega, ?_⟩
  unfold wayfinderkit_Pick.f
  rw [if_neg (by omega), if_neg (by omega)]
  by_cases h : Int.tmod a P < 0
  · rw [if_pos h] at h3 ⊢
    rw [wrap_in (by omega) (by omega), h3]
    congr 1
    omega
  · rw [if_neg h] at h3 ⊢
    rw [h3]
    congr 1
    omega
theorem turn_nat (l : List Int) (s : Nat) (h : 0 < l.length) : turnedL l (s : Int) = l.drop (s % l.length) ++ l.take (s % l.length) := by
  unfold turnedL
  rw [if_neg (by omega)]
  have : (max 0 (s : Int)).toNat = s := by omega
  rw [this]
theorem turn_length (l : List Int) (s : Int) : (turnedL l s).length = l.length := by
  unfold turnedL
  by_cases h : l.length = 0
  · rw [if_pos h]; simp [h]
  · rw [if_neg h]
    have := Nat.mod_lt (max 0 s).toNat (show l.length > 0 by omega)
    simp
    omega
theorem turn_get (l : List Int) (s i : Nat) (hi : i < l.length) : (turnedL l (s : Int))[i]? = l[(i + s) % l.length]? := by
  have hn : 0 < l.length := by omega
  rw [turn_nat l s hn]
  have h1 := Nat.mod_lt s hn
  have h2 : (i + s) % l.length = (i + s % l.length) % l.length := by rw [Nat.add_mod_mod]
  rw [h2]
  generalize s % l.length = t at *
  by_cases h : i < l.length - t
  · rw [List.getElem?_append_left (by simpa using h), List.getElem?_drop, Nat.mod_eq_of_lt (by omega), Nat.add_comm]
  · rw [List.getElem?_append_right (by simp; omega), List.getElem?_take, List.length_drop, if_pos (by omega)]
    have h3 : (i + t) % l.length = i + t - l.length := by rw [Nat.mod_eq_sub_mod (by omega), Nat.mod_eq_of_lt (by omega)]
    rw [h3]
    congr 1
    omega
theorem turn_turn (l : List Int) (s u : Nat) : turnedL (turnedL l (s : Int)) (u : Int) = turnedL l ((s + u : Nat) : Int) := by
  apply List.ext_getElem?
  intro i
  by_cases hi : i < l.length
  · rw [turn_get _ _ _ (by rw [turn_length]; exact hi), turn_length, turn_get _ _ _ (Nat.mod_lt _ (by omega)), turn_get _ _ _ hi, Nat.mod_add_mod]
    congr 2
    omega
  · rw [List.getElem?_eq_none (by rw [turn_length, turn_length]; omega), List.getElem?_eq_none (by rw [turn_length]; omega)]
theorem turn_neg (l : List Int) (s : Nat) : turnedL l (-1 - (s : Int)) = turnedL l 0 := by
  have : (max 0 (-1 - (s : Int))).toNat = (max 0 (0 : Int)).toNat := by omega
  unfold turnedL
  rw [this]
theorem turn_whole (l : List Int) (s : Nat) : turnedL l ((s * l.length : Nat) : Int) = l := by
  by_cases h : l.length = 0
  · rw [List.eq_nil_of_length_eq_zero h]; rfl
  · rw [turn_nat _ _ (by omega), Nat.mul_mod_left]
    simp
theorem Same_self64 (a : List Int) (ha : a.length ≤ 1000000) : Ev (fun k => wayfinderkit_Same_uint64.f k a a) true := by
  unfold wayfinderkit_Same_uint64.f
  refine Ev.pos rfl ?_
  exact Ev.for_ (l := fun i k => wayfinderkit_Same_uint64.l0 k a a (i : Int)) (g := fun _ => some true) (Nat.zero_le a.length) (fun i _ hi k => by
      simp only [wayfinderkit_Same_uint64.l0]
      rw [if_pos (by omega), if_pos (by omega), if_pos (by omega), if_pos trivial, wrap_succ (by omega)])
    (fun k => by simp only [wayfinderkit_Same_uint64.l0]; rw [if_neg (by omega)]) (Ev.some_ _)
theorem Turned_is (l : List Int) (s : Int) (h : l.length ≤ 30) : train_Turned.f l s = some (turnedL l s) := by
  unfold train_Turned.f
  rw [if_pos (by omega)]
theorem TrainTurns : wayfinderlaw22_TrainTurns.Pure := by
  intro l a1 a2 _ _ _ _ _
  suffices h : Ev (fun k => wayfinderlaw22_TrainTurns.f k l a1 a2) true from Ev.rounds h
  unfold wayfinderlaw22_TrainTurns.f
  refine Ev.bindc rfl (Ev.pos rfl ?_)
  by_cases h30 : (l.length : Int) > 30
  · exact Ev.pos h30 (Ev.some_ _)
  refine Ev.neg h30 ?_
  have hl : l.length ≤ 30 := by omega
  obtain ⟨s, hs, hsk⟩ := Pick_nat a1 1000 (by omega) (by omega)
  obtain ⟨u, hu, huk⟩ := Pick_nat a2 1000 (by omega) (by omega)
  refine Ev.bindc hsk (Ev.bindc huk (Ev.bindc (a := l) ?_ (Ev.bindc (Turned_is _ _ hl) (Ev.pos (by rw [turn_length]) ?_))))
  · unfold wayfinderkit_Own_uint64.f
    simp only [Option.bind]
    rw [if_pos (by simp; omega)]
    rfl
  refine Ev.for_ (l := fun i k => wayfinderlaw22_TrainTurns.l0 k l (s : Int) (u : Int) (turnedL l s) (i : Int))
    (g := fun k => (train_Turned.f (turnedL l s) u).bind fun t120 => ((train_Turned.f l (wrap64 (s + u))).bind fun t123 => ((wayfinderkit_Same_uint64.f k t120 t123).bind fun t126 => (if t126 = true then ((train_Turned.f l (wrap64 ((-1) - s))).bind fun t127 => ((train_Turned.f l 0).bind fun t130 => ((wayfinderkit_Same_uint64.f k t127 t130).bind fun t133 => (if t133 = true then ((train_Turned.f l (wrap64 (s * (l.length : Int)))).bind fun t134 => ((wayfinderkit_Same_uint64.f k t134 l).bind fun t137 => (some t137))) else (none))))) else (none)))))
    (Nat.zero_le l.length) (fun i _ hi k => ?_) (fun k => ?_) ?_
  · simp only [wayfinderlaw22_TrainTurns.l0]
    have hm := Nat.mod_lt (i + s) (show l.length > 0 by omega)
    have e1 : wrap64 ((i : Int) + (s : Int)) = ((i + s : Nat) : Int) := by rw [← Int.natCast_add, wrap_nat (by omega)]
    have e2 : Int.tmod ((i + s : Nat) : Int) (l.length : Int) = (((i + s) % l.length : Nat) : Int) := rfl
    have e3 : rd (turnedL l (s : Int)) (i : Int) = rd l (((i + s) % l.length : Nat) : Int) := by
      rw [rd_nat, rd_nat, List.getD_eq_getElem?_getD, List.getD_eq_getElem?_getD, turn_get l s i hi]
    rw [e1, e2, if_pos (by omega), if_pos (by omega), if_pos (by rw [turn_length]; omega), if_neg (by omega), if_pos (by omega), if_pos (by omega), if_pos e3, wrap_succ (by omega)]
  · simp only [wayfinderlaw22_TrainTurns.l0]
    rw [if_neg (by omega)]
  · have e1 : wrap64 ((s : Int) + (u : Int)) = ((s + u : Nat) : Int) := by rw [← Int.natCast_add, wrap_nat (by omega)]
    have e2 : wrap64 ((-1) - (s : Int)) = -1 - (s : Int) := wrap_in (by omega) (by omega)
    have hb := Nat.mul_le_mul (show s ≤ 1000 by omega) hl
    have e3 : wrap64 ((s : Int) * (l.length : Int)) = ((s * l.length : Nat) : Int) := by rw [← Int.natCast_mul, wrap_nat (by omega)]
    rw [e1, e2, e3]
    refine Ev.bindc (Turned_is _ _ (by rw [turn_length]; exact hl)) (Ev.bindc (Turned_is _ _ hl) ?_)
    rw [turn_turn]
    refine Ev.bind (Same_self64 _ (by rw [turn_length]; omega)) (Ev.pos rfl (Ev.bindc (Turned_is _ _ hl) (Ev.bindc (Turned_is _ _ hl) ?_)))
    rw [turn_neg]
    refine Ev.bind (Same_self64 _ (by rw [turn_length]; omega)) (Ev.pos rfl (Ev.bindc (Turned_is _ _ hl) ?_))
    rw [turn_whole]
    exact Ev.bind (Same_self64 _ (by omega)) (Ev.some_ _)
end Go.Proofs.Yteickelddnhdiaa.Pure
