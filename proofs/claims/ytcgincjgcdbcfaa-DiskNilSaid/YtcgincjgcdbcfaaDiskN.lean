/- done, of a disk that was not made. -/
import Derived.Test.YtcgincjgcdbcfaaDiskM
import Derived.Test.YtcgincjgcdbcfaaDkx7
import Derived.Test.YtcgincjgcdbcfaaEvP
import Derived.Deep.RegionWith
namespace Go.Proofs.Ytcgincjgcdbcfaa.G
open Go.RowKit Go.Proofs.Ytcgincjgcdbcfaa.Dk Go.Proofs.YtcgincjgcdbcfaaW.PrintWords
set_option linter.unusedVariables false
set_option linter.unusedSimpArgs false
theorem OpaqueSl.mono {w w' : World} {v : Value} (h : OpaqueSl w v) (hs : w.heap.size ≤ w'.heap.size) : OpaqueSl w' v := by
  rcases h with h | ⟨g, o, len, cap, h1, h2, h3⟩
  · exact .inl h
  · exact .inr ⟨g, o, len, cap, h1, h2, Nat.lt_of_lt_of_le h3 hs⟩
theorem OpaqueSl.of_own {w : World} {base : Nat} {e : TypeId} {sz n : Nat} {v : Value} {xs : List Value} (h : w.ownsRow base e sz v n xs) : OpaqueSl w v := by
  rcases h.2 with ⟨h1, _⟩ | ⟨g, cap, cur, h1, _, h2, h3, _⟩
  · exact .inl h1
  · exact .inr ⟨g, 0, n, cap, h1, h3, (Array.getElem?_eq_some_iff.1 h2).1⟩
theorem Pick_ex (a m : Int) (h1 : 1 ≤ m) (h2 : m ≤ 100) : wayfinderkit_Pick.f a m = some (a % m) := by
  have h3 := tmod_pick (a := a) (m := m) (by omega)
  have h4 := Int.emod_nonneg a (show m ≠ 0 by omega)
  have h5 := Int.emod_lt_of_pos a (show 0 < m by omega)
  unfold wayfinderkit_Pick.f
  rw [if_neg (by omega), if_neg (by omega)]
  by_cases h : Int.tmod a m < 0
  · rw [if_pos h] at h3 ⊢
    rw [wrap_in (by omega) (by omega), h3]
  · rw [if_neg h] at h3 ⊢
    rw [h3]
theorem name_c (a : Int) : ∃ r, ∀ w, Calls Try.prog 37 #[.int .i64 a] w fun e w' => e = .returned (.string r) ∧ Below w.heap.size w w' := by
  have h4 := Int.emod_nonneg a (show (9 : Int) ≠ 0 by omega)
  have h5 := Int.emod_lt_of_pos a (show (0 : Int) < 9 by omega)
  have : ∃ r, wayfinderlaw06_name.f a = some r := by
    unfold wayfinderlaw06_name.f
    rw [Pick_ex a 9 (by omega) (by omega)]
    simp only [Option.bind]
    rw [if_pos h4, if_pos (by simpa using h5)]
    exact ⟨_, rfl⟩
  obtain ⟨r, hr⟩ := this
  exact ⟨r, fun w => wayfinderlaw06_name.calls a r w hr⟩
theorem Own_b (A : Option Addr) (c : Nat) (l : List Int) (w : World) (hr : Kd.C (Kd.int .u8) w A l.length l) (hc : l.length ≤ c) (hl : l.length ≤ 120) :
    Calls Try.prog 56 #[.slice A l.length c] w fun e w' => ∃ v, e = .returned v ∧ OpaqueSl w' v ∧ Below w.heap.size w w' := by
  refine (wayfinderkit_Own_byte.calls A c l l w hr hc (by unfold wayfinderkit_Own_byte.f; simp only [Option.bind]; rw [if_pos (by simp; omega)]; rfl)).mono ?_
  rintro e w' ⟨v, rfl, ho, hb⟩
  obtain ⟨_, hown⟩ := Kd.R_own ho
  exact ⟨v, rfl, .of_own hown, hb⟩
theorem Own_i (A : Option Addr) (c : Nat) (l : List Int) (w : World) (hr : Kd.C (Kd.int .i64) w A l.length l) (hc : l.length ≤ c) (hl : l.length ≤ 120) :
    Calls Try.prog 43 #[.slice A l.length c] w fun e w' => ∃ v, e = .returned v ∧ OpaqueSl w' v ∧ Below w.heap.size w w' := by
  refine (wayfinderkit_Own_int.calls A c l l w hr hc (by unfold wayfinderkit_Own_int.f; simp only [Option.bind]; rw [if_pos (by simp; omega)]; rfl)).mono ?_
  rintro e w' ⟨v, rfl, ho, hb⟩
  obtain ⟨_, hown⟩ := Kd.R_own ho
  exact ⟨v, rfl, .of_own hown, hb⟩
end Go.Proofs.Ytcgincjgcdbcfaa.G
