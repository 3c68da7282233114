/- Contracts of the package vec's inner functions. -/
import Derived.Test.YtcgpkfpfpjclkaaBase
namespace Go.Proofs.Ytcgpkfpfpjclkaa.G
open Go.RowKit Go.Shelf Go.Proofs.YtcgpkfpfpjclkaaW.PrintWords
set_option linter.unusedVariables false
set_option linter.unusedSimpArgs false

/-- Where the first one is of which p holds; or -1. -/
def firstIdx (p : Nat → Bool) (n : Nat) : Int := match (List.range n).find? p with | some i => (i : Int) | none => -1
theorem firstIdx_hit {p : Nat → Bool} {n k : Nat} (hk : k < n) (hp : p k = true) (hn : ∀ j, j < k → p j = false) : firstIdx p n = (k : Int) := by
  have : (List.range n).find? p = some k := by
    rw [List.find?_range_eq_some]
    exact ⟨hp, by simpa using hk, fun j hj => by simp [hn j hj]⟩
  simp [firstIdx, this]
theorem firstIdx_miss {p : Nat → Bool} {n : Nat} (hn : ∀ j, j < n → p j = false) : firstIdx p n = -1 := by
  have : (List.range n).find? p = none := by
    rw [List.find?_range_eq_none]
    exact fun j hj => by simp [hn j hj]
  simp [firstIdx, this]
def anyIdx (p : Nat → Bool) (n : Nat) : Bool := (List.range n).any p
theorem firstIdx_ge (p : Nat → Bool) (n : Nat) : decide (0 ≤ firstIdx p n) = anyIdx p n := by
  unfold firstIdx anyIdx
  cases h : (List.range n).find? p with
  | none => rw [List.find?_eq_none] at h; simp; simpa using h
  | some i => have h2 := List.find?_some h; have := List.mem_of_find?_eq_some h; simp; exact ⟨i, by simpa using this, h2⟩

/-- A call of a function value at the elements of a row: element j's answer is p j. -/
def PredAtRow (g : Nat) (lb : Array Value) (vs : Nat → Value) (p : Nat → Bool) (n : Nat) (w : World) : Prop :=
  ∀ j, j < n → ∀ W, Below w.heap.size w W → Calls Try.prog g (#[vs j] ++ lb) W fun e W' => e = .returned (.bool (p j)) ∧ Below w.heap.size w W'

theorem IndexFunc_i32 (A0 : Option Addr) (n c0 : Nat) (g : Nat) (lb : Array Value) (vs : Nat → Value) (p : Nat → Bool) (w : World) (eg : Enters Try.prog g)
    (hn : n ≤ 9223372036854775807) (hc : ∀ j, j < n → ∃ ad, A0 = some ad ∧ w.cell? (ad.add j) = some (vs j)) (hp : PredAtRow g lb vs p n w) :
    Calls Try.prog 56 #[.slice A0 n c0, .func (.func g) #[] lb] w fun e w' => e = .returned (.int .i64 (firstIdx p n)) ∧ Below w.heap.size w w' := by
  have HC := Aside0.mk hc
  have HP := Aside0.mk hp
  clear hc hp
  unfold Enters at eg
  go_enter Try.func56, Try.ntmps56
  go_wp2
  go_loopw [5, 8] (fun _ v wr => ∃ k : Nat, k ≤ n ∧ v = .int .i64 k ∧ Aside0 (∀ i, i < k → p i = false) ∧ Aside0 (Below w.heap.size w wr)) (fun _ v _ => n - (intOf v).toNat)
  case atStart => exact ⟨0, Nat.zero_le _, rfl, ⟨fun _ h => absurd h (Nat.not_lt_zero _)⟩, ⟨Below.refl _ _⟩⟩
  case round =>
    obtain ⟨k, hk, rfl, hno, HB⟩ := hrel
    by_cases hlt : k < n
    · obtain ⟨ad, rfl, hx⟩ := HC.out k hlt
      have hcall := HP.out k hlt wr HB.out
      have hx := pw_cell_below HB.out hx
      generalize vs k = v at hx hcall
      cases hq : p k
      · rw [hq] at hcall
        go_wp2_with (go_at_fn g; refine hcall.mono ?_; rintro e w' ⟨rfl, hb'⟩; have HB' := Aside0.mk hb'; clear hb')
        go_roundw
        case rel => exact ⟨k + 1, by omega, by go_num, ⟨fun i hi => by rcases Nat.lt_succ_iff_lt_or_eq.1 hi with h | rfl; exact hno.out i h; exact hq⟩, HB'⟩
        case measure => simp [intOf]; omega
      · rw [hq] at hcall
        go_wp2_with (go_at_fn g; refine hcall.mono ?_; rintro e w' ⟨rfl, hb'⟩; have HB' := Aside0.mk hb'; clear hb')
        go_ret
        exact ⟨by rw [firstIdx_hit hlt hq hno.out]; rfl, HB'.out⟩
    · obtain rfl : k = n := by omega
      go_wp2
      go_ret
      exact ⟨by rw [firstIdx_miss hno.out]; rfl, HB.out⟩

end Go.Proofs.Ytcgpkfpfpjclkaa.G
