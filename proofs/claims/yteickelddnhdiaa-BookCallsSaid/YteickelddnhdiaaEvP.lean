/- Plain laws on loops that are told by rounds. -/
import Derived.Test.YteickelddnhdiaaWWords
namespace Go.Proofs.Yteickelddnhdiaa.G
open Go Go.RowKit Go.Proofs.YteickelddnhdiaaW.PrintWords
set_option linter.unusedVariables false

theorem wrap_nat {n : Nat} (h : n ≤ 9223372036854775807) : wrap64 (n : Int) = (n : Int) := by unfold wrap64; omega
theorem wrap_succ {i : Nat} (h : i < 9223372036854775807) : wrap64 ((i : Int) + 1) = ((i + 1 : Nat) : Int) := by unfold wrap64; omega
theorem wrap_in {x : Int} (h0 : -9223372036854775808 ≤ x) (h1 : x ≤ 9223372036854775807) : wrap64 x = x := by unfold wrap64; omega
theorem wrapu_in {x : Int} (h0 : 0 ≤ x) (h1 : x ≤ 18446744073709551615) : IntKind.u64.wrap x = x := by rw [IntKind.wrap_u64]; omega
/-- What answers at once. -/
theorem Ev.some_ {α : Type} (r : α) : Ev (fun _ : Nat => some r) r := Ev.now r
/-- One that has no rounds of its own. -/
theorem Ev.const {α : Type} {x : Option α} {r : α} (h : x = some r) : Ev (fun _ : Nat => x) r := ⟨0, fun _ _ => h⟩
theorem Ev.bindc {α β : Type} {x : Option α} {f : Nat → α → Option β} {a : α} {r : β} (h : x = some a) (k : Ev (fun n => f n a) r) : Ev (fun n => x.bind (f n)) r := Ev.bind (g := fun _ => x) (Ev.const h) k
theorem Ev.pos {α : Type} {p : Prop} [Decidable p] {f g : Nat → Option α} {r : α} (h : p) (k : Ev f r) : Ev (fun n => if p then f n else g n) r := Ev.congr (fun _ => if_pos h) k
theorem Ev.neg {α : Type} {p : Prop} [Decidable p] {f g : Nat → Option α} {r : α} (h : ¬ p) (k : Ev g r) : Ev (fun n => if p then f n else g n) r := Ev.congr (fun _ => if_neg h) k
/-- A loop that counts from a to n, its state told in closed form. -/
theorem Ev.for_ {ρ : Type} {l : Nat → Nat → Option ρ} {g : Nat → Option ρ} {r : ρ} {a n : Nat} (ha : a ≤ n) (h : ∀ i, a ≤ i → i < n → ∀ k, l i (k + 1) = l (i + 1) k) (he : ∀ k, l n (k + 1) = g k) (hg : Ev g r) : Ev (l a) r := by
  obtain ⟨d, rfl⟩ : ∃ d, n = a + d := ⟨n - a, by omega⟩
  clear ha
  induction d generalizing a with
  | zero => exact Ev.step he hg
  | succ d ih =>
    refine Ev.step (h a (Nat.le_refl _) (by omega)) ?_
    refine ih (a := a + 1) (fun i h1 h2 k => h i (by omega) (by omega) k) (fun k => ?_)
    rw [show a + 1 + d = a + (d + 1) by omega]
    exact he k
/-- .. each round of which takes rounds. -/
theorem Ev.forE {ρ : Type} {l : Nat → Nat → Option ρ} {r : ρ} {a n : Nat} (ha : a ≤ n) (h : ∀ i, a ≤ i → i < n → Ev (l (i + 1)) r → Ev (l i) r) (he : Ev (l n) r) : Ev (l a) r := by
  obtain ⟨d, rfl⟩ : ∃ d, n = a + d := ⟨n - a, by omega⟩
  clear ha
  induction d generalizing a with
  | zero => exact he
  | succ d ih =>
    refine h a (Nat.le_refl _) (by omega) ?_
    refine ih (a := a + 1) (fun i h1 h2 k => h i (by omega) (by omega) k) ?_
    rw [show a + 1 + d = a + (d + 1) by omega]
    exact he
/-- The least one. -/
theorem least {p : Nat → Prop} (h : ∃ n, p n) : ∃ n, p n ∧ ∀ i, i < n → ¬ p i := by
  obtain ⟨n, hn⟩ := h
  induction n using Nat.strongRecOn with
  | _ n ih =>
    by_cases hx : ∃ i, i < n ∧ p i
    · obtain ⟨i, hi, hp⟩ := hx
      exact ih i hi hp
    · exact ⟨n, hn, fun i hi hp => hx ⟨i, hi, hp⟩⟩
theorem rd_nat {l : List Int} {i : Nat} : rd l (i : Int) = l.getD i 0 := by simp [rd]
theorem rd_get {l : List Int} {i : Nat} (h : i < l.length) : rd l (i : Int) = l[i] := by simp [rd, h]
theorem wf_i64 {x : Int} (h : (Lit.int .i64 x).wf = true) : -9223372036854775808 ≤ x ∧ x ≤ 9223372036854775807 := by
  have e1 : IntKind.i64.min = -9223372036854775808 := by decide
  have e2 : IntKind.i64.max = 9223372036854775807 := by decide
  simp [Lit.wf, e1, e2] at h
  omega
theorem wf_u8 {x : Int} (h : (Lit.int .u8 x).wf = true) : 0 ≤ x ∧ x ≤ 255 := by
  have e1 : IntKind.u8.min = 0 := by decide
  have e2 : IntKind.u8.max = 255 := by decide
  simp [Lit.wf, e1, e2] at h
  omega

end Go.Proofs.Yteickelddnhdiaa.G
