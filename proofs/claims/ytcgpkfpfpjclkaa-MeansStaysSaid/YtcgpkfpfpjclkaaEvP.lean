/- Plain laws on loops that are told by rounds. -/
import Derived.Test.YtcgpkfpfpjclkaaWWords
namespace Go.Proofs.Ytcgpkfpfpjclkaa.G
open Go Go.RowKit Go.Proofs.YtcgpkfpfpjclkaaW.PrintWords
set_option linter.unusedVariables false

theorem wrap_nat {n : Nat} (h : n ≤ 9223372036854775807) : wrap64 (n : Int) = (n : Int) := by unfold wrap64; omega
theorem wrap_succ {i : Nat} (h : i < 9223372036854775807) : wrap64 ((i : Int) + 1) = ((i + 1 : Nat) : Int) := by unfold wrap64; omega
theorem wrap_in {x : Int} (h0 : -9223372036854775808 ≤ x) (h1 : x ≤ 9223372036854775807) : wrap64 x = x := by unfold wrap64; omega
theorem wrapu_in {x : Int} (h0 : 0 ≤ x) (h1 : x ≤ 18446744073709551615) : IntKind.u64.wrap x = x := by rw [IntKind.wrap_u64]; omega
/-- What answers at once. -/
theorem Ev.some_ {α : Type} (r : α) : Ev (fun _ : Nat => some r) r := Ev.now r
/-- One that has no rounds of its own. -/
theorem Ev.const {α : Type} {x : Option α} {r : α} (h : x = some r) : Ev (fun _ : Nat => x) r := ⟨0, fun _ _ => h⟩
theorem Ev.bindc {α β : Type} {x : Option α} {f : Nat → α → Option β} {a : α} {r : β} (h : x = some a) (k : Ev (fun n => f n a) r) : Ev (fun n => x.bind (f n)) r := Ev.bind (g := fun _ => x) (Ev.const h) k
theorem Ev.pos {α : Type} {p : Prop} [Decidable p] {f g : Nat → Option α} {r : α} (h : p) (k : Ev f r) : Ev (fun n => if p then f n else g n) r := Ev.congr (fun _ => if_pos h) k
theorem Ev.neg {α : Type} {p : Prop} [Decidable p] {f g : Nat → Option α} {r : α} (h : ¬ p) (k : Ev g r) : Ev (fun n => if p then f n else g n) r := Ev.congr (fun _ => if_neg h) k
/-- A loop that counts from a to n, its state told in closed form. -/
theorem Ev.for_ {ρ : Type} {l : Nat → Nat → Option ρ} {g : Nat → Option ρ} {r : ρ} {a n : Nat} (ha : a ≤ n) (h : ∀ i, a ≤ i → i < n → ∀ k, l i (k + 1) = l (i + 1) k) (he : ∀ k, l n (k + 1) = g k) (hg : Ev g r) : Ev (l a) r := by
  obtain ⟨d, rfl⟩ : ∃ d, n = a + d := ⟨n - a, by omega⟩
  clear ha
  induction d generalizing a with
  | zero => exact Ev.step he hg
  | succ d ih =>
    refine Ev.step (h a (Nat.le_refl _) (by omega)) ?_
    refine ih (a := a + 1) (fun i h1 h2 k => h i (by omega) (by omega) k) (fun k => ?_)
    rw [show a + 1 + d = a + (d + 1) by omega]
    exact he k
/-- .. each round of which takes rounds. -/
theorem Ev.forE {ρ : Type} {l : Nat → Nat → Option ρ} {r : ρ} {a n : Nat} (ha : a ≤ n) (h : ∀ i, a ≤ i → i < n → Ev (l (i + 1)) r → Ev (l i) r) (he : Ev (l n) r) : Ev (l a) r := by
  obtain ⟨d, rfl⟩ : ∃ d, n = a + d := ⟨n - a, by omega⟩
  clear ha
  induction d generalizing a with
  | zero => exact he
  | succ d ih =>
    refine h a (Nat.le_refl _) (by omega) ?_
    refine ih (a := a + 1) (fun i h1 h2 k => h i (by omega) (by omega) k) ?_
    rw [show a + 1 + d = a + (d + 1) by omega]
    exact he
/-- The least one. -/
theorem least {p : Nat → Prop} (h : ∃ n, p n) : ∃ n, p n ∧ ∀ i, i < n → ¬ p i := by
  obtain ⟨n, hn⟩ := h
  induction n using Nat.strongRecOn with
  | _ n ih =>
    by_cases hx : ∃ i, i < n ∧ p i
    · obtain ⟨i, hi, hp⟩ := hx
      exact ih i hi hp
    · exact ⟨n, hn, fun i hi hp => hx ⟨i, hi, hp⟩⟩
theorem rd_nat {l : List Int} {i : Nat} : rd l (i : Int) = l.getD i 0 := by simp [rd]
theorem rd_get {l : List Int} {i : Nat} (h : i < l.length) : rd l (i : Int) = l[i] := by simp [rd, h]
/-- n modulo m, from 0 on, as the kit has it. -/
theorem tmod_pick {a m : Int} (hm : 0 < m) : (if Int.tmod a m < 0 then Int.tmod a m + m else Int.tmod a m) = a % m := by
  have h1 := Int.emod_nonneg a (show m ≠ 0 by omega)
  have h2 := Int.emod_lt_of_pos a hm
  rcases Int.le_total 0 a with h | h
  · rw [Int.tmod_eq_emod_of_nonneg h, if_neg (by omega)]
  · by_cases h0 : a % m = 0
    · have hd : m ∣ a := Int.dvd_of_emod_eq_zero h0
      rw [Int.tmod_eq_zero_of_dvd hd, if_neg (by omega), h0]
    · have : Int.tmod a m = a % m - m := by
        rw [Int.tmod_eq_emod]
        rw [if_neg (by
          rintro (h3 | h3)
          · exact absurd (show a = 0 by omega) (by rintro rfl; simp at h0)
          · exact h0 (Int.emod_eq_zero_of_dvd h3)), Int.natAbs_of_nonneg (by omega)]
      rw [this, if_pos (by omega)]
      omega
theorem wf_i64 {x : Int} (h : (Lit.int .i64 x).wf = true) : -9223372036854775808 ≤ x ∧ x ≤ 9223372036854775807 := by
  have e1 : IntKind.i64.min = -9223372036854775808 := by decide
  have e2 : IntKind.i64.max = 9223372036854775807 := by decide
  simp [Lit.wf, e1, e2] at h
  omega
theorem wf_u64 {x : Int} (h : (Lit.int .u64 x).wf = true) : 0 ≤ x ∧ x ≤ 18446744073709551615 := by
  have e1 : IntKind.u64.min = 0 := by decide
  have e2 : IntKind.u64.max = 18446744073709551615 := by decide
  simp [Lit.wf, e1, e2] at h
  omega
theorem wf_i32 {x : Int} (h : (Lit.int .i32 x).wf = true) : -2147483648 ≤ x ∧ x ≤ 2147483647 := by
  have e1 : IntKind.i32.min = -2147483648 := by decide
  have e2 : IntKind.i32.max = 2147483647 := by decide
  simp [Lit.wf, e1, e2] at h
  omega
theorem wf_u8 {x : Int} (h : (Lit.int .u8 x).wf = true) : 0 ≤ x ∧ x ≤ 255 := by
  have e1 : IntKind.u8.min = 0 := by decide
  have e2 : IntKind.u8.max = 255 := by decide
  simp [Lit.wf, e1, e2] at h
  omega

/-- The first i numbers are the new ones (a), the others the elder ones (b). -/
def mixL {α : Type} (a b : List α) (i : Nat) : List α := a.take i ++ b.drop i
theorem mixL_get {α : Type} {a b : List α} {i : Nat} (h : a.length = b.length) (hi : i ≤ b.length) (j : Nat) : (mixL a b i)[j]? = if j < i then a[j]? else b[j]? := by
  have hl : (a.take i).length = i := by rw [List.length_take]; omega
  unfold mixL
  rw [List.getElem?_append, hl]
  split
  · rw [List.getElem?_take_of_lt (by assumption)]
  · rw [List.getElem?_drop]
    congr 1
    omega
theorem mixL_length {α : Type} {a b : List α} {i : Nat} (h : a.length = b.length) (hi : i ≤ b.length) : (mixL a b i).length = b.length := by simp [mixL]; omega
theorem mixL_set {α : Type} {a b : List α} {i : Nat} (h : a.length = b.length) (hi : i < b.length) : (mixL a b i).set i (a[i]'(by omega)) = mixL a b (i + 1) := by
  apply List.ext_getElem?
  intro j
  rw [List.getElem?_set, mixL_get h (by omega), mixL_get h (by omega), mixL_length h (by omega)]
  by_cases hj : i = j
  · subst hj
    rw [if_pos rfl, if_pos hi, if_pos (by omega), List.getElem?_eq_getElem (by omega)]
  · rw [if_neg hj]
    by_cases h1 : j < i
    · rw [if_pos h1, if_pos (by omega)]
    · rw [if_neg h1, if_neg (by omega)]
theorem mixL_at {a b : List Int} {i : Nat} (h : a.length = b.length) (hi : i < b.length) : rd (mixL a b i) (i : Int) = b[i] := by
  have h1 := mixL_get h (show i ≤ b.length by omega) i
  rw [if_neg (by omega), List.getElem?_eq_getElem hi] at h1
  rw [rd_nat, List.getD_eq_getElem?_getD, h1]
  rfl
theorem mixL_all {α : Type} {a b : List α} (h : a.length = b.length) : mixL a b b.length = a := by simp [mixL, ← h]

end Go.Proofs.Ytcgpkfpfpjclkaa.G
