/- Books, plainly: light, a book that may be, Dim (the part of BookP and BookQ that wants no reference; where BookQ itself is wanted, this text is a mere import of it). -/
import Derived.Test.YteickelddnhdiaaEvP
import Derived.Test.YteickelddnhdiaaBkx2
namespace Go.Proofs.Yteickelddnhdiaa.Bk
open Go.RowKit Go.Proofs.YteickelddnhdiaaW.PrintWords Go.Proofs.YteickelddnhdiaaW.PrintLast Go.Proofs.Yteickelddnhdiaa.G
set_option linter.unusedVariables false

theorem wideOk_mem {a : List Int} (h : checkWide a = 0) : 1 ≤ a.length ∧ a.length ≤ 1024 ∧ ∀ x ∈ a, -131072 ≤ x ∧ x ≤ 131072 := by
  obtain ⟨h1, h2, h3⟩ := wide_of h
  refine ⟨h1, h2, fun x hx => ?_⟩
  obtain ⟨i, hi, rfl⟩ := List.getElem_of_mem hx
  have := h3 i hi
  rw [List.getD_eq_getElem?_getD, List.getElem?_eq_getElem hi] at this
  exact this
theorem checkWide_of {a : List Int} (h1 : 1 ≤ a.length) (h2 : a.length ≤ 1024) (h3 : ∀ x ∈ a, -131072 ≤ x ∧ x ≤ 131072) : checkWide a = 0 := by
  unfold checkWide
  rw [if_neg (by omega), if_neg]
  simp only [List.any_eq_true, not_exists, not_and]
  intro x hx
  have := h3 x hx
  simp only [beyond, Bool.or_eq_true, decide_eq_true_eq]
  omega
theorem down {ρ : Type} {l : Nat → Nat → Option ρ} {n : Nat} (he : ∃ r, Ev (l n) r) (h : ∀ i, i < n → (∃ r, Ev (l (i + 1)) r) → ∃ r, Ev (l i) r) : ∀ i, i ≤ n → ∃ r, Ev (l i) r := by
  intro i hi
  obtain ⟨d, rfl⟩ : ∃ d, n = i + d := ⟨n - i, by omega⟩
  clear hi
  induction d generalizing i with
  | zero => exact he
  | succ d ih => exact h i (by omega) (ih (i + 1) (by rw [show i + 1 + d = i + (d + 1) by omega]; exact he) (fun j hj => h j (by omega)))
theorem Light_ev (l : List (List Int)) (m : Int) : ∃ r, Ev (fun k => wayfinderkit_Light_int32.f k l 260 m) r := by
  unfold wayfinderkit_Light_int32.f
  by_cases h1 : (l.length : Int) > 260
  · exact ⟨false, Ev.pos h1 (Ev.some_ _)⟩
  · obtain ⟨r, hr⟩ := down (l := fun i k => wayfinderkit_Light_int32.l0 k l m (i : Int)) (n := l.length) ⟨true, Ev.step (f := fun _ => some true) (fun k => by simp only [wayfinderkit_Light_int32.l0]; rw [if_neg (by omega)]) (Ev.some_ _)⟩ (fun i hi ⟨r, hr⟩ => by
      by_cases h2 : ((rd_L2 l (i : Int)).length : Int) > m
      · exact ⟨false, Ev.step (f := fun _ => some false) (fun k => by simp only [wayfinderkit_Light_int32.l0]; rw [if_pos (by omega), if_pos (by omega), if_pos h2]) (Ev.some_ _)⟩
      · exact ⟨r, Ev.step (fun k => by simp only [wayfinderkit_Light_int32.l0]; rw [if_pos (by omega), if_pos (by omega), if_neg h2, wrap_succ (by omega)]) hr⟩) 0 (Nat.zero_le _)
    exact ⟨r, Ev.neg h1 hr⟩
theorem light_ev (b : List (List (List Int))) : ∃ r, Ev (fun k => wayfinderlaw15_light.f k b) r := by
  unfold wayfinderlaw15_light.f
  suffices h : ∃ r, Ev (fun k => wayfinderkit_LightBook.f k b 30 260 60) r by
    obtain ⟨r, hr⟩ := h
    exact ⟨r, Ev.bind hr (Ev.some_ _)⟩
  unfold wayfinderkit_LightBook.f
  by_cases h1 : (b.length : Int) > 30
  · exact ⟨false, Ev.pos h1 (Ev.some_ _)⟩
  · obtain ⟨r, hr⟩ := down (l := fun i k => wayfinderkit_LightBook.l0 k 260 60 (i : Int) b) (n := b.length) ⟨true, Ev.step (f := fun _ => some true) (fun k => by simp only [wayfinderkit_LightBook.l0]; rw [if_neg (by omega)]) (Ev.some_ _)⟩ (fun i hi ⟨r, hr⟩ => by
      obtain ⟨q, hq⟩ := Light_ev (rd_L3 b (i : Int)) 60
      have hs : ∀ k, wayfinderkit_LightBook.l0 (k + 1) 260 60 (i : Int) b = (wayfinderkit_Light_int32.f k (rd_L3 b (i : Int)) 260 60).bind fun t => if t = true then wayfinderkit_LightBook.l0 k 260 60 ((i + 1 : Nat) : Int) b else some false := fun k => by
        simp only [wayfinderkit_LightBook.l0]
        rw [if_pos (by omega), if_pos (by omega), wrap_succ (by omega)]
      cases q with
      | true => exact ⟨r, Ev.step hs (Ev.bind hq (Ev.pos rfl hr))⟩
      | false => exact ⟨false, Ev.step hs (Ev.bind hq (Ev.neg (by decide) (Ev.some_ _)))⟩) 0 (Nat.zero_le _)
    exact ⟨r, Ev.neg h1 hr⟩
/-- A book of n words in each part, m numbers each. -/
structure BookOK (b : List (List (List Int))) (n m : Nat) : Prop where
  p1 : 1 ≤ b.length
  n1 : 1 ≤ n
  n2 : n ≤ 256
  m1 : 1 ≤ m
  most : m * b.length ≤ 1024
  parts : ∀ l ∈ b, l.length = n
  words : ∀ l ∈ b, ∀ v ∈ l, v.length = m ∧ checkWide v = 0
theorem bookE_ok {b : List (List (List Int))} (h : bookE b = 0) : ∃ n m, BookOK b n m := by
  unfold bookE at h
  split at h
  · cases h
  split at h
  · cases h
  rename_i h1 h2
  rw [Bool.not_eq_false] at h1
  simp only [shapedL, Bool.not_eq_true', Bool.or_eq_false_iff, decide_eq_false_iff_not] at h1
  obtain ⟨⟨⟨⟨⟨⟨⟨a1, a2⟩, a3⟩, a4⟩, a5⟩, a6⟩, a7⟩, a8⟩ := h1
  rw [List.any_eq_false] at a8
  simp only [List.any_eq_true, not_exists, not_and] at h2
  have hodd : ∀ l ∈ b, l.length = (b.getD 0 []).length ∧ ∀ v ∈ l, v.length = ((b.getD 0 []).getD 0 []).length := fun l hl => by
    have h := a8 l hl
    rw [Bool.not_eq_true] at h
    simp only [odd, Bool.or_eq_false_iff] at h
    obtain ⟨h3, h4⟩ := h
    rw [List.any_eq_false] at h4
    refine ⟨?_, fun v hv => ?_⟩
    · have := bne_eq_false_iff_eq.1 h3
      omega
    · have h5 := h4 v hv
      rw [Bool.not_eq_true] at h5
      have := bne_eq_false_iff_eq.1 h5
      omega
  refine ⟨(b.getD 0 []).length, ((b.getD 0 []).getD 0 []).length, ?_⟩
  generalize (b.getD 0 []).getD 0 [] = w0 at *
  generalize b.getD 0 [] = l0 at *
  exact ⟨by omega, by omega, by omega, by omega, by omega, fun l hl => (hodd l hl).1, fun l hl v hv => ⟨(hodd l hl).2 v hv, by
    have := h2 l hl v hv
    simpa using this⟩⟩
section
variable {b : List (List (List Int))} {n m : Nat}
theorem getD_mem {α : Type} {l : List α} {i : Nat} {z : α} (h : i < l.length) : l.getD i z ∈ l := by
  rw [List.getD_eq_getElem?_getD, List.getElem?_eq_getElem h]
  exact List.getElem_mem h
theorem BookOK.word (hb : BookOK b n m) {i c : Nat} (hi : i < b.length) (hc : c < n) : ((b.getD i []).getD c []).length = m ∧ checkWide ((b.getD i []).getD c []) = 0 :=
  hb.words _ (getD_mem hi) _ (getD_mem (by rw [hb.parts _ (getD_mem hi)]; exact hc))
theorem dim_is (hb : BookOK b n m) (h : bookE b = 0) : book_Dim.f b = some ((m * b.length : Nat) : Int) := by
  have h1 := hb.p1
  have h0 : (b.getD 0 []).length = n := hb.parts _ (getD_mem (by omega))
  have h2 := (hb.word (i := 0) (c := 0) (by omega) hb.n1).1
  have h3 := hb.most
  have h4 := hb.n1
  have e1 : rd_L3 b 0 = b.getD 0 [] := rfl
  have e2 : rd_L2 (rd_L3 b 0) 0 = (b.getD 0 []).getD 0 [] := rfl
  simp only [book_Dim.f, book_Check.f, h, Option.bind, if_true]
  rw [if_pos (by omega), e2, e1, h0, if_pos (by omega), h2]
  have e3 : (b.length : Int) * (m : Int) = ((m * b.length : Nat) : Int) := by rw [Int.natCast_mul, Int.mul_comm]
  rw [e3, wrap_nat (by omega)]
end
end Go.Proofs.Yteickelddnhdiaa.Bk
