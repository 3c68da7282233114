/- Books, plainly: Encode, Decode, Loss of a book that may be. -/
import Derived.Test.YteickelddnhdiaaEvP
import Derived.Test.YteickelddnhdiaaBkx8
import Derived.Test.YteickelddnhdiaaBkx10
namespace Go.Proofs.Yteickelddnhdiaa.Bk
open Go.RowKit Go.Proofs.YteickelddnhdiaaW.PrintWords Go.Proofs.YteickelddnhdiaaW.PrintLast Go.Proofs.Yteickelddnhdiaa.G
set_option linter.unusedVariables false

theorem wideOk_mem {a : List Int} (h : checkWide a = 0) : 1 ≤ a.length ∧ a.length ≤ 1024 ∧ ∀ x ∈ a, -131072 ≤ x ∧ x ≤ 131072 := by
  obtain ⟨h1, h2, h3⟩ := wide_of h
  refine ⟨h1, h2, fun x hx => ?_⟩
  obtain ⟨i, hi, rfl⟩ := List.getElem_of_mem hx
  have := h3 i hi
  rw [List.getD_eq_getElem?_getD, List.getElem?_eq_getElem hi] at this
  exact this
theorem checkWide_of {a : List Int} (h1 : 1 ≤ a.length) (h2 : a.length ≤ 1024) (h3 : ∀ x ∈ a, -131072 ≤ x ∧ x ≤ 131072) : checkWide a = 0 := by
  unfold checkWide
  rw [if_neg (by omega), if_neg]
  simp only [List.any_eq_true, not_exists, not_and]
  intro x hx
  have := h3 x hx
  simp only [beyond, Bool.or_eq_true, decide_eq_true_eq]
  omega
/-- One step of the sum, as the reference has it. -/
theorem dist_step {a b : List Int} (ha : ∀ j, j < a.length → wideOk (a.getD j 0)) (hb : ∀ j, j < a.length → wideOk (b.getD j 0)) (hn : a.length ≤ 1024) {i : Nat} (h1 : i < a.length) :
    wrap64 (distTo a b i + wrap64 (wrap64 (wrap64 (rd a (i : Int)) - wrap64 (rd b (i : Int))) * wrap64 (wrap64 (rd a (i : Int)) - wrap64 (rd b (i : Int))))) = distTo a b (i + 1) := by
  have r1 := ha i h1
  have r2 := hb i h1
  have s := sq_bound r1 r2
  have t := distTo_bound ha hb i (by omega)
  simp only [rd_nat, distTo]
  unfold wideOk at r1 r2
  have e : (a.getD i 0 - b.getD i 0) * (a.getD i 0 - b.getD i 0) = sq (a.getD i 0) (b.getD i 0) := rfl
  rw [wrap_in (x := a.getD i 0) (by omega) (by omega), wrap_in (x := b.getD i 0) (by omega) (by omega), wrap_in (x := a.getD i 0 - b.getD i 0) (by omega) (by omega), e]
  generalize sq (a.getD i 0) (b.getD i 0) = q at *
  generalize distTo a b i = d at *
  rw [wrap_in (x := q) (by omega) (by omega), wrap_in (by omega) (by omega)]
theorem rCheckWide_is (a : List Int) (hm : a.length ≤ 140737488351232) : Ev (fun k => wayfinderref03_CheckWide.f k a) (checkWide a) := by
  unfold wayfinderref03_CheckWide.f checkWide
  by_cases h1 : a.length < 1
  · rw [if_pos (.inl h1)]
    exact Ev.pos (by omega) (Ev.step (f := fun _ => some 2) (fun k => by simp only [wayfinderref03_CheckWide.j0]; rw [if_pos trivial]) (Ev.some_ 2))
  · refine Ev.neg (by omega) ?_
    by_cases h2 : a.length > 1024
    · rw [if_pos (.inr h2)]
      exact Ev.step (f := fun _ => some 2) (fun k => by simp only [wayfinderref03_CheckWide.j0]; rw [if_pos (by simp; omega)]) (Ev.some_ 2)
    · rw [if_neg (by omega)]
      refine Ev.step (fun k => by simp only [wayfinderref03_CheckWide.j0]; rw [if_neg (by simp; omega)]) ?_
      by_cases h3 : a.any beyond = true
      · rw [if_pos h3]
        have hex : ∃ i, i < a.length ∧ beyond (rd a (i : Int)) = true := by
          obtain ⟨x, hx, hb⟩ := List.any_eq_true.1 h3
          obtain ⟨i, hi, rfl⟩ := List.mem_iff_getElem.1 hx
          exact ⟨i, hi, by rw [rd_get hi]; exact hb⟩
        obtain ⟨n, ⟨hn, hb⟩, hmin⟩ := least hex
        refine Ev.for_ (l := fun i k => wayfinderref03_CheckWide.l0 k a (i : Int)) (g := fun _ => some 11) (Nat.zero_le n) (fun i _ hi k => ?_) (fun k => ?_) (Ev.some_ 11)
        · have h4 : ¬ beyond (rd a (i : Int)) = true := fun h => hmin i hi ⟨by omega, h⟩
          simp only [beyond, Bool.or_eq_true, decide_eq_true_eq] at h4
          simp only [wayfinderref03_CheckWide.l0]
          rw [if_pos (by omega), if_pos (by omega), if_neg (by omega), if_neg (by omega), wrap_succ (by omega)]
        · simp only [beyond, Bool.or_eq_true, decide_eq_true_eq] at hb
          simp only [wayfinderref03_CheckWide.l0]
          rw [if_pos (by omega), if_pos (by omega)]
          by_cases h5 : rd a (n : Int) < -131072
          · rw [if_pos h5]
          · rw [if_neg h5, if_pos (by omega)]
      · rw [if_neg h3]
        simp only [List.any_eq_true, not_exists, not_and] at h3
        refine Ev.for_ (l := fun i k => wayfinderref03_CheckWide.l0 k a (i : Int)) (g := fun _ => some 0) (Nat.zero_le a.length) (fun i _ hi k => ?_) (fun k => ?_) (Ev.some_ 0)
        · have h4 := h3 _ (List.getElem_mem hi)
          rw [← rd_get hi] at h4
          simp only [beyond, Bool.or_eq_true, decide_eq_true_eq] at h4
          simp only [wayfinderref03_CheckWide.l0]
          rw [if_pos (by omega), if_pos (by omega), if_neg (by omega), if_neg (by omega), wrap_succ (by omega)]
        · simp only [wayfinderref03_CheckWide.l0]
          rw [if_neg (by omega)]
theorem rboth_is (a b : List Int) (ha : a.length ≤ 140737488351232) (hb : b.length ≤ 140737488351232) : Ev (fun k => wayfinderref03_both.f k a b) (pairE a b) := by
  unfold wayfinderref03_both.f
  refine Ev.bind (rCheckWide_is a ha) ?_
  by_cases h1 : checkWide a = 0
  · refine Ev.pos h1 (Ev.bind (rCheckWide_is b hb) ?_)
    by_cases h2 : checkWide b = 0
    · refine Ev.pos h2 ?_
      by_cases h3 : a.length = b.length
      · rw [show pairE a b = checkWide b by simp [pairE, h1, h2, h3]]
        exact Ev.pos (by omega) (Ev.some_ _)
      · rw [show pairE a b = 2 by simp [pairE, h1, h2, h3]]
        exact Ev.neg (by omega) (Ev.some_ _)
    · rw [show pairE a b = checkWide b by simp [pairE, h1, h2]]
      exact Ev.neg h2 (Ev.some_ _)
  · rw [show pairE a b = checkWide a by simp [pairE, h1]]
    exact Ev.neg h1 (Ev.some_ _)
theorem rDist_is (a b : List Int) (ha : a.length ≤ 140737488351232) (hb : b.length ≤ 140737488351232) : Ev (fun k => wayfinderref03_Dist.f k a b) (distV a b, pairE a b) := by
  unfold wayfinderref03_Dist.f
  refine Ev.bind (rboth_is a b ha hb) ?_
  by_cases h : pairE a b = 0
  · obtain ⟨h1, h2, h3⟩ := pairE_ok h
    obtain ⟨a1, a2, a3⟩ := wide_of h1
    obtain ⟨b1, b2, b3⟩ := wide_of h2
    have hv : distV a b = distTo a b a.length := by unfold distV; rw [if_pos h]
    rw [hv, h]
    refine Ev.pos rfl ?_
    exact Ev.for_ (l := fun i k => wayfinderref03_Dist.l0 k a b (distTo a b i) (i : Int)) (g := fun _ => some (distTo a b a.length, 0)) (Nat.zero_le a.length) (fun i _ hi k => by
        simp only [wayfinderref03_Dist.l0]
        rw [if_pos (by omega), if_pos (by omega), if_pos (by omega), dist_step a3 (fun j hj => b3 j (by omega)) a2 hi, wrap_succ (by omega)])
      (fun k => by simp only [wayfinderref03_Dist.l0]; rw [if_neg (by omega)]) (Ev.some_ _)
  · have hv : distV a b = 0 := by unfold distV; rw [if_neg h]
    rw [hv]
    exact Ev.neg h (Ev.some_ _)
theorem down {ρ : Type} {l : Nat → Nat → Option ρ} {n : Nat} (he : ∃ r, Ev (l n) r) (h : ∀ i, i < n → (∃ r, Ev (l (i + 1)) r) → ∃ r, Ev (l i) r) : ∀ i, i ≤ n → ∃ r, Ev (l i) r := by
  intro i hi
  obtain ⟨d, rfl⟩ : ∃ d, n = i + d := ⟨n - i, by omega⟩
  clear hi
  induction d generalizing i with
  | zero => exact he
  | succ d ih => exact h i (by omega) (ih (i + 1) (by rw [show i + 1 + d = i + (d + 1) by omega]; exact he) (fun j hj => h j (by omega)))
theorem Light_ev (l : List (List Int)) (m : Int) : ∃ r, Ev (fun k => wayfinderkit_Light_int32.f k l 260 m) r := by
  unfold wayfinderkit_Light_int32.f
  by_cases h1 : (l.length : Int) > 260
  · exact ⟨false, Ev.pos h1 (Ev.some_ _)⟩
  · obtain ⟨r, hr⟩ := down (l := fun i k => wayfinderkit_Light_int32.l0 k l m (i : Int)) (n := l.length) ⟨true, Ev.step (f := fun _ => some true) (fun k => by simp only [wayfinderkit_Light_int32.l0]; rw [if_neg (by omega)]) (Ev.some_ _)⟩ (fun i hi ⟨r, hr⟩ => by
      by_cases h2 : ((rd_L2 l (i : Int)).length : Int) > m
      · exact ⟨false, Ev.step (f := fun _ => some false) (fun k => by simp only [wayfinderkit_Light_int32.l0]; rw [if_pos (by omega), if_pos (by omega), if_pos h2]) (Ev.some_ _)⟩
      · exact ⟨r, Ev.step (fun k => by simp only [wayfinderkit_Light_int32.l0]; rw [if_pos (by omega), if_pos (by omega), if_neg h2, wrap_succ (by omega)]) hr⟩) 0 (Nat.zero_le _)
    exact ⟨r, Ev.neg h1 hr⟩
theorem light_ev (b : List (List (List Int))) : ∃ r, Ev (fun k => wayfinderlaw15_light.f k b) r := by
  unfold wayfinderlaw15_light.f
  suffices h : ∃ r, Ev (fun k => wayfinderkit_LightBook.f k b 30 260 60) r by
    obtain ⟨r, hr⟩ := h
    exact ⟨r, Ev.bind hr (Ev.some_ _)⟩
  unfold wayfinderkit_LightBook.f
  by_cases h1 : (b.length : Int) > 30
  · exact ⟨false, Ev.pos h1 (Ev.some_ _)⟩
  · obtain ⟨r, hr⟩ := down (l := fun i k => wayfinderkit_LightBook.l0 k 260 60 (i : Int) b) (n := b.length) ⟨true, Ev.step (f := fun _ => some true) (fun k => by simp only [wayfinderkit_LightBook.l0]; rw [if_neg (by omega)]) (Ev.some_ _)⟩ (fun i hi ⟨r, hr⟩ => by
      obtain ⟨q, hq⟩ := Light_ev (rd_L3 b (i : Int)) 60
      have hs : ∀ k, wayfinderkit_LightBook.l0 (k + 1) 260 60 (i : Int) b = (wayfinderkit_Light_int32.f k (rd_L3 b (i : Int)) 260 60).bind fun t => if t = true then wayfinderkit_LightBook.l0 k 260 60 ((i + 1 : Nat) : Int) b else some false := fun k => by
        simp only [wayfinderkit_LightBook.l0]
        rw [if_pos (by omega), if_pos (by omega), wrap_succ (by omega)]
      cases q with
      | true => exact ⟨r, Ev.step hs (Ev.bind hq (Ev.pos rfl hr))⟩
      | false => exact ⟨false, Ev.step hs (Ev.bind hq (Ev.neg (by decide) (Ev.some_ _)))⟩) 0 (Nat.zero_le _)
    exact ⟨r, Ev.neg h1 hr⟩
end Go.Proofs.Yteickelddnhdiaa.Bk

namespace Go.Proofs.Yteickelddnhdiaa.Bk
open Go.RowKit Go.Proofs.YteickelddnhdiaaW.PrintWords Go.Proofs.YteickelddnhdiaaW.PrintLast Go.Proofs.Yteickelddnhdiaa.G
set_option linter.unusedVariables false

/-- A book of n words in each part, m numbers each. -/
structure BookOK (b : List (List (List Int))) (n m : Nat) : Prop where
  p1 : 1 ≤ b.length
  n1 : 1 ≤ n
  n2 : n ≤ 256
  m1 : 1 ≤ m
  most : m * b.length ≤ 1024
  parts : ∀ l ∈ b, l.length = n
  words : ∀ l ∈ b, ∀ v ∈ l, v.length = m ∧ checkWide v = 0
theorem bookE_ok {b : List (List (List Int))} (h : bookE b = 0) : ∃ n m, BookOK b n m := by
  unfold bookE at h
  split at h
  · cases h
  split at h
  · cases h
  rename_i h1 h2
  rw [Bool.not_eq_false] at h1
  simp only [shapedL, Bool.not_eq_true', Bool.or_eq_false_iff, decide_eq_false_iff_not] at h1
  obtain ⟨⟨⟨⟨⟨⟨⟨a1, a2⟩, a3⟩, a4⟩, a5⟩, a6⟩, a7⟩, a8⟩ := h1
  rw [List.any_eq_false] at a8
  simp only [List.any_eq_true, not_exists, not_and] at h2
  have hodd : ∀ l ∈ b, l.length = (b.getD 0 []).length ∧ ∀ v ∈ l, v.length = ((b.getD 0 []).getD 0 []).length := fun l hl => by
    have h := a8 l hl
    rw [Bool.not_eq_true] at h
    simp only [odd, Bool.or_eq_false_iff] at h
    obtain ⟨h3, h4⟩ := h
    rw [List.any_eq_false] at h4
    refine ⟨?_, fun v hv => ?_⟩
    · have := bne_eq_false_iff_eq.1 h3
      omega
    · have h5 := h4 v hv
      rw [Bool.not_eq_true] at h5
      have := bne_eq_false_iff_eq.1 h5
      omega
  refine ⟨(b.getD 0 []).length, ((b.getD 0 []).getD 0 []).length, ?_⟩
  generalize (b.getD 0 []).getD 0 [] = w0 at *
  generalize b.getD 0 [] = l0 at *
  exact ⟨by omega, by omega, by omega, by omega, by omega, fun l hl => (hodd l hl).1, fun l hl v hv => ⟨(hodd l hl).2 v hv, by
    have := h2 l hl v hv
    simpa using this⟩⟩
section
variable {b : List (List (List Int))} {n m : Nat}
theorem getD_mem {α : Type} {l : List α} {i : Nat} {z : α} (h : i < l.length) : l.getD i z ∈ l := by
  rw [List.getD_eq_getElem?_getD, List.getElem?_eq_getElem h]
  exact List.getElem_mem h
theorem BookOK.word (hb : BookOK b n m) {i c : Nat} (hi : i < b.length) (hc : c < n) : ((b.getD i []).getD c []).length = m ∧ checkWide ((b.getD i []).getD c []) = 0 :=
  hb.words _ (getD_mem hi) _ (getD_mem (by rw [hb.parts _ (getD_mem hi)]; exact hc))
theorem dim_is (hb : BookOK b n m) (h : bookE b = 0) : book_Dim.f b = some ((m * b.length : Nat) : Int) := by
  have h1 := hb.p1
  have h0 : (b.getD 0 []).length = n := hb.parts _ (getD_mem (by omega))
  have h2 := (hb.word (i := 0) (c := 0) (by omega) hb.n1).1
  have h3 := hb.most
  have h4 := hb.n1
  have e1 : rd_L3 b 0 = b.getD 0 [] := rfl
  have e2 : rd_L2 (rd_L3 b 0) 0 = (b.getD 0 []).getD 0 [] := rfl
  simp only [book_Dim.f, book_Check.f, h, Option.bind, if_true]
  rw [if_pos (by omega), e2, e1, h0, if_pos (by omega), h2]
  have e3 : (b.length : Int) * (m : Int) = ((m * b.length : Nat) : Int) := by rw [Int.natCast_mul, Int.mul_comm]
  rw [e3, wrap_nat (by omega)]
theorem cut_is (hb : BookOK b n m) {v : List Int} (hl : v.length = m * b.length) : part_Cut.f v (b.length : Int) = some ((List.range b.length).map (pieceL v m), 0) := by
  have h1 := hb.p1
  have h2 := hb.m1
  have h3 := hb.most
  have hE : cutE v (b.length : Int) = 0 := by
    unfold cutE partE
    rw [if_neg]
    have hm : m * b.length ≥ b.length := Nat.le_mul_of_pos_left _ h2
    have hd : ((m * b.length : Nat) : Int) % (b.length : Int) = 0 := by rw [Int.natCast_mul]; exact Int.mul_emod_left _ _
    rw [hl]
    omega
  unfold part_Cut.f cutL
  rw [if_pos hE, hE, hl, Int.toNat_natCast, Nat.mul_div_cancel _ (by omega)]
theorem piece_ok (hb : BookOK b n m) {v : List Int} (hv : checkWide v = 0) (hl : v.length = m * b.length) {i : Nat} (hi : i < b.length) : (pieceL v m i).length = m ∧ checkWide (pieceL v m i) = 0 := by
  have h1 := Nat.mul_le_mul_right m (show i + 1 ≤ b.length from hi)
  rw [Nat.add_mul, Nat.one_mul, Nat.mul_comm b.length m, ← hl] at h1
  have h2 : (pieceL v m i).length = m := by simp [pieceL]; omega
  obtain ⟨v1, v2, v3⟩ := wideOk_mem hv
  have := hb.m1
  have := hb.most
  have := Nat.le_mul_of_pos_right m hb.p1
  refine ⟨h2, checkWide_of (by omega) (by omega) fun x hx => v3 x ?_⟩
  exact List.mem_of_mem_drop (List.mem_of_mem_take hx)
/-- Part i's byte of a vector's code. -/
def codeOf (b : List (List (List Int))) (m : Nat) (v : List Int) (i : Nat) : Int := (nearTo (distsOf (b.getD i []) (pieceL v m i)) (b.getD i []).length).1
theorem near_is (hb : BookOK b n m) {v : List Int} (hv : checkWide v = 0) (hl : v.length = m * b.length) {i : Nat} (hi : i < b.length) : book_words_nearest.f (b.getD i []) (pieceL v m i) = some (codeOf b m v i) := by
  obtain ⟨p1, p2⟩ := piece_ok hb hv hl hi
  have hp := hb.parts _ (getD_mem (z := []) hi)
  have hw := hb.words _ (getD_mem (z := []) hi)
  unfold book_words_nearest.f
  rw [if_pos]
  · rfl
  · have := hb.n1
    have := hb.n2
    exact (centsB_iff _ _).2 ⟨by omega, by omega, fun c hc => (hw c hc).2, fun c hc => by rw [(hw c hc).1, p1], p2⟩
theorem code_spec (hb : BookOK b n m) {v : List Int} {i : Nat} (hi : i < b.length) : ∃ k : Nat, k < n ∧ codeOf b m v i = (k : Int) ∧ ∀ j, j < n → distsOf (b.getD i []) (pieceL v m i) k ≤ distsOf (b.getD i []) (pieceL v m i) j := by
  have hp := hb.parts _ (getD_mem (z := []) hi)
  obtain ⟨k, hk, he, hm, _⟩ := nearTo_spec (distsOf (b.getD i []) (pieceL v m i)) (fun j => distV_nonneg _ _) (b.getD i []).length (by have := hb.n1; omega)
  exact ⟨k, by omega, by unfold codeOf; rw [he], fun j hj => hm j (by omega)⟩
theorem Encode_is (hb : BookOK b n m) (h0 : bookE b = 0) {v : List Int} (hv : checkWide v = 0) (hl : v.length = m * b.length) : Ev (fun k => book_Encode.f k b v) ((List.range b.length).map (codeOf b m v), 0) := by
  have h3 := hb.most
  have h4 := Nat.le_mul_of_pos_left b.length hb.m1
  unfold book_Encode.f
  refine Ev.bindc (a := 0) (by show some (bookE b) = _; rw [h0]) (Ev.pos rfl ?_)
  refine Ev.bindc (a := 0) (by show some (checkWide v) = _; rw [hv]) (Ev.pos rfl ?_)
  refine Ev.bindc (dim_is hb h0) (Ev.pos (by rw [hl]) ?_)
  refine Ev.bindc (cut_is hb hl) ?_
  have hpl : ((List.range b.length).map (pieceL v m)).length = b.length := by simp
  refine Ev.for_ (l := fun i k => book_Encode.l0 k ((List.range i).map (codeOf b m v)) ((List.range b.length).map (pieceL v m)) (((List.range b.length).map (pieceL v m)).length : Int) (i : Int) b) (g := fun _ => some ((List.range b.length).map (codeOf b m v), 0)) (Nat.zero_le b.length) (fun i _ hi k => ?_) (fun k => ?_) (Ev.some_ _)
  · simp only [book_Encode.l0]
    have e1 : rd_L3 b (i : Int) = b.getD i [] := rfl
    have e2 : rd_L2 ((List.range b.length).map (pieceL v m)) (i : Int) = pieceL v m i := by simp [rd_L2, hi]
    rw [if_pos (by omega), if_pos (by omega), if_pos (by omega), if_pos (by omega), e1, e2, near_is hb hv hl hi]
    show (if ((List.range i).map (codeOf b m v)).length < 140737488355328 then _ else _) = _
    rw [if_pos (by simp; omega), wrap_succ (by omega), List.range_succ, List.map_append]
    rfl
  · simp only [book_Encode.l0]
    rw [if_neg (by omega)]
def wordOf (b : List (List (List Int))) (c : List Int) (i : Nat) : List Int := (b.getD i []).getD (c.getD i 0).toNat []
def decTo (b : List (List (List Int))) (c : List Int) (i : Nat) : List Int := ((List.range i).map (wordOf b c)).flatten
theorem decTo_succ (b : List (List (List Int))) (c : List Int) (i : Nat) : decTo b c (i + 1) = decTo b c i ++ wordOf b c i := by simp [decTo, List.range_succ]
end
end Go.Proofs.Yteickelddnhdiaa.Bk
