/- Tables of numbers: rows of one length, told by a function. -/
import Derived.Test.YtcgpkfpfpjclkaaMeanK
namespace Go.Proofs.Ytcgpkfpfpjclkaa.G
set_option linter.unusedVariables false
def tab (k m : Nat) (f : Nat → Nat → Int) : List (List Int) := (List.range k).map (fun n => (List.range m).map (f n))
def vec (k : Nat) (c : Nat → Int) : List Int := (List.range k).map c
section
variable {k m n i : Nat} {f g : Nat → Nat → Int} {c d : Nat → Int}
theorem tab_len : (tab k m f).length = k := by simp [tab]
theorem vec_len : (vec k c).length = k := by simp [vec]
theorem tab_row (hn : n < k) : (tab k m f).getD n [] = (List.range m).map (f n) := by
  simp [tab, List.getD_eq_getElem?_getD, hn]
theorem tab_rowlen (hn : n < k) : ((tab k m f).getD n []).length = m := by rw [tab_row hn]; simp
theorem tab_at (hn : n < k) (hi : i < m) : at2 (tab k m f) n i = f n i := by
  unfold at2
  rw [tab_row hn, List.getD_eq_getElem?_getD, List.getElem?_map, List.getElem?_range hi, Option.map_some, Option.getD_some]
theorem vec_at (hn : n < k) : (vec k c).getD n 0 = c n := by
  unfold vec
  rw [List.getD_eq_getElem?_getD, List.getElem?_map, List.getElem?_range hn, Option.map_some, Option.getD_some]
theorem range_map_congr {α : Type} {f g : Nat → α} (h : ∀ i, i < m → f i = g i) : (List.range m).map f = (List.range m).map g :=
  List.map_congr_left (fun i hi => h i (List.mem_range.1 hi))
theorem tab_congr (h : ∀ n i, n < k → i < m → f n i = g n i) : tab k m f = tab k m g := range_map_congr (fun n hn => range_map_congr (fun i hi => h n i hn hi))
theorem vec_congr (h : ∀ n, n < k → c n = d n) : vec k c = vec k d := range_map_congr h
theorem map_set {α : Type} {f : Nat → α} (hn : n < k) (x : α) : ((List.range k).map f).set n x = (List.range k).map (fun a => if a = n then x else f a) := by
  apply List.ext_getElem
  · simp
  · intro j h1 h2
    rw [List.getElem_set, List.getElem_map, List.getElem_map, List.getElem_range]
    by_cases h : n = j
    · rw [if_pos h, if_pos h.symm]
    · rw [if_neg h, if_neg (Ne.symm h)]
theorem vec_set (hn : n < k) (x : Int) : (vec k c).set n x = vec k (fun a => if a = n then x else c a) := map_set hn x
theorem tab_setrow (hn : n < k) (g : Nat → Int) : (tab k m f).set n ((List.range m).map g) = tab k m (fun a b => if a = n then g b else f a b) := by
  unfold tab
  rw [map_set hn]
  refine range_map_congr (fun a _ => ?_)
  by_cases h : a = n
  · rw [if_pos h]; exact range_map_congr (fun b _ => (if_pos h).symm)
  · rw [if_neg h]; exact range_map_congr (fun b _ => (if_neg h).symm)
theorem tab_set (hn : n < k) (hi : i < m) (x : Int) : (tab k m f).set n (((tab k m f).getD n []).set i x) = tab k m (fun a b => if a = n ∧ b = i then x else f a b) := by
  rw [tab_row hn, map_set hi, tab_setrow hn]
  refine tab_congr (fun a b _ _ => ?_)
  by_cases h : a = n
  · rw [if_pos h]
    by_cases h2 : b = i
    · rw [if_pos h2, if_pos ⟨h, h2⟩]
    · rw [if_neg h2, if_neg (fun h3 => h2 h3.2), h]
  · rw [if_neg h, if_neg (fun h3 => h h3.1)]
theorem tab_zero (hn : n < k) : (tab k m f).set n (List.replicate m 0) = tab k m (fun a b => if a = n then 0 else f a b) := by
  have e : List.replicate m (0 : Int) = (List.range m).map (fun _ => (0 : Int)) := by
    apply List.ext_getElem
    · simp
    · intro j h1 h2; simp
  rw [e, tab_setrow hn]
theorem vec_zero (k : Nat) : List.replicate k 0 = vec k (fun _ => 0) := by
  apply List.ext_getElem
  · simp [vec]
  · intro j h1 h2; simp [vec]
theorem tab_self {C : List (List Int)} (hC : ∀ j, j < C.length → (C.getD j []).length = m) : C = tab C.length m (at2 C) := by
  unfold tab
  apply List.ext_getElem
  · simp
  · intro j h1 h2
    have hj := hC j h1
    have e : C.getD j [] = C[j] := by rw [List.getD_eq_getElem?_getD, List.getElem?_eq_getElem h1, Option.getD_some]
    rw [e] at hj
    rw [List.getElem_map, List.getElem_range]
    apply List.ext_getElem
    · simp [hj]
    · intro i h3 h4
      rw [List.getElem_map, List.getElem_range]
      unfold at2
      rw [e, List.getD_eq_getElem?_getD, List.getElem?_eq_getElem h3, Option.getD_some]
end
end Go.Proofs.Ytcgpkfpfpjclkaa.G
