/- Statement BookParts, its lists: a part put in the place of another's; losses add up. -/
import Derived.Test.YtpcacklmelokiaaBookQ2
namespace Go.Proofs.Ytpcacklmelokiaa.Bk
open Go.RowKit Go.Proofs.YtpcacklmelokiaaW.PrintWords Go.Proofs.YtpcacklmelokiaaW.PrintLast Go.Proofs.Ytpcacklmelokiaa.G
set_option linter.unusedVariables false
/-- Part p of w in the place of v's. -/
def spl (v w : List Int) (m p : Nat) : List Int := v.take (p * m) ++ pieceL w m p ++ v.drop ((p + 1) * m)
section
variable {b : List (List (List Int))} {n m : Nat}
theorem spl_get {v w : List Int} {p P : Nat} (hv : v.length = m * P) (hw : w.length = m * P) (hp : p < P) (k : Nat) : (spl v w m p)[k]? = if k < p * m then v[k]? else if k < (p + 1) * m then w[k]? else v[k]? := by
  have h1 : (p + 1) * m ≤ m * P := by rw [Nat.mul_comm m P]; exact Nat.mul_le_mul_right m hp
  have h2 : (p + 1) * m = p * m + m := by rw [Nat.add_mul, Nat.one_mul]
  have h3 : (v.take (p * m)).length = p * m := by rw [List.length_take]; omega
  have h4 : (pieceL w m p).length = m := by simp [pieceL]; omega
  unfold spl
  by_cases c1 : k < p * m
  · rw [if_pos c1, List.append_assoc, List.getElem?_append_left (by omega), List.getElem?_take_of_lt c1]
  · rw [if_neg c1]
    by_cases c2 : k < (p + 1) * m
    · rw [if_pos c2, List.getElem?_append_left (by rw [List.length_append]; omega), List.getElem?_append_right (by omega), h3]
      unfold pieceL
      rw [List.getElem?_take_of_lt (by omega), List.getElem?_drop]
      congr 1
      omega
    · rw [if_neg c2, List.getElem?_append_right (by rw [List.length_append]; omega), List.length_append, h3, h4, List.getElem?_drop]
      congr 1
      omega
theorem spl_length {v w : List Int} {p P : Nat} (hv : v.length = m * P) (hw : w.length = m * P) (hp : p < P) : (spl v w m p).length = m * P := by
  have h1 : (p + 1) * m ≤ m * P := by rw [Nat.mul_comm m P]; exact Nat.mul_le_mul_right m hp
  have h2 : (p + 1) * m = p * m + m := by rw [Nat.add_mul, Nat.one_mul]
  simp [spl, pieceL]
  omega
theorem piece_spl {v w : List Int} {p P i : Nat} (hv : v.length = m * P) (hw : w.length = m * P) (hp : p < P) : pieceL (spl v w m p) m i = if i = p then pieceL w m p else pieceL v m i := by
  have g : ∀ (l : List Int) (i k : Nat), (pieceL l m i)[k]? = if k < m then l[i * m + k]? else none := fun l i k => by
    unfold pieceL
    rw [List.getElem?_take, List.getElem?_drop]
  have s1 : ∀ x : Nat, (x + 1) * m = x * m + m := fun x => by rw [Nat.add_mul, Nat.one_mul]
  apply List.ext_getElem?
  intro k
  rw [g, spl_get hv hw hp]
  by_cases hip : i = p
  · subst hip
    rw [if_pos rfl, g]
    by_cases hk : k < m
    · rw [if_pos hk, if_pos hk, if_neg (by omega), if_pos (by rw [s1]; omega)]
    · rw [if_neg hk, if_neg hk]
  · rw [if_neg hip, g]
    by_cases hk : k < m
    · rw [if_pos hk, if_pos hk]
      rcases Nat.lt_or_gt_of_ne hip with h | h
      · have := Nat.mul_le_mul_right m (show i + 1 ≤ p from h)
        rw [s1] at this
        rw [if_pos (by omega)]
      · have := Nat.mul_le_mul_right m (show p + 1 ≤ i from h)
        rw [s1] at this
        rw [if_neg (by omega), if_neg (by rw [s1]; omega)]
    · rw [if_neg hk, if_neg hk]
theorem spl_wide {v w : List Int} {p P : Nat} (hv0 : checkWide v = 0) (hw0 : checkWide w = 0) (hv : v.length = m * P) (hw : w.length = m * P) (hp : p < P) : checkWide (spl v w m p) = 0 := by
  obtain ⟨a1, a2, a3⟩ := wideOk_mem hv0
  obtain ⟨b1, b2, b3⟩ := wideOk_mem hw0
  have hl := spl_length hv hw hp
  refine checkWide_of (by omega) (by omega) fun x hx => ?_
  unfold spl at hx
  rcases List.mem_append.1 hx with hx | hx
  · rcases List.mem_append.1 hx with hx | hx
    · exact a3 x (List.mem_of_mem_take hx)
    · exact b3 x (List.mem_of_mem_drop (List.mem_of_mem_take hx))
  · exact a3 x (List.mem_of_mem_drop hx)
theorem code_spl {v w : List Int} {p i : Nat} (hv : v.length = m * b.length) (hw : w.length = m * b.length) (hp : p < b.length) : codeOf b m (spl v w m p) i = if i = p then codeOf b m w p else codeOf b m v i := by
  unfold codeOf
  rw [piece_spl hv hw hp]
  by_cases h : i = p
  · subst h; rw [if_pos rfl, if_pos rfl]
  · rw [if_neg h, if_neg h]
/-- The code of the whole. -/
theorem codes_spl {v w : List Int} {p : Nat} (hv : v.length = m * b.length) (hw : w.length = m * b.length) (hp : p < b.length) :
    (List.range b.length).map (codeOf b m (spl v w m p)) = ((List.range b.length).map (codeOf b m v)).set p (codeOf b m w p) := by
  apply List.ext_getElem
  · simp
  · intro i h1 h2
    have hi : i < b.length := by simpa using h1
    simp only [List.getElem_map, List.getElem_range, code_spl hv hw hp, List.getElem_set]
    by_cases h : i = p
    · subst h; simp
    · rw [if_neg h, if_neg (fun e => h e.symm)]
/-- The losses of the first i parts. -/
def lossTo (b : List (List (List Int))) (m : Nat) (v c : List Int) : Nat → Int
  | 0 => 0
  | i + 1 => lossTo b m v c i + distV (wordOf b c i) (pieceL v m i)
theorem loss_sum (hb : BookOK b n m) {v : List Int} (hv : checkWide v = 0) (hl : v.length = m * b.length) {c : List Int} (hc : CodeOK b n c) : ∀ i, i ≤ b.length → lossTo b m v c i = distTo v (decTo b c b.length) (m * i)
  | 0, _ => rfl
  | i + 1, h => by
    obtain ⟨k, hk, he⟩ := hc.2 i h
    have hw : wordOf b c i = (b.getD i []).getD k [] := by unfold wordOf; rw [he, Int.toNat_natCast]
    show lossTo b m v c i + distV (wordOf b c i) (pieceL v m i) = _
    rw [loss_sum hb hv hl hc i (by omega), dist_part hb hv hl hc h he, hw]
    rfl
end
end Go.Proofs.Ytpcacklmelokiaa.Bk
