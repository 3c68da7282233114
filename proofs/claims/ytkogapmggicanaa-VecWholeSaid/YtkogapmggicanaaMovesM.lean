/- VecMoves: its plain law. -/
import Derived.Test.YtkogapmggicanaaSumsM
import Derived.Test.YtkogapmggicanaaVecMetric
namespace Go.Proofs.Ytkogapmggicanaa.G
open Go.RowKit Go.Shelf Go.Proofs.YtkogapmggicanaaW.PrintWords
set_option linter.unusedVariables false
set_option linter.unusedSimpArgs false

def rot (l : List Int) (k : Nat) : List Int := l.drop k ++ l.take k
theorem rot_len (l : List Int) (k : Nat) : (rot l k).length = l.length := by
  simp only [rot, List.length_append, List.length_drop, List.length_take]
  omega
theorem distTo_sum : ∀ (n : Nat) (a b : List Int), a.length = n → b.length = n → distTo a b n = (List.zipWith sq a b).sum := by
  intro n
  induction n with
  | zero => intro a b ha hb; rw [List.eq_nil_of_length_eq_zero ha]; rfl
  | succ n ih =>
    intro a b ha hb
    have e : ∀ l : List Int, l.length = n + 1 → l = l.take n ++ [l.getD n 0] := fun l hl => by
      have := List.take_succ_eq_append_getElem (l := l) (i := n) (by omega)
      rw [List.getD_eq_getElem?_getD, List.getElem?_eq_getElem (by omega)]
      rw [← hl, List.take_length] at this
      simpa [hl] using this
    have ea := e a ha
    have eb := e b hb
    have h1 : distTo a b n = distTo (a.take n) (b.take n) n := by
      refine distTo_congr n fun j hj => ?_
      have g : ∀ l : List Int, (l.take n).getD j 0 = l.getD j 0 := fun l => by
        simp only [List.getD_eq_getElem?_getD, List.getElem?_take_of_lt hj]
      rw [g, g]
    simp only [distTo]
    rw [h1, ih (a.take n) (b.take n) (by rw [List.length_take]; omega) (by rw [List.length_take]; omega)]
    conv => rhs; rw [ea, eb]
    rw [List.zipWith_append (by rw [List.length_take, List.length_take]; omega), List.sum_append]
    simp
theorem rot_dist {a b : List Int} (k : Nat) (hl : a.length = b.length) : distTo (rot a k) (rot b k) a.length = distTo a b a.length := by
  rw [distTo_sum a.length (rot a k) (rot b k) (rot_len a k) (by rw [rot_len]; exact hl.symm), distTo_sum a.length a b rfl hl.symm]
  unfold rot
  rw [List.zipWith_append (by rw [List.length_drop, List.length_drop]; omega), List.sum_append, ← List.drop_zipWith, ← List.take_zipWith]
  rw [Int.add_comm, ← List.sum_append, List.take_append_drop]
theorem wide_all {l : List Int} (h1 : 1 ≤ l.length) (h2 : l.length ≤ 1024) (h : ∀ x ∈ l, wideOk x) : checkWide l = 0 :=
  wide_mk h1 h2 fun j hj => by
    rw [List.getD_eq_getElem?_getD, List.getElem?_eq_getElem hj]
    exact h _ (List.getElem_mem hj)
theorem all_wide {l : List Int} (h : checkWide l = 0) : ∀ x ∈ l, wideOk x := fun x hx => by
  obtain ⟨_, _, hw⟩ := wide_of h
  obtain ⟨j, hj, rfl⟩ := List.mem_iff_getElem.1 hx
  have := hw j hj
  rwa [List.getD_eq_getElem?_getD, List.getElem?_eq_getElem hj] at this
theorem rot_wide {l : List Int} (k : Nat) (h : checkWide l = 0) : checkWide (rot l k) = 0 := by
  obtain ⟨h1, h2, _⟩ := wide_of h
  refine wide_all (by rw [rot_len]; exact h1) (by rw [rot_len]; exact h2) fun x hx => ?_
  rcases List.mem_append.1 hx with hx | hx
  · exact all_wide h x (List.mem_of_mem_drop hx)
  · exact all_wide h x (List.mem_of_mem_take hx)
theorem rot_pair {a b : List Int} (k : Nat) (h : pairE a b = 0) : pairE (rot a k) (rot b k) = 0 ∧ distV (rot a k) (rot b k) = distV a b := by
  obtain ⟨h0, h1, hl⟩ := pairE_ok h
  have hp : pairE (rot a k) (rot b k) = 0 := pairE_mk (rot_wide k h0) (rot_wide k h1) (by rw [rot_len, rot_len, hl])
  refine ⟨hp, ?_⟩
  rw [distV_ok hp, distV_ok h, rot_len]
  exact rot_dist k hl
theorem moved_pair {a b c : List Int} (h : pairE a b = 0) (ha : alongE addW a c = 0) (hb : alongE addW b c = 0) :
    pairE (alongL addW a c) (alongL addW b c) = 0 ∧ distV (alongL addW a c) (alongL addW b c) = distV a b := by
  obtain ⟨h0, h1, hl⟩ := pairE_ok h
  obtain ⟨hn1, hn2, hwa⟩ := wide_of h0
  obtain ⟨_, _, hwb⟩ := wide_of h1
  obtain ⟨pa, La, wa⟩ := along_ok ha
  obtain ⟨pb, Lb, wb⟩ := along_ok hb
  obtain ⟨_, hc, hlc⟩ := pairE_ok pa
  obtain ⟨_, _, hwc⟩ := wide_of hc
  rw [La, Lb]
  have hlen : (alongTo addW a c a.length).length = a.length := alongTo_length _ _ _ _
  have hlen2 : (alongTo addW b c b.length).length = b.length := alongTo_length _ _ _ _
  have ga : ∀ j, j < a.length → (alongTo addW a c a.length).getD j 0 = a.getD j 0 + c.getD j 0 := fun j hj => by
    rw [alongTo_getD _ _ _ _ _ hj]
    have e1 := hwa j hj
    have e2 := hwc j (by omega)
    unfold wideOk at e1 e2
    exact wrap32_small (by omega)
  have gb : ∀ j, j < b.length → (alongTo addW b c b.length).getD j 0 = b.getD j 0 + c.getD j 0 := fun j hj => by
    rw [alongTo_getD _ _ _ _ _ hj]
    have e1 := hwb j hj
    have e2 := hwc j (by omega)
    unfold wideOk at e1 e2
    exact wrap32_small (by omega)
  have hp : pairE (alongTo addW a c a.length) (alongTo addW b c b.length) = 0 := by
    refine pairE_mk (wide_mk (by omega) (by omega) fun j hj => ?_) (wide_mk (by omega) (by omega) fun j hj => ?_) (by omega)
    · rw [hlen] at hj
      rw [alongTo_getD _ _ _ _ _ hj]
      exact wa j hj
    · rw [hlen2] at hj
      rw [alongTo_getD _ _ _ _ _ hj]
      exact wb j hj
  refine ⟨hp, ?_⟩
  rw [distV_ok hp, distV_ok h, hlen]
  refine distTo_congr _ fun j hj => ?_
  rw [ga j hj, gb j (by omega)]
  unfold sq
  rw [show a.getD j 0 + c.getD j 0 - (b.getD j 0 + c.getD j 0) = a.getD j 0 - b.getD j 0 by omega]

end Go.Proofs.Ytkogapmggicanaa.G
