/- Distances of what is decoded, plainly. -/
import Derived.Test.YtpcacklmelokiaaBookQ
namespace Go.Proofs.Ytpcacklmelokiaa.Bk
open Go.RowKit Go.Proofs.YtpcacklmelokiaaW.PrintWords Go.Proofs.YtpcacklmelokiaaW.PrintLast Go.Proofs.Ytpcacklmelokiaa.G
set_option linter.unusedVariables false
theorem distTo_add (a b : List Int) (n : Nat) : ∀ d, distTo a b (n + d) = distTo a b n + distTo (a.drop n) (b.drop n) d
  | 0 => by simp [distTo]
  | d + 1 => by
    have ih := distTo_add a b n d
    have g : ∀ l : List Int, (l.drop n).getD d 0 = l.getD (n + d) 0 := fun l => by simp [List.getD_eq_getElem?_getD, List.getElem?_drop]
    show distTo a b (n + d) + sq (a.getD (n + d) 0) (b.getD (n + d) 0) = distTo a b n + (distTo (a.drop n) (b.drop n) d + sq ((a.drop n).getD d 0) ((b.drop n).getD d 0))
    rw [ih, g, g]
    omega
theorem distTo_congr {a a' b b' : List Int} : ∀ k, (∀ j, j < k → a.getD j 0 = a'.getD j 0 ∧ b.getD j 0 = b'.getD j 0) → distTo a b k = distTo a' b' k
  | 0, _ => rfl
  | k + 1, h => by
    have ih := distTo_congr k fun j hj => h j (by omega)
    have h2 := h k (by omega)
    simp only [distTo, ih, h2.1, h2.2]
theorem distTo_comm (a b : List Int) : ∀ k, distTo a b k = distTo b a k
  | 0 => rfl
  | k + 1 => by
    have ih := distTo_comm a b k
    have h : ∀ x y : Int, sq x y = sq y x := fun x y => by
      unfold sq
      rw [← Int.neg_mul_neg]
      congr 1 <;> omega
    simp only [distTo, ih, h]
section
variable {b : List (List (List Int))} {n m : Nat}
theorem decTo_get (hb : BookOK b n m) {c : List Int} (hc : CodeOK b n c) {i j : Nat} (hj : j < m) : ∀ Q, i < Q → Q ≤ b.length → (decTo b c Q).getD (m * i + j) 0 = (wordOf b c i).getD j 0
  | 0, h, _ => by omega
  | Q + 1, h, hQ => by
    have hl := decTo_length hb hc Q (by omega)
    rw [decTo_succ, List.getD_eq_getElem?_getD, List.getElem?_append]
    by_cases hi : i < Q
    · have h1 : m * i + j < m * Q := by
        have := Nat.mul_le_mul_left m (show i + 1 ≤ Q from hi)
        rw [Nat.mul_add, Nat.mul_one] at this
        omega
      rw [if_pos (by omega), ← List.getD_eq_getElem?_getD]
      exact decTo_get hb hc hj Q hi (by omega)
    · obtain rfl : i = Q := by omega
      rw [if_neg (by omega), hl, List.getD_eq_getElem?_getD, show m * i + j - m * i = j by omega]
theorem dist_part (hb : BookOK b n m) {v : List Int} (hv : checkWide v = 0) (hl : v.length = m * b.length) {c : List Int} (hc : CodeOK b n c) {i k : Nat} (hi : i < b.length) (hk : c.getD i 0 = (k : Int)) :
    distTo v (decTo b c b.length) (m * (i + 1)) = distTo v (decTo b c b.length) (m * i) + distsOf (b.getD i []) (pieceL v m i) k := by
  obtain ⟨p1, p2⟩ := piece_ok hb hv hl hi
  obtain ⟨w1, w2⟩ := wordOf_ok hb hc hi
  have hw : wordOf b c i = (b.getD i []).getD k [] := by unfold wordOf; rw [hk, Int.toNat_natCast]
  have hd : distsOf (b.getD i []) (pieceL v m i) k = distTo (wordOf b c i) (pieceL v m i) m := by
    unfold distsOf distV
    rw [← hw, if_pos (pairE_zero w2 p2 (by rw [w1, p1])), w1]
  rw [Nat.mul_add, Nat.mul_one, distTo_add, hd, distTo_comm (wordOf b c i)]
  congr 1
  refine distTo_congr m fun j hj => ⟨?_, ?_⟩
  · simp [pieceL, List.getD_eq_getElem?_getD, List.getElem?_drop, List.getElem?_take, hj, Nat.mul_comm]
  · rw [← decTo_get hb hc hj b.length hi (Nat.le_refl _)]
    simp [List.getD_eq_getElem?_getD, List.getElem?_drop]
theorem best_le (hb : BookOK b n m) {v : List Int} (hv : checkWide v = 0) (hl : v.length = m * b.length) {c : List Int} (hc : CodeOK b n c) : ∀ i, i ≤ b.length →
    distTo v (decTo b ((List.range b.length).map (codeOf b m v)) b.length) (m * i) ≤ distTo v (decTo b c b.length) (m * i)
  | 0, _ => Int.le_refl _
  | i + 1, h => by
    have ih := best_le hb hv hl hc i (by omega)
    obtain ⟨k, hk, he, hmin⟩ := code_spec hb (v := v) (show i < b.length from h)
    obtain ⟨q, hq, hcq⟩ := hc.2 i h
    rw [dist_part hb hv hl (code_ok hb v) h (k := k) (by simp [show i < b.length from h, he]), dist_part hb hv hl hc h hcq]
    exact Int.add_le_add ih (hmin q hq)
theorem distV_dec (hb : BookOK b n m) {v : List Int} (hv : checkWide v = 0) (hl : v.length = m * b.length) {c : List Int} (hc : CodeOK b n c) : pairE v (decTo b c b.length) = 0 ∧ distV v (decTo b c b.length) = distTo v (decTo b c b.length) (m * b.length) := by
  obtain ⟨h1, h2⟩ := dec_wide hb hc
  have hp := pairE_zero hv h1 (by rw [hl, h2])
  refine ⟨hp, ?_⟩
  unfold distV
  rw [if_pos hp, hl]
theorem Loss_is (hb : BookOK b n m) (h0 : bookE b = 0) {v : List Int} (hv : checkWide v = 0) (hl : v.length = m * b.length) : Ev (fun k => book_Loss.f k b v) (distV v (decTo b ((List.range b.length).map (codeOf b m v)) b.length), 0) := by
  have hp := (distV_dec hb hv hl (code_ok hb v)).1
  unfold book_Loss.f
  refine Ev.bind (Encode_is hb h0 hv hl) (Ev.pos rfl (Ev.bind (Decode_is hb h0 (code_ok hb v)) ?_))
  refine Ev.bindc (a := (distV v (decTo b ((List.range b.length).map (codeOf b m v)) b.length), 0)) ?_ (Ev.some_ _)
  unfold vec_Dist.f
  rw [hp]
end
end Go.Proofs.Ytpcacklmelokiaa.Bk
