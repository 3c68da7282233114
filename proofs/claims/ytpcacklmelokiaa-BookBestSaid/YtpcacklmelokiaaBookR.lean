/- Statement BookBest, plainly. -/
import Derived.Test.YtpcacklmelokiaaBookQ
import Derived.Test.YtpcacklmelokiaaBkx3
namespace Go.Proofs.Ytpcacklmelokiaa.Bk
open Go.RowKit Go.Proofs.YtpcacklmelokiaaW.PrintWords Go.Proofs.YtpcacklmelokiaaW.PrintLast Go.Proofs.Ytpcacklmelokiaa.G
set_option linter.unusedVariables false

theorem distTo_add (a b : List Int) (n : Nat) : ∀ d, distTo a b (n + d) = distTo a b n + distTo (a.drop n) (b.drop n) d
  | 0 => by simp [distTo]
  | d + 1 => by
    have ih := distTo_add a b n d
    have g : ∀ l : List Int, (l.drop n).getD d 0 = l.getD (n + d) 0 := fun l => by simp [List.getD_eq_getElem?_getD, List.getElem?_drop]
    show distTo a b (n + d) + sq (a.getD (n + d) 0) (b.getD (n + d) 0) = distTo a b n + (distTo (a.drop n) (b.drop n) d + sq ((a.drop n).getD d 0) ((b.drop n).getD d 0))
    rw [ih, g, g]
    omega
theorem distTo_congr {a a' b b' : List Int} : ∀ k, (∀ j, j < k → a.getD j 0 = a'.getD j 0 ∧ b.getD j 0 = b'.getD j 0) → distTo a b k = distTo a' b' k
  | 0, _ => rfl
  | k + 1, h => by
    have ih := distTo_congr k fun j hj => h j (by omega)
    have h2 := h k (by omega)
    simp only [distTo, ih, h2.1, h2.2]
theorem distTo_comm (a b : List Int) : ∀ k, distTo a b k = distTo b a k
  | 0 => rfl
  | k + 1 => by
    have ih := distTo_comm a b k
    have h : ∀ x y : Int, sq x y = sq y x := fun x y => by
      unfold sq
      rw [← Int.neg_mul_neg]
      congr 1 <;> omega
    simp only [distTo, ih, h]
section
variable {b : List (List (List Int))} {n m : Nat}
theorem decTo_get (hb : BookOK b n m) {c : List Int} (hc : CodeOK b n c) {i j : Nat} (hj : j < m) : ∀ Q, i < Q → Q ≤ b.length → (decTo b c Q).getD (m * i + j) 0 = (wordOf b c i).getD j 0
  | 0, h, _ => by omega
  | Q + 1, h, hQ => by
    have hl := decTo_length hb hc Q (by omega)
    rw [decTo_succ, List.getD_eq_getElem?_getD, List.getElem?_append]
    by_cases hi : i < Q
    · have h1 : m * i + j < m * Q := by
        have := Nat.mul_le_mul_left m (show i + 1 ≤ Q from hi)
        rw [Nat.mul_add, Nat.mul_one] at this
        omega
      rw [if_pos (by omega), ← List.getD_eq_getElem?_getD]
      exact decTo_get hb hc hj Q hi (by omega)
    · obtain rfl : i = Q := by omega
      rw [if_neg (by omega), hl, List.getD_eq_getElem?_getD, show m * i + j - m * i = j by omega]
theorem dist_part (hb : BookOK b n m) {v : List Int} (hv : checkWide v = 0) (hl : v.length = m * b.length) {c : List Int} (hc : CodeOK b n c) {i k : Nat} (hi : i < b.length) (hk : c.getD i 0 = (k : Int)) :
    distTo v (decTo b c b.length) (m * (i + 1)) = distTo v (decTo b c b.length) (m * i) + distsOf (b.getD i []) (pieceL v m i) k := by
  obtain ⟨p1, p2⟩ := piece_ok hb hv hl hi
  obtain ⟨w1, w2⟩ := wordOf_ok hb hc hi
  have hw : wordOf b c i = (b.getD i []).getD k [] := by unfold wordOf; rw [hk, Int.toNat_natCast]
  have hd : distsOf (b.getD i []) (pieceL v m i) k = distTo (wordOf b c i) (pieceL v m i) m := by
    unfold distsOf distV
    rw [← hw, if_pos (pairE_zero w2 p2 (by rw [w1, p1])), w1]
  rw [Nat.mul_add, Nat.mul_one, distTo_add, hd, distTo_comm (wordOf b c i)]
  congr 1
  refine distTo_congr m fun j hj => ⟨?_, ?_⟩
  · simp [pieceL, List.getD_eq_getElem?_getD, List.getElem?_drop, List.getElem?_take, hj, Nat.mul_comm]
  · rw [← decTo_get hb hc hj b.length hi (Nat.le_refl _)]
    simp [List.getD_eq_getElem?_getD, List.getElem?_drop]
theorem best_le (hb : BookOK b n m) {v : List Int} (hv : checkWide v = 0) (hl : v.length = m * b.length) {c : List Int} (hc : CodeOK b n c) : ∀ i, i ≤ b.length →
    distTo v (decTo b ((List.range b.length).map (codeOf b m v)) b.length) (m * i) ≤ distTo v (decTo b c b.length) (m * i)
  | 0, _ => Int.le_refl _
  | i + 1, h => by
    have ih := best_le hb hv hl hc i (by omega)
    obtain ⟨k, hk, he, hmin⟩ := code_spec hb (v := v) (show i < b.length from h)
    obtain ⟨q, hq, hcq⟩ := hc.2 i h
    rw [dist_part hb hv hl (code_ok hb v) h (k := k) (by simp [show i < b.length from h, he]), dist_part hb hv hl hc h hcq]
    exact Int.add_le_add ih (hmin q hq)
theorem distV_dec (hb : BookOK b n m) {v : List Int} (hv : checkWide v = 0) (hl : v.length = m * b.length) {c : List Int} (hc : CodeOK b n c) : pairE v (decTo b c b.length) = 0 ∧ distV v (decTo b c b.length) = distTo v (decTo b c b.length) (m * b.length) := by
  obtain ⟨h1, h2⟩ := dec_wide hb hc
  have hp := pairE_zero hv h1 (by rw [hl, h2])
  refine ⟨hp, ?_⟩
  unfold distV
  rw [if_pos hp, hl]
theorem Loss_is (hb : BookOK b n m) (h0 : bookE b = 0) {v : List Int} (hv : checkWide v = 0) (hl : v.length = m * b.length) : Ev (fun k => book_Loss.f k b v) (distV v (decTo b ((List.range b.length).map (codeOf b m v)) b.length), 0) := by
  have hp := (distV_dec hb hv hl (code_ok hb v)).1
  unfold book_Loss.f
  refine Ev.bind (Encode_is hb h0 hv hl) (Ev.pos rfl (Ev.bind (Decode_is hb h0 (code_ok hb v)) ?_))
  refine Ev.bindc (a := (distV v (decTo b ((List.range b.length).map (codeOf b m v)) b.length), 0)) ?_ (Ev.some_ _)
  unfold vec_Dist.f
  rw [hp]
theorem j0_true (v c : List Int) : Ev (fun k => wayfinderlaw15_BookBest.j0 k v c true b) true :=
  Ev.step (f := fun _ => some true) (fun k => by simp only [wayfinderlaw15_BookBest.j0]; rw [if_pos trivial]) (Ev.some_ _)
theorem lens (hb : BookOK b n m) {v : List Int} (hl : v.length = m * b.length) {c : List Int} (hc : CodeOK b n c) : v.length ≤ 140737488355328 - 1 ∧ (decTo b c b.length).length ≤ 140737488355328 - 1 ∧ v.length ≤ 140737488351232 ∧ (decTo b c b.length).length ≤ 140737488351232 := by
  have := hb.most
  have := (dec_wide hb hc).2
  omega
theorem final_is (hb : BookOK b n m) (h0 : bookE b = 0) {v : List Int} (hv : checkWide v = 0) (hl : v.length = m * b.length) {c : List Int} (hc : CodeOK b n c) :
    Ev (fun k => (book_Decode.f k b c).bind fun bt => (wayfinderref03_Dist.f k v bt.1).bind fun bd => if bt.2 = 0 then (if bd.2 = 0 then some (decide (bd.1 ≥ distV v (decTo b ((List.range b.length).map (codeOf b m v)) b.length))) else none) else none) true := by
  obtain ⟨_, _, l1, l2⟩ := lens hb hl hc
  obtain ⟨p, q⟩ := distV_dec hb hv hl hc
  refine Ev.bind (Decode_is hb h0 hc) (Ev.bind (rDist_is _ _ l1 l2) (Ev.pos rfl (Ev.pos p (Ev.const ?_))))
  have h := best_le hb hv hl hc b.length (Nat.le_refl _)
  rw [← q, ← (distV_dec hb hv hl (code_ok hb v)).2] at h
  exact congrArg some (decide_eq_true h)
theorem best_loop (hb : BookOK b n m) (h0 : bookE b = 0) {v : List Int} (hv : checkWide v = 0) (hl : v.length = m * b.length) {code : List Int} (hcode : ∀ x ∈ code, 0 ≤ x ∧ x ≤ 255) : ∀ d i (c : List Int), i + d = b.length → CodeOK b n c →
    Ev (fun k => wayfinderlaw15_BookBest.l0 k v code (distV v (decTo b ((List.range b.length).map (codeOf b m v)) b.length)) c (i : Int) b) true := by
  intro d
  induction d with
  | zero =>
    intro i c hi hc
    have hlc := hc.1
    exact Ev.step (fun k => by simp only [wayfinderlaw15_BookBest.l0]; rw [if_neg (by omega)]) (final_is hb h0 hv hl hc)
  | succ d ih =>
    intro i c hi hc
    have hlc := hc.1
    have hib : i < b.length := by omega
    by_cases hic : i < code.length
    · have hp := hb.parts _ (getD_mem (z := []) hib)
      have hn1 := hb.n1
      have hn2 := hb.n2
      have e1 : rd_L3 b (i : Int) = b.getD i [] := rfl
      have hx := hcode _ (getD_mem (z := 0) hic)
      have hmost := hb.most
      have hmul := Nat.le_mul_of_pos_left b.length hb.m1
      obtain ⟨q, hq⟩ : ∃ q : Nat, code.getD i 0 = (q : Int) := ⟨(code.getD i 0).toNat, by omega⟩
      have hv2 : Int.tmod (wrap64 (rd code (i : Int))) ((b.getD i []).length : Int) % 256 = ((q % n : Nat) : Int) := by
        rw [rd_nat, hq, wrap_nat (by omega), hp]
        have h1 : Int.tmod (q : Int) (n : Int) = ((q % n : Nat) : Int) := by rw [Int.tmod_eq_emod_of_nonneg (by omega)]; exact (Int.natCast_emod q n).symm
        have h2 := Nat.mod_lt q (show 0 < n by omega)
        rw [h1]
        omega
      refine Ev.step (fun k => by simp only [wayfinderlaw15_BookBest.l0]; rw [if_pos (by omega), if_pos (by omega), if_pos (by omega), if_pos (by omega), e1, if_neg (by omega), hv2, wrap_succ (by omega), Int.toNat_natCast]) (ih (i + 1) _ (by omega) ?_)
      refine ⟨by rw [List.length_set]; exact hc.1, fun j hj => ?_⟩
      by_cases hji : i = j
      · subst hji
        exact ⟨q % n, Nat.mod_lt _ (by omega), by simp [List.getD_eq_getElem?_getD, List.getElem?_set, hlc, hj]⟩
      · obtain ⟨y, hy, hye⟩ := hc.2 j hj
        exact ⟨y, hy, by rw [← hye]; simp [List.getD_eq_getElem?_getD, List.getElem?_set, hji]⟩
    · exact Ev.step (fun k => by simp only [wayfinderlaw15_BookBest.l0]; rw [if_pos (by omega), if_neg (by omega)]) (final_is hb h0 hv hl hc)
end
theorem BookBest_is (b : List (List (List Int))) (v code : List Int) (hcode : ∀ x ∈ code, 0 ≤ x ∧ x ≤ 255) : Ev (fun k => wayfinderlaw15_BookBest.f k b v code) true := by
  unfold wayfinderlaw15_BookBest.f
  refine Ev.bindc (a := true) rfl (Ev.pos rfl ?_)
  obtain ⟨r, hr⟩ := light_ev b
  refine Ev.bind hr ?_
  cases r with
  | false => exact Ev.neg (by decide) (j0_true v code)
  | true =>
  refine Ev.pos rfl ?_
  by_cases h1 : (v.length : Int) > 1100
  · exact Ev.pos h1 (j0_true v code)
  refine Ev.neg h1 ?_
  by_cases h2 : (code.length : Int) > 1100
  · exact Ev.pos h2 (j0_true v code)
  refine Ev.neg h2 (Ev.bindc (a := bookE b) rfl ?_)
  by_cases h0 : bookE b = 0
  · rw [h0]
    obtain ⟨n, m, hb⟩ := bookE_ok h0
    refine Ev.step (fun k => by simp only [wayfinderlaw15_BookBest.j0]; rw [if_neg (by decide)]) ?_
    by_cases h3 : checkWide v = 0 ∧ v.length = m * b.length
    · obtain ⟨hv, hl⟩ := h3
      have hp := (distV_dec hb hv hl (code_ok hb v)).1
      obtain ⟨_, _, l1, l2⟩ := lens hb hl (code_ok hb v)
      have hmost := hb.most
      have hmul := Nat.le_mul_of_pos_left b.length hb.m1
      refine Ev.bind (Encode_is hb h0 hv hl) (Ev.pos rfl (Ev.bind (Loss_is hb h0 hv hl) (Ev.bind (Decode_is hb h0 (code_ok hb v)) (Ev.bind (rDist_is _ _ l1 l2) (Ev.pos rfl (Ev.pos rfl (Ev.pos hp ?_)))))))
      have hne : (distV v (decTo b ((List.range b.length).map (codeOf b m v)) b.length) != distV v (decTo b ((List.range b.length).map (codeOf b m v)) b.length)) = false := by simp
      dsimp only
      rw [hne]
      refine Ev.step (fun k => by simp only [wayfinderlaw15_BookBest.j1]; rw [if_neg (by decide), if_pos (by omega), if_pos (by omega), Int.toNat_natCast]) ?_
      refine best_loop hb h0 hv hl hcode b.length 0 _ (by omega) ⟨by simp, fun i hi => ⟨0, hb.n1, by simp [hi]⟩⟩
    · obtain ⟨e, he, hE⟩ := Encode_bad hb h0 h3
      exact Ev.bind hE (Ev.neg he (Ev.const (by rfl)))
  · have : (bookE b != 0) = true := by simpa using h0
    rw [this]
    exact j0_true v code
end Go.Proofs.Ytpcacklmelokiaa.Bk
