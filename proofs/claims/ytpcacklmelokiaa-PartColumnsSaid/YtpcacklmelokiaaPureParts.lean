/- Parts of vectors, plainly: what Cut, Join and Dist tell. -/
import Derived.Test.YtpcacklmelokiaaPartP
namespace Go.Proofs.Ytpcacklmelokiaa.Pa
open Go.RowKit Go.Proofs.YtpcacklmelokiaaW.PrintWords Go.Proofs.YtpcacklmelokiaaW.PrintLast Go.Proofs.Ytpcacklmelokiaa.G
set_option linter.unusedVariables false

/-- Down to a divisor. -/
theorem Ev.down {ρ : Type} {l : Nat → Nat → Option ρ} {r : ρ} (P : Nat → Prop) [DecidablePred P] (h1 : P 1) : ∀ s, 1 ≤ s → (∀ i, 1 ≤ i → i ≤ s → ¬ P i → ∀ k, l i (k + 1) = l (i - 1) k) → (∀ i, 1 ≤ i → i ≤ s → P i → Ev (l i) r) → Ev (l s) r := by
  intro s
  induction s with
  | zero => intro h; omega
  | succ s ih =>
    intro h hs hP
    by_cases hp : P (s + 1)
    · exact hP (s + 1) h (Nat.le_refl _) hp
    · have : s ≠ 0 := by rintro rfl; exact hp h1
      exact Ev.step (hs (s + 1) h (Nat.le_refl _) hp) (ih (by omega) (fun i a b c => hs i a (by omega) c) (fun i a b c => hP i a (by omega) c))
theorem cutE_ok {n k : Nat} {a : List Int} (h : a.length = n) (h1 : 1 ≤ n) (h2 : n ≤ 1024) (hk : 1 ≤ k) (hd : n % k = 0) : cutE a (k : Int) = 0 := by
  unfold cutE partE
  rw [h, if_neg]
  rintro (h3 | h3 | h3 | h3)
  · omega
  · omega
  · omega
  · exact h3 (by omega)
theorem cutL_is {n k : Nat} {a : List Int} (h : a.length = n) (h1 : 1 ≤ n) (h2 : n ≤ 1024) (hk : 1 ≤ k) (hd : n % k = 0) : cutL a (k : Int) = (List.range k).map (pieceL a (n / k)) := by
  unfold cutL
  rw [if_pos (cutE_ok h h1 h2 hk hd), Int.toNat_natCast, h]
theorem width_mul {n k : Nat} (hd : n % k = 0) : k * (n / k) = n := Nat.mul_div_cancel' (Nat.dvd_of_mod_eq_zero hd)
theorem width_pos {n k : Nat} (h1 : 1 ≤ n) (hd : n % k = 0) : 1 ≤ n / k := by
  rcases Nat.eq_zero_or_pos (n / k) with h | h
  · have := width_mul hd
    rw [h] at this
    omega
  · exact h
theorem piece_length {a : List Int} {w p : Nat} (h : p * w + w ≤ a.length) : (pieceL a w p).length = w := by
  simp [pieceL]
  omega
theorem piece_in {k w p n : Nat} (h : k * w = n) (hp : p < k) : p * w + w ≤ n := by
  have := Nat.mul_le_mul_right w (show p + 1 ≤ k by omega)
  rw [Nat.add_mul, Nat.one_mul] at this
  omega
theorem pieces_join {a : List Int} {w : Nat} : ∀ k, k * w ≤ a.length → ((List.range k).map (pieceL a w)).flatten = a.take (k * w)
  | 0, _ => by simp
  | k + 1, h => by
    have h' : k * w + w ≤ a.length := by rw [Nat.add_mul, Nat.one_mul] at h; exact h
    rw [List.range_succ, List.map_append, List.flatten_append, pieces_join k (by omega), Nat.add_mul, Nat.one_mul, List.take_add]
    simp [pieceL]
theorem cut_join {n k : Nat} {a : List Int} (h : a.length = n) (h1 : 1 ≤ n) (h2 : n ≤ 1024) (hk : 1 ≤ k) (hd : n % k = 0) : part_Join.f (cutL a (k : Int)) = some (a, 0) := by
  have hm := width_mul hd
  have hw := width_pos h1 hd
  rw [cutL_is h h1 h2 hk hd]
  have hl : ∀ v ∈ (List.range k).map (pieceL a (n / k)), v.length = n / k := by
    intro v hv
    obtain ⟨p, hp, rfl⟩ := List.mem_map.1 hv
    exact piece_length (by rw [h]; exact piece_in hm (List.mem_range.1 hp))
  have hg : (((List.range k).map (pieceL a (n / k))).getD 0 []).length = n / k := by
    rw [List.getD_eq_getElem?_getD, List.getElem?_eq_getElem (by simp; omega)]
    exact hl _ (List.getElem_mem _)
  have hok : joinOk ((List.range k).map (pieceL a (n / k))) := by
    refine ⟨by simp; omega, by rw [hg]; exact hw, ?_, ?_, fun v hv => by rw [hg]; exact hl v hv⟩
    · simp only [List.length_map, List.length_range]
      have := Nat.le_mul_of_pos_right k hw
      omega
    · rw [hg]
      simp only [List.length_map, List.length_range]
      omega
  unfold part_Join.f
  rw [if_pos (fun v hv => by rw [hl v hv]; have := Nat.div_le_self n k; omega), if_pos hok, if_pos hok, pieces_join k (by omega), hm, ← h, List.take_length]
theorem piece_rd {a : List Int} {w p t : Nat} (h : p * w + w ≤ a.length) (ht : t < w) : rd (pieceL a w p) (t : Int) = rd a ((p * w + t : Nat) : Int) := by
  rw [rd_get (by rw [piece_length h]; exact ht), rd_get (by omega)]
  simp [pieceL]
theorem sqTo_piece {a b : List Int} {w p : Nat} (ha : p * w + w ≤ a.length) (hb : p * w + w ≤ b.length) : ∀ t, t ≤ w → sqTo a b (p * w + t) = sqTo a b (p * w) + sqTo (pieceL a w p) (pieceL b w p) t
  | 0, _ => by simp [sqTo]
  | t + 1, h => by
    rw [← Nat.add_assoc, sqTo, sqTo_piece ha hb t (by omega), sqTo, piece_rd ha (by omega), piece_rd hb (by omega)]
    omega
theorem sqTo_sum {a b : List Int} {w : Nat} : ∀ k, k * w ≤ a.length → k * w ≤ b.length → sqTo a b (k * w) = ((List.range k).map fun p => sqd (pieceL a w p) (pieceL b w p)).sum
  | 0, _, _ => by simp [sqTo]
  | k + 1, ha, hb => by
    have e : (k + 1) * w = k * w + w := by rw [Nat.add_mul, Nat.one_mul]
    rw [e] at ha hb ⊢
    rw [sqTo_piece ha hb w (Nat.le_refl _), sqTo_sum k (by omega) (by omega), List.range_succ, List.map_append, List.sum_append]
    simp [sqd, piece_length ha]
/-- Dist of the parts. -/
theorem pDist_is {a b : List Int} {n k : Nat} (h : a.length = n) (h1 : 1 ≤ n) (h2 : n ≤ 1024) (hk : 1 ≤ k) (hd : n % k = 0) :
    Ev (fun r => part_Dist.f r a b (k : Int)) (if pairE a b = 0 then ((List.range k).map (fun p => sqd (pieceL a (n / k) p) (pieceL b (n / k) p)), 0) else ([], pairE a b)) := by
  unfold part_Dist.f
  refine Ev.bind (vDist_is a b) ?_
  by_cases hp : pairE a b = 0
  · obtain ⟨p1, p2, p3⟩ := pairE_ok hp
    obtain ⟨a1, a2, a3⟩ := checkWide_ok p1
    obtain ⟨b1, b2, b3⟩ := checkWide_ok p2
    have hm := width_mul hd
    have hw := width_pos h1 hd
    have hkn : k ≤ n := by have := Nat.le_mul_of_pos_right k hw; omega
    rw [if_pos hp, if_pos hp]
    refine Ev.pos rfl (Ev.bindc (a := (cutL a k, cutE a k)) rfl ?_)
    simp only []
    refine Ev.pos (cutE_ok h h1 h2 hk hd) (Ev.bindc (a := (cutL b k, cutE b k)) rfl ?_)
    simp only []
    rw [cutL_is h h1 h2 hk hd, cutL_is (a := b) (by omega) h1 h2 hk hd]
    have hlen : ((List.range k).map (pieceL a (n / k))).length = k := by simp
    have hlen2 : ((List.range k).map (pieceL b (n / k))).length = k := by simp
    rw [hlen]
    refine Ev.forE (l := fun i r => part_Dist.l0 r ((List.range k).map (pieceL a (n / k))) ((List.range k).map (pieceL b (n / k))) ((List.range i).map (fun p => sqd (pieceL a (n / k) p) (pieceL b (n / k) p))) (k : Int) (i : Int)) (Nat.zero_le k) (fun i _ hi hnext => ?_) ?_
    · have hin := piece_in hm hi
      have q1 : ∀ x ∈ pieceL a (n / k) i, -131072 ≤ x ∧ x ≤ 131072 := fun x hx => a3 x (List.mem_of_mem_drop (List.mem_of_mem_take hx))
      have q2 : ∀ x ∈ pieceL b (n / k) i, -131072 ≤ x ∧ x ≤ 131072 := fun x hx => b3 x (List.mem_of_mem_drop (List.mem_of_mem_take hx))
      have l1 := piece_length (a := a) (w := n / k) (p := i) (by omega)
      have l2 := piece_length (a := b) (w := n / k) (p := i) (by omega)
      have hE : pairE (pieceL a (n / k) i) (pieceL b (n / k) i) = 0 := by
        unfold pairE
        rw [checkWide_of (by omega) (by omega) q1, checkWide_of (by omega) (by omega) q2]
        simp [l1, l2]
      have hv := vDist_is (pieceL a (n / k) i) (pieceL b (n / k) i)
      rw [if_pos hE] at hv
      refine Ev.step (fun r => by
        simp only [part_Dist.l0]
        rw [if_pos (by omega), if_pos (by omega), if_pos (by omega), if_pos (by omega), wrap_succ (by omega)]) ?_
      have e1 : rd_L1 ((List.range k).map (pieceL a (n / k))) (i : Int) = pieceL a (n / k) i := by rw [rd_L1_get (by omega)]; simp
      have e2 : rd_L1 ((List.range k).map (pieceL b (n / k))) (i : Int) = pieceL b (n / k) i := by rw [rd_L1_get (by omega)]; simp
      rw [e1, e2]
      refine Ev.bind hv (Ev.pos (by simp; omega) ?_)
      rw [List.range_succ, List.map_append] at hnext
      exact hnext
    · exact Ev.step (f := fun _ => some _) (fun r => by simp only [part_Dist.l0]; rw [if_neg (by omega)]) (Ev.some_ _)
  · rw [if_neg hp, if_neg hp]
    exact Ev.neg hp (Ev.some_ _)
theorem lives_is : Ev (fun k => wayfinderlaw14_lives.f k) true := by
  unfold wayfinderlaw14_lives.f
  have c1 : part_Cut.f [1, 2, 3, 4] 2 = some ([[1, 2], [3, 4]], 0) := by decide +kernel
  refine Ev.bindc c1 (Ev.pos (by omega) ?_)
  have hd := pDist_is (a := [1, 2, 3, 4]) (b := List.replicate 4 0) (n := 4) (k := 2) rfl (by omega) (by omega) (by omega) (by omega)
  rw [if_pos (by decide +kernel)] at hd
  have e : (List.range 2).map (fun p => sqd (pieceL [1, 2, 3, 4] (4 / 2) p) (pieceL (List.replicate 4 0) (4 / 2) p)) = [5, 25] := by decide +kernel
  rw [e] at hd
  refine Ev.bind hd (Ev.pos rfl (Ev.pos rfl (Ev.bind (a := true) (Lists_int32_self _ (by decide) (by decide)) (Ev.pos rfl (Ev.bind (a := true) (Same_int64_self _ (by decide)) (Ev.some_ true))))))

end Go.Proofs.Ytpcacklmelokiaa.Pa
