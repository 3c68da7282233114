/- Statement PartSums, over numbers and lists: the parts joined are the vector; their distances add up to that of the vectors. -/
import Derived.Test.YticpdlaiindlfaaPureParts
namespace Go.Proofs.Yticpdlaiindlfaa.Pure
open Go.RowKit Go.Proofs.Yticpdlaiindlfaa.Pa Go.Proofs.YticpdlaiindlfaaW.PrintWords Go.Proofs.YticpdlaiindlfaaW.PrintLast Go.Proofs.Yticpdlaiindlfaa.G
set_option linter.unusedVariables false

theorem sum_take (l : List Int) (i : Nat) (h : i < l.length) : (l.take (i + 1)).sum = (l.take i).sum + l[i] := by
  rw [List.take_succ_eq_append_getElem h, List.sum_append]
  simp
theorem PartSums : wayfinderlaw14_PartSums.Pure := by
  intro l0 l1 a2 hm0 hr0 hw0 hm1 hr1 hw1 hw2
  refine Ev.rounds ?_
  have b2 := wf_i64 hw2
  unfold wayfinderlaw14_PartSums.f
  refine Ev.bind lives_is (Ev.pos rfl ?_)
  by_cases h1 : (l0.length : Int) < 1
  · exact Ev.pos h1 (Ev.step (f := fun _ => some true) (fun k => by simp only [wayfinderlaw14_PartSums.j0]; rw [if_pos trivial]) (Ev.some_ true))
  refine Ev.neg h1 ?_
  by_cases h2 : (l0.length : Int) > 1024
  · exact Ev.step (f := fun _ => some true) (fun k => by simp only [wayfinderlaw14_PartSums.j0]; rw [if_pos (by simpa using h2)]) (Ev.some_ true)
  refine Ev.step (fun k => by simp only [wayfinderlaw14_PartSums.j0]; rw [if_neg (by simpa using h2)]) ?_
  refine Ev.bindc (Pick_is b2 (by omega) (by omega)) ?_
  obtain ⟨n, hn⟩ : ∃ n, l0.length = n := ⟨_, rfl⟩
  rw [hn]
  have hn1 : 1 ≤ n ∧ n ≤ 1024 := by omega
  have e1 := Int.emod_nonneg a2 (show (n : Int) ≠ 0 by omega)
  have e2 := Int.emod_lt_of_pos a2 (show (0 : Int) < (n : Int) by omega)
  obtain ⟨s, hs⟩ : ∃ s : Nat, 1 + a2 % (n : Int) = s := ⟨(1 + a2 % (n : Int)).toNat, by omega⟩
  rw [hs, wrap_nat (by omega)]
  refine Ev.down (l := fun k r => wayfinderlaw14_PartSums.l0 r l0 l1 (n : Int) (k : Int)) (fun k => n % k = 0) (Nat.mod_one n) s (by omega) (fun i hi his hp r => ?_) (fun k hk hks hd => ?_)
  · simp only [wayfinderlaw14_PartSums.l0]
    rw [if_neg (by omega), Int.tmod_eq_emod_of_nonneg (by omega), if_neg (by omega), wrap_in (by omega) (by omega), show ((i - 1 : Nat) : Int) = (i : Int) - 1 by omega]
  have hm := width_mul hd
  have hw := width_pos hn1.1 hd
  have hkn : k ≤ n := by have := Nat.le_mul_of_pos_right k hw; omega
  have hcl := cutL_is hn hn1.1 hn1.2 hk hd
  have hlen : (cutL l0 (k : Int)).length = k := by rw [hcl]; simp
  refine Ev.step (fun r => by
    simp only [wayfinderlaw14_PartSums.l0]
    rw [if_neg (by omega), Int.tmod_eq_emod_of_nonneg (by omega), if_pos (by omega)]) ?_
  refine Ev.bindc (a := (cutL l0 k, cutE l0 k)) rfl (Ev.bindc (cut_join hn hn1.1 hn1.2 hk hd) (Ev.pos (cutE_ok hn hn1.1 hn1.2 hk hd) (Ev.pos rfl (Ev.pos (by simp only []; omega) (Ev.bind (a := true) (Same_int32_self l0 (by omega)) ?_)))))
  refine Ev.step (fun r => by simp only [wayfinderlaw14_PartSums.j2]; rw [if_neg (by simp)]) ?_
  refine Ev.for_ (l := fun i r => wayfinderlaw14_PartSums.l1 r l0 l1 (n : Int) (k : Int) (cutL l0 k) (i : Int)) (Nat.zero_le k) (fun i _ hi r => ?_) (fun r => ?_) ?_ (g := fun r => ((part_Dist.f r l0 l1 (k : Int)).bind fun d => ((wayfinderref03_Dist.f r l0 l1).bind fun e => if d.2 = e.2 then wayfinderlaw14_PartSums.l2 r (k : Int) d.1 e.1 e.2 0 0 else none)))
  · have e3 : rd_L1 (cutL l0 (k : Int)) (i : Int) = pieceL l0 (n / k) i := by rw [rd_L1_get (by omega)]; simp [hcl]
    have e4 : (pieceL l0 (n / k) i).length = n / k := piece_length (by rw [hn]; exact piece_in hm hi)
    have e5 : wrap64 (Int.tdiv (n : Int) (k : Int)) = ((n / k : Nat) : Int) := by
      rw [Int.tdiv_eq_ediv_of_nonneg (by omega), show (n : Int) / (k : Int) = ((n / k : Nat) : Int) from rfl, wrap_nat (by have := Nat.div_le_self n k; omega)]
    have e6 : part_Width.f (n : Int) (k : Int) = some ((n / k : Nat) : Int) := by
      unfold part_Width.f part_Check.f
      rw [if_neg (by omega), if_neg (by omega), if_neg (by omega), if_neg (by omega), Int.tmod_eq_emod_of_nonneg (by omega), if_pos (by omega)]
      simp only [Option.bind_some]
      rw [if_pos trivial, if_neg (by omega), e5]
    simp only [wayfinderlaw14_PartSums.l1]
    rw [if_pos (by omega), if_pos (by omega), if_pos (by omega), if_neg (by omega), e3, e4, e5, if_pos rfl, e6]
    simp only [Option.bind_some]
    rw [if_pos trivial, wrap_succ (by omega)]
  · simp only [wayfinderlaw14_PartSums.l1]
    rw [if_neg (by omega)]
  · refine Ev.bind (pDist_is hn hn1.1 hn1.2 hk hd) (Ev.bind (rDist_is l0 l1 (by omega) (by omega)) ?_)
    by_cases hp : pairE l0 l1 = 0
    · obtain ⟨p1, p2, p3⟩ := pairE_ok hp
      obtain ⟨c1, c2, c3⟩ := checkWide_ok p1
      obtain ⟨d1, d2, d3⟩ := checkWide_ok p2
      rw [if_pos hp, if_pos hp]
      refine Ev.pos rfl ?_
      obtain ⟨D, hD⟩ : ∃ D, D = (List.range k).map fun p => sqd (pieceL l0 (n / k) p) (pieceL l1 (n / k) p) := ⟨_, rfl⟩
      have hDl : D.length = k := by rw [hD]; simp
      have hsum : D.sum = sqd l0 l1 := by
        rw [hD, ← sqTo_sum k (by omega) (by omega), hm, sqd, hn]
      have hpart : ∀ i, i ≤ k → 0 ≤ (D.take i).sum ∧ (D.take i).sum ≤ 70368744177664 := by
        intro i hi
        have h3 : (D.take i).sum = sqTo l0 l1 (i * (n / k)) := by
          rw [hD, ← List.map_take, List.take_range, Nat.min_eq_left hi]
          have := Nat.mul_le_mul_right (n / k) hi
          exact (sqTo_sum i (by omega) (by omega)).symm
        have := Nat.mul_le_mul_right (n / k) hi
        have h4 := sqTo_bd c3 d3 (i * (n / k)) (by omega) (by omega)
        rw [h3]
        omega
      rw [← hD]
      simp only []
      refine Ev.for_ (l := fun i r => wayfinderlaw14_PartSums.l2 r (k : Int) D (sqd l0 l1) 0 (D.take i).sum (i : Int)) (g := fun _ => some ((D.length : Int) == (k : Int))) (Nat.zero_le k) (fun i _ hi r => ?_) (fun r => ?_) ?_
      · have h5 := hpart (i + 1) (by omega)
        rw [sum_take D i (by omega)] at h5
        simp only [wayfinderlaw14_PartSums.l2]
        rw [if_pos (by omega), if_pos (by omega), rd_get (by omega), wrap_in (by omega) (by omega), wrap_succ (by omega), sum_take D i (by omega)]
      · simp only [wayfinderlaw14_PartSums.l2]
        rw [if_neg (by omega), if_pos (by rw [← hDl, List.take_length, hsum]), if_pos trivial]
      · refine Ev.const ?_
        rw [hDl]
        simp
    · rw [if_neg hp, if_neg hp]
      refine Ev.pos rfl ?_
      simp only []
      exact Ev.step (f := fun _ => some true) (fun r => by simp only [wayfinderlaw14_PartSums.l2]; rw [if_neg (by simp), if_pos trivial, if_neg hp]) (Ev.some_ true)

end Go.Proofs.Yticpdlaiindlfaa.Pure
