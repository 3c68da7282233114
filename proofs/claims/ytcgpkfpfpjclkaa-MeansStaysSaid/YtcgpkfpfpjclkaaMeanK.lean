/- What the printed functions of means come to: distances, the nearest cent, the mean, copies. -/
import Derived.Test.YtcgpkfpfpjclkaaMeanP
import Derived.Test.YtcgpkfpfpjclkaaEvP
import Derived.Test.YtcgpkfpfpjclkaaMmx4
namespace Go.Proofs.Ytcgpkfpfpjclkaa.Mm
open Go.RowKit Go.Proofs.YtcgpkfpfpjclkaaW.PrintWords Go.Proofs.YtcgpkfpfpjclkaaW.PrintLast Go.Proofs.Ytcgpkfpfpjclkaa.G
set_option linter.unusedVariables false
/-- A wide number. -/
def isWide (x : Int) : Prop := -131072 ≤ x ∧ x ≤ 131072
theorem rdL (C : List (List Int)) (i : Nat) : rd_L1 C (i : Int) = C.getD i [] := rfl
theorem sq_le {x y : Int} (hx : isWide x) (hy : isWide y) : 0 ≤ (x - y) * (x - y) ∧ (x - y) * (x - y) ≤ 68719476736 := by
  unfold isWide at *
  have h1 : -262144 ≤ x - y := by omega
  have h2 : x - y ≤ 262144 := by omega
  generalize x - y = d at *
  rcases Int.le_total 0 d with h | h
  · have := Int.mul_le_mul h2 h2 h (by omega)
    have := Int.mul_nonneg h h
    omega
  · have h3 := Int.mul_le_mul (show -d ≤ 262144 by omega) (show -d ≤ 262144 by omega) (by omega) (by omega)
    have h4 := Int.mul_nonneg_of_nonpos_of_nonpos h h
    rw [Int.neg_mul_neg] at h3
    omega
def wideL (l : List Int) : Prop := ∀ i, isWide (l.getD i 0)
theorem wideL_of {l : List Int} (h : ∀ x ∈ l, isWide x) : wideL l := fun i => by
  by_cases hi : i < l.length
  · rw [List.getD_eq_getElem?_getD, List.getElem?_eq_getElem hi]; exact h _ (List.getElem_mem hi)
  · rw [List.getD_eq_getElem?_getD, List.getElem?_eq_none (by omega)]; unfold isWide; simp
theorem dst_bound {c v : List Int} (hc : wideL c) (hv : wideL v) (n : Nat) : 0 ≤ sumTo n (fun i => (c.getD i 0 - v.getD i 0) * (c.getD i 0 - v.getD i 0)) ∧ sumTo n (fun i => (c.getD i 0 - v.getD i 0) * (c.getD i 0 - v.getD i 0)) ≤ (n : Int) * 68719476736 := by
  have := sumTo_bound (n := n) (fun i _ => sq_le (hc i) (hv i))
  omega
theorem dist_is (c v : List Int) (hl : c.length ≤ v.length) (hm : c.length ≤ 1024) (hc : wideL c) (hv : wideL v) : Ev (fun k => means_dist.f k c v) (dst c v) := by
  show Ev (fun k => means_dist.l0 k v (sumTo 0 (fun i => (c.getD i 0 - v.getD i 0) * (c.getD i 0 - v.getD i 0))) c (c.length : Int) ((0 : Nat) : Int)) _
  refine Ev.forE (l := fun i k => means_dist.l0 k v (sumTo i (fun i => (c.getD i 0 - v.getD i 0) * (c.getD i 0 - v.getD i 0))) c (c.length : Int) (i : Int)) (n := c.length) (Nat.zero_le _) (fun i _ hi h => ?_) ?_
  · have hb := dst_bound hc hv i
    have h1 := sq_le (hc i) (hv i)
    have h2 := hc i
    have h3 := hv i
    unfold isWide at h2 h3
    refine Ev.step (f := fun k => means_dist.l0 k v (sumTo (i + 1) (fun i => (c.getD i 0 - v.getD i 0) * (c.getD i 0 - v.getD i 0))) c (c.length : Int) ((i + 1 : Nat) : Int)) (fun k => ?_) h
    simp only [means_dist.l0]
    rw [if_pos (by omega), if_pos (by omega), if_pos (by omega), if_pos (by omega), rd_nat, rd_nat, wrap_in (x := c.getD i 0) (by omega) (by omega), wrap_in (x := v.getD i 0) (by omega) (by omega), wrap_in (x := c.getD i 0 - v.getD i 0) (by omega) (by omega), wrap_succ (by omega)]
    rw [show sumTo (i + 1) (fun i => (c.getD i 0 - v.getD i 0) * (c.getD i 0 - v.getD i 0)) = sumTo i (fun i => (c.getD i 0 - v.getD i 0) * (c.getD i 0 - v.getD i 0)) + (c.getD i 0 - v.getD i 0) * (c.getD i 0 - v.getD i 0) from rfl]
    generalize (c.getD i 0 - v.getD i 0) * (c.getD i 0 - v.getD i 0) = s at *
    rw [wrap_in (x := s) (by omega) (by omega), wrap_in (by omega) (by omega)]
  · refine Ev.step (f := fun _ => some (dst c v)) (fun k => ?_) (Ev.some_ _)
    simp only [means_dist.l0]
    rw [if_neg (by omega)]
    rfl
/-- Rows of one length, of wide numbers. -/
structure Val (m : Nat) (C : List (List Int)) : Prop where
  len : ∀ j, j < C.length → (C.getD j []).length = m
  wide : ∀ j, wideL (C.getD j [])
theorem near_is (C : List (List Int)) (v : List Int) (m : Nat) (hC : Val m C) (hm : m ≤ 1024) (hv : v.length = m) (hw : wideL v) (hl : C.length ≤ 1000000) : Ev (fun k => means_nearest.f k C v) (((near C v).1 : Int), (near C v).2) := by
  show Ev (fun k => means_nearest.l0 k v ((nearTo C v 0).1 : Int) (nearTo C v 0).2 C (C.length : Int) ((0 : Nat) : Int)) _
  refine Ev.forE (l := fun i k => means_nearest.l0 k v ((nearTo C v i).1 : Int) (nearTo C v i).2 C (C.length : Int) (i : Int)) (n := C.length) (Nat.zero_le _) (fun i _ hi h => ?_) ?_
  · have hci := hC.len i hi
    refine Ev.step (fun k => by simp only [means_nearest.l0]; rw [if_pos (by omega), if_pos (by omega), if_pos (by omega), rdL, wrap_succ (by omega)]) ?_
    refine Ev.bind (dist_is _ v (by omega) (by omega) (hC.wide i) hw) ?_
    simp only [nearTo] at h
    by_cases h1 : (nearTo C v i).2 < 0
    · rw [if_pos (Or.inl h1)] at h
      exact Ev.pos h1 h
    · refine Ev.neg h1 ?_
      by_cases h2 : dst (C.getD i []) v < (nearTo C v i).2
      · rw [if_pos (Or.inr h2)] at h
        exact Ev.pos h2 h
      · rw [if_neg (by omega)] at h
        exact Ev.neg h2 h
  · refine Ev.step (f := fun _ => some _) (fun k => ?_) (Ev.some_ _)
    simp only [means_nearest.l0]
    rw [if_neg (by omega)]
    rfl
theorem mean_is (s n : Int) (h1 : 1 ≤ n) (h2 : n ≤ 1152921504606846976) (h3 : -1152921504606846976 ≤ s) (h4 : s ≤ 1152921504606846976) : root_Mean.f s n = some (meanI s n, 0) := by
  unfold root_Mean.f
  rw [if_neg (by omega), if_neg (by omega), if_neg (by omega), if_neg (by omega), wrap_in (x := 2 * s) (by omega) (by omega), wrap_in (x := 2 * n) (by omega) (by omega), wrap_in (x := 2 * s + n) (by omega) (by omega)]
  unfold root_Div.f meanI
  rw [if_neg (by omega), if_neg (by omega)]
  have hd := Int.mul_ediv_add_emod (2 * s + n) (2 * n)
  have hr0 := Int.emod_nonneg (2 * s + n) (show 2 * n ≠ 0 by omega)
  have hr1 := Int.emod_lt_of_pos (2 * s + n) (show 0 < 2 * n by omega)
  have ht := Int.mul_tdiv_add_tmod (2 * s + n) (2 * n)
  have hq : Int.tdiv (2 * s + n) (2 * n) = if Int.tmod (2 * s + n) (2 * n) < 0 then (2 * s + n) / (2 * n) + 1 else (2 * s + n) / (2 * n) := by
    rw [Int.tdiv_eq_ediv, Int.tmod_eq_emod]
    have hsn : (2 * n).sign = 1 := Int.sign_eq_one_of_pos (by omega)
    rw [hsn]
    split
    · next h => rw [if_neg (by omega)]; omega
    · next h =>
      have hdv : ¬ 2 * n ∣ 2 * s + n := fun hd => h (Or.inr hd)
      have hpos : (2 * s + n) % (2 * n) ≠ 0 := fun he => hdv (Int.dvd_of_emod_eq_zero he)
      rw [if_pos (by omega)]
  have hab : (2 * s + n) / (2 * n) ≤ 4611686018427387904 ∧ -4611686018427387904 ≤ (2 * s + n) / (2 * n) := by
    constructor
    · refine Int.le_of_lt_add_one ?_
      rw [Int.ediv_lt_iff_lt_mul (by omega)]
      omega
    · rw [Int.le_ediv_iff_mul_le (by omega)]
      omega
  rw [hq]
  clear hq hd ht hr0 hr1
  generalize (2 * s + n) / (2 * n) = q at *
  by_cases h : Int.tmod (2 * s + n) (2 * n) < 0
  · rw [if_pos h, if_pos h, wrap_in (x := q + 1) (by omega) (by omega), wrap_in (by omega) (by omega)]
    simp
  · rw [if_neg h, if_neg h, wrap_in (by omega) (by omega)]
    simp
theorem copied_is (P : List (List Int)) (hl : P.length ≤ 1000000) (hr : ∀ j, j < P.length → (P.getD j []).length ≤ 1024) : Ev (fun k => means_copied.f k P) P := by
  show Ev (fun k => means_copied.l0 k (P.take 0) P (P.length : Int) ((0 : Nat) : Int)) _
  refine Ev.forE (l := fun i k => means_copied.l0 k (P.take i) P (P.length : Int) (i : Int)) (n := P.length) (Nat.zero_le _) (fun i _ hi h => ?_) ?_
  · refine Ev.step (fun k => by simp only [means_copied.l0]; rw [if_pos (by omega), if_pos (by omega), if_pos (by omega), rdL, wrap_succ (by omega)]) ?_
    refine Ev.bindc (a := P.getD i []) (by unfold slices_Clone_int32_int32.f; rw [if_pos (hr i hi)]) ?_
    refine Ev.pos (by rw [List.length_take]; omega) ?_
    have e : P.take (i + 1) = P.take i ++ [P.getD i []] := by
      rw [List.take_succ_eq_append_getElem hi, List.getD_eq_getElem?_getD, List.getElem?_eq_getElem hi, Option.getD_some]
    rw [← e]
    exact h
  · refine Ev.step (f := fun _ => some P) (fun k => ?_) (Ev.some_ _)
    simp only [means_copied.l0]
    rw [if_neg (by omega), List.take_length]
end Go.Proofs.Ytcgpkfpfpjclkaa.Mm
