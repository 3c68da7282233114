/- Statement DrawFew, over numbers and lists: picks do not depend on draws after the last one that is needed, and on each draw only by its remainder. -/
import Derived.Test.YtkippapoicdlhaaDrawP
namespace Go.Proofs.Ytkippapoicdlhaa.Pure
open Go.RowKit Go.Proofs.Ytkippapoicdlhaa.Dr Go.Proofs.YtkippapoicdlhaaW.PrintWords Go.Proofs.YtkippapoicdlhaaW.PrintLast Go.Proofs.Ytkippapoicdlhaa.G
set_option linter.unusedVariables false

def lowL (l : List Int) (k : Nat) : List Int := (l.take k).map (· % 1099511627776)
def moreL (l : List Int) (n k : Nat) : List Int := (l.take k).mapIdx fun i x => x % 1099511627776 + ((n : Int) - i) * ((i : Int) + 1)
theorem lowL_length {l : List Int} {k : Nat} (h : k ≤ l.length) : (lowL l k).length = k := by simp [lowL, h]
theorem moreL_length {l : List Int} {n k : Nat} (h : k ≤ l.length) : (moreL l n k).length = k := by simp [moreL, h]
theorem DrawFew : wayfinderlaw11_DrawFew.Pure := by
  intro l0 a1 a2 l3 hm0 hr0 hw0 hw1 hw2 hm3 hr3 hw3
  refine Ev.rounds ?_
  have b1 := wf_i64 hw1
  have b2 := wf_i64 hw2
  have hl0 : ∀ x ∈ l0, 0 ≤ x ∧ x < 18446744073709551616 := fun x hx => by have := wf_u64 (hw0 x hx); omega
  have hl3 : ∀ x ∈ l3, 0 ≤ x ∧ x < 18446744073709551616 := fun x hx => by have := wf_u64 (hw3 x hx); omega
  unfold wayfinderlaw11_DrawFew.f
  refine Ev.bind lives_is ?_
  refine Ev.pos rfl ?_
  by_cases h300 : (l0.length : Int) > 300
  · refine Ev.pos h300 (Ev.step (f := fun _ => some true) (fun k => ?_) (Ev.some_ true))
    simp only [wayfinderlaw11_DrawFew.j0]
    rw [if_pos trivial]
  refine Ev.neg h300 ?_
  by_cases h301 : (l3.length : Int) > 300
  · refine Ev.step (f := fun _ => some true) (fun k => ?_) (Ev.some_ true)
    simp only [wayfinderlaw11_DrawFew.j0]
    rw [if_pos (by simpa using h301)]
  refine Ev.step (fun k => by simp only [wayfinderlaw11_DrawFew.j0]; rw [if_neg (by simpa using h301)]) ?_
  refine Ev.bindc (Pick_is b1 (by omega) (by omega)) ?_
  obtain ⟨n, hn⟩ : ∃ n : Nat, a1 % 60 + 1 = n := ⟨(a1 % 60 + 1).toNat, by omega⟩
  have hn1 : 1 ≤ n ∧ n ≤ 60 := by omega
  rw [show (1 : Int) + a1 % 60 = n by omega, wrap_nat (by omega), show wrap64 ((n : Int) + 1) = ((n + 1 : Nat) : Int) from wrap_succ (by omega)]
  refine Ev.bindc (Pick_is b2 (by omega) (by omega)) ?_
  obtain ⟨k, hk⟩ : ∃ k : Nat, a2 % ((n + 1 : Nat) : Int) = k := ⟨(a2 % ((n + 1 : Nat) : Int)).toNat, by have := Int.emod_nonneg a2 (show ((n + 1 : Nat) : Int) ≠ 0 by omega); omega⟩
  have hkn : k ≤ n := by have := Int.emod_lt_of_pos a2 (show (0 : Int) < ((n + 1 : Nat) : Int) by omega); omega
  rw [hk]
  clear hn hk
  by_cases hlk : (l0.length : Int) < (k : Int)
  · exact Ev.pos hlk (Ev.some_ true)
  refine Ev.neg hlk (Ev.pos (by omega) (Ev.pos (by omega) ?_))
  have hkl : k ≤ l0.length := by omega
  rw [Int.toNat_natCast]
  have ht : (l0.take k).length = k := by simp [hkl]
  refine Ev.bindc (Own_is (by rw [ht]; omega)) ?_
  have e1 : (moreL l0 n k).length = (l0.take k).length := by rw [moreL_length hkl, ht]
  have e2 : (lowL l0 k).length = (l0.take k).length := by rw [lowL_length hkl, ht]
  have hx : ∀ i (hi : i < (l0.take k).length), 0 ≤ (l0.take k)[i] ∧ (l0.take k)[i] < 18446744073709551616 := fun i hi => hl0 _ (List.mem_of_mem_take (List.getElem_mem hi))
  have m1 : ∀ i (hi : i < (l0.take k).length), (moreL l0 n k)[i]'(by omega) = (l0.take k)[i] % 1099511627776 + ((n : Int) - i) * ((i : Int) + 1) := fun i hi => by simp [moreL]
  have m2 : ∀ i (hi : i < (l0.take k).length), (lowL l0 k)[i]'(by omega) = (l0.take k)[i] % 1099511627776 := fun i hi => by simp [lowL]
  have hprod : ∀ i, i < k → 0 ≤ ((n : Int) - i) * ((i : Int) + 1) ∧ ((n : Int) - i) * ((i : Int) + 1) ≤ 3660 := fun i hi => by
    refine ⟨Int.mul_nonneg (by omega) (by omega), ?_⟩
    exact Int.le_trans (Int.mul_le_mul (show (n : Int) - i ≤ 60 by omega) (show (i : Int) + 1 ≤ 61 by omega) (by omega) (by omega)) (by omega)
  have s0 : l0.take k = mixL (moreL l0 n k) (l0.take k) 0 := by simp [mixL]
  have s1 : l0.take k = mixL (lowL l0 k) (l0.take k) 0 := by simp [mixL]
  conv => arg 1; intro k; rw [s0]
  refine Ev.for_ (l := fun i r => wayfinderlaw11_DrawFew.l0 r l0 (n : Int) (k : Int) l3 (mixL (moreL l0 n k) (l0.take k) i) (i : Int)) (Nat.zero_le k) (fun i _ hi r => ?_) (fun r => ?_) ?_ (g := fun r => wayfinderlaw11_DrawFew.l1 r (n : Int) (k : Int) l3 (moreL l0 n k) (l0.take k) 0)
  · have hlen : (mixL (moreL l0 n k) (l0.take k) i).length = k := by rw [mixL_length e1 (by omega), ht]
    have hp := hprod i hi
    have hxi := hx i (by omega)
    simp only [wayfinderlaw11_DrawFew.l0]
    rw [if_pos (by omega), if_pos (by omega), if_pos (by omega), mixL_at e1 (by omega), Int.toNat_natCast, wrap_succ (by omega), wrap_in (x := (n : Int) - i) (by omega) (by omega), wrapu_in (x := (n : Int) - i) (by omega) (by omega), wrapu_in (x := ((i + 1 : Nat) : Int)) (by omega) (by omega),
      Int.tmod_eq_emod_of_nonneg hxi.1, show ((i + 1 : Nat) : Int) = (i : Int) + 1 by omega, wrapu_in hp.1 (by omega), wrapu_in (by omega) (by omega), ← m1 i (by omega), mixL_set e1 (by omega)]
  · have hlen : (mixL (moreL l0 n k) (l0.take k) k).length = k := by rw [mixL_length e1 (by omega), ht]
    simp only [wayfinderlaw11_DrawFew.l0]
    rw [if_neg (by omega), if_pos (by omega), if_pos (by omega), Int.toNat_natCast, Own_is (by rw [ht]; omega)]
    simp only [Option.bind_some]
    have := mixL_all e1
    rw [ht] at this
    rw [this]
  · conv => arg 1; intro r; rw [s1]
    refine Ev.for_ (l := fun i r => wayfinderlaw11_DrawFew.l1 r (n : Int) (k : Int) l3 (moreL l0 n k) (mixL (lowL l0 k) (l0.take k) i) (i : Int)) (Nat.zero_le k) (fun i _ hi r => ?_) (fun r => ?_) ?_ (g := fun r => (wayfinderkit_Same_int.f r (picksL (lowL l0 k ++ l3) n k) (picksL (lowL l0 k) n k)).bind fun t => if t = true then (wayfinderkit_Same_int.f r (picksL (lowL l0 k) n k) (picksL (moreL l0 n k) n k)).bind fun t => some t else some false)
    · have hlen : (mixL (lowL l0 k) (l0.take k) i).length = k := by rw [mixL_length e2 (by omega), ht]
      have hxi := hx i (by omega)
      simp only [wayfinderlaw11_DrawFew.l1]
      rw [if_pos (by omega), if_pos (by omega), if_pos (by omega), mixL_at e2 (by omega), Int.toNat_natCast, wrap_succ (by omega), Int.tmod_eq_emod_of_nonneg hxi.1, ← m2 i (by omega), mixL_set e2 (by omega)]
    · have hlen : (mixL (lowL l0 k) (l0.take k) k).length = k := by rw [mixL_length e2 (by omega), ht]
      have hall := mixL_all e2
      rw [ht] at hall
      have hlow : ∀ x ∈ lowL l0 k, 0 ≤ x ∧ x < 18446744073709551616 := fun x hx => by
        simp only [lowL, List.mem_map] at hx
        obtain ⟨y, _, rfl⟩ := hx
        omega
      have hmore : ∀ x ∈ moreL l0 n k, 0 ≤ x ∧ x < 18446744073709551616 := fun x hx => by
        obtain ⟨i, hi, rfl⟩ := List.mem_iff_getElem.1 hx
        rw [m1 i (by omega)]
        have := hprod i (by omega)
        omega
      simp only [wayfinderlaw11_DrawFew.l1]
      rw [if_neg (by omega), hall, Own_is (by omega)]
      simp only [Option.bind_some]
      rw [if_pos (by omega), Picks_is (fun x hx => (List.mem_append.1 hx).elim (hlow x) (hl3 x)) (by omega) (by omega) (by omega), Picks_is hlow (by omega) (by omega) (by omega), Picks_is hmore (by omega) (by omega) (by omega)]
      simp only [Option.bind_some, if_true]
    · have p1 : picksL (lowL l0 k ++ l3) n k = picksL (lowL l0 k) n k := picks_congr fun s hs => by
        rw [drawV_in (by rw [List.length_append]; omega), drawV_in (by omega), List.getElem_append_left (by omega)]
      have p2 : picksL (lowL l0 k) n k = picksL (moreL l0 n k) n k := picks_congr fun s hs => by
        rw [drawV_in (by omega), drawV_in (by omega), m1 s (by omega), m2 s (by omega), show (((n - s : Nat)) : Int) = (n : Int) - s by omega, Int.mul_comm ((n : Int) - s), Int.add_mul_emod_self_right]
      refine Ev.bind (a := true) ?_ (Ev.pos rfl (Ev.bind (a := true) ?_ (Ev.some_ true)))
      · have := Same_is (picksL (lowL l0 k ++ l3) n k) (picksL (lowL l0 k) n k) (by rw [picksL_length]; omega)
        rwa [decide_eq_true p1] at this
      · have := Same_is (picksL (lowL l0 k) n k) (picksL (moreL l0 n k) n k) (by rw [picksL_length]; omega)
        rwa [decide_eq_true p2] at this

end Go.Proofs.Ytkippapoicdlhaa.Pure
