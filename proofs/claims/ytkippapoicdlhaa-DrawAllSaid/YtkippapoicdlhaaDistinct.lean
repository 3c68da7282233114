/- The contract of draw.Distinct. -/
import Derived.Test.YtkippapoicdlhaaValues
import Derived.Test.YtkippapoicdlhaaShelf
import Derived.Test.YtkippapoicdlhaaDrx0
namespace Go.Proofs.Ytkippapoicdlhaa.G
open Go.RowKit Go.Shelf Go.Proofs.YtkippapoicdlhaaW.PrintWords
set_option linter.unusedVariables false
set_option linter.unusedSimpArgs false

/-- Sorted, without neighbours that are the same: as many numbers, just if none is there twice. -/
theorem compact_sorted (l : List Int) : (Lib.compact (l.mergeSort fun x y => decide (x ≤ y))).length = l.length ↔ l.Nodup := by
  obtain ⟨s, hs⟩ : ∃ s, s = l.mergeSort fun x y => decide (x ≤ y) := ⟨_, rfl⟩
  have hp : s.Perm l := by rw [hs]; exact List.mergeSort_perm _ _
  have hsort : s.Pairwise (fun x y => x ≤ y) := by
    have := List.pairwise_mergeSort (le := fun x y : Int => decide (x ≤ y)) (fun a b c h1 h2 => by simp at *; omega) (fun a b => by simp; omega) l
    rw [← hs] at this
    exact this.imp (fun h => by simpa using h)
  rw [← hs, ← hp.length_eq, ← hp.nodup_iff]
  unfold Lib.compact Lib.compactUpTo
  rw [List.length_map]
  have h1 : ((List.range s.length).filter (Lib.keeps s.toArray)).length = s.length ↔ ∀ j, j < s.length → Lib.keeps s.toArray j = true := by
    have h2 := List.length_filter_eq_length_iff (p := Lib.keeps s.toArray) (l := List.range s.length)
    rw [List.length_range] at h2
    rw [h2]
    exact ⟨fun h j hj => h j (List.mem_range.2 hj), fun h j hj => h j (List.mem_range.1 hj)⟩
  rw [h1]
  have hget : ∀ j (h : j < s.length), s.toArray[j]! = s[j] := fun j h => by simp [h]
  constructor
  · intro h
    rw [List.Nodup, List.pairwise_iff_getElem]
    intro i j hi hj hij
    have h3 := h (i + 1) (by omega)
    simp only [Lib.keeps, decide_eq_true_eq] at h3
    have h4 : s[i + 1]'(by omega) ≠ s[i] := by
      rcases h3 with h3 | h3
      · omega
      · rw [hget (i + 1) (by omega), show i + 1 - 1 = i by omega, hget i hi] at h3
        exact h3
    have h5 := List.pairwise_iff_getElem.1 hsort i (i + 1) hi (by omega) (by omega)
    rcases Nat.lt_or_ge (i + 1) j with h6 | h6
    · have h7 := List.pairwise_iff_getElem.1 hsort (i + 1) j (by omega) hj h6
      omega
    · obtain rfl : j = i + 1 := by omega
      exact fun e => h4 e.symm
  · intro h j hj
    simp only [Lib.keeps, decide_eq_true_eq]
    rcases Nat.eq_zero_or_pos j with h0 | h0
    · exact .inl h0
    · refine .inr ?_
      rw [hget j hj, hget (j - 1) (by omega)]
      intro e
      exact (List.pairwise_iff_getElem.1 h (j - 1) j (by omega) hj (by omega)) e.symm

theorem Values_c (A : Option Addr) (n c : Nat) (w : World) : Calls Try.prog 48 #[.slice A n c] w fun e w' => e = .returned (.func (.func 77) #[] #[.pointer (some ⟨w.heap.size, 0, none⟩)]) ∧ w' = w.alloc (.cells #[.slice A n c] 27) := by
  go_enter Try.func48, Try.ntmps48
  go_wp2
  go_ret
  exact ⟨rfl, rfl⟩
theorem below_putRow {B blk : Nat} {w0 w : World} {d : Array Int} (h : Below B w0 w) (hb : B ≤ blk) (n : Nat) (os : Array Obj) (hB : B ≤ w.heap.size) : Below B w0 (Sort.grow (Sort.putRow (Value.int .i64) (Sort.ahead w n) blk 0 d) os) := by
  refine h.trans ⟨rfl, rfl, rfl, by simp [Sort.ahead], fun k hk => ?_⟩
  rw [show (Sort.grow (Sort.putRow (Value.int .i64) (Sort.ahead w n) blk 0 d) os).heap[k]? = (Sort.putRow (Value.int .i64) (Sort.ahead w n) blk 0 d).heap[k]? from Sort.heap_grow_old _ _ (by simp [Sort.ahead]; omega)]
  simp only [Sort.putRow, Sort.mapBlock, Sort.ahead]
  rw [Array.getElem?_modify, if_neg (by omega)]

theorem rd_nat' {l : List Int} {i : Nat} : rd l (i : Int) = l.getD i 0 := by simp [rd]
theorem reps_int {P : Nat → Prop} {w : World} {base : Nat} {L : List Int} {inner : List Value} (h : Reps ((Kd.int .i64).M w base P) (Kd.int .i64).sz L inner) : inner = nums .i64 L := by
  obtain ⟨h1, h2⟩ := h
  apply List.ext_getElem
  · rw [h1]
    simp only [nums, List.length_map]
    exact Nat.mul_one _
  · intro j hj1 hj2
    have hj : j < L.length := by simpa [nums] using hj2
    have h3 : (inner.drop (j * 1)).take 1 = [Value.int .i64 L[j]] := h2 j L[j] (List.getElem?_eq_getElem hj)
    rw [Nat.mul_one, List.drop_eq_getElem_cons hj1] at h3
    simp only [List.take_succ_cons, List.take_zero, List.cons.injEq, and_true] at h3
    simp [nums, h3]
/-- A row of one's own, in the sort's words. -/
theorem own_holds {w : World} {base : Nat} {v : Value} {L : List Int} (h : (Kd.int .i64).R 3 w base (fun _ => True) v L) (h0 : ¬ L.length = 0) :
    ∃ blk c, v = .slice (some ⟨blk, 0, none⟩) L.length c ∧ Sort.Holds (Value.int .i64) w blk 0 L.toArray ∧ L.length ≤ c ∧ base ≤ blk ∧ blk < w.heap.size := by
  obtain ⟨_, inner, ho, hr⟩ := h
  have hin : inner = nums .i64 L := by
    have := Kd.R_reads (d := Kd.int .i64) ⟨fun _ _ => trivial, inner, ho, hr⟩
    exact reps_int hr
  subst hin
  rcases ho.2 with ⟨_, h⟩ | ⟨g, cap, cur, rfl, hg, hh, hnc, hcm, hcs, ht⟩
  · exact absurd h h0
  · refine ⟨g, cap, rfl, fun j hj => ?_, hnc, hg, (Array.getElem?_eq_some_iff.1 hh).1⟩
    have hj2 : j < L.length := by simpa using hj
    have h2 := own_at (k := .i64) ho (j : Int) (by omega) (by omega)
    rw [Int.toNat_natCast, rd_nat'] at h2
    simpa [hj2] using h2

set_option maxRecDepth 100000 in
set_option maxHeartbeats 1000000 in
theorem Sorted_c (Bs : Nat) (A : Option Addr) (cap : Nat) (L : List Int) (hreach : L.length ≤ 1000000) (w : World) (hs : Bs < w.heap.size)
    (hBs : w.cell? ⟨Bs, 0, none⟩ = some (.slice A L.length cap)) (hc : ∀ j, j < L.length → ∃ ad, A = some ad ∧ w.cell? (ad.add j) = some (.int .i64 (L.getD j 0))) :
    Calls Try.prog 47 #[.func (.func 77) #[] #[.pointer (some ⟨Bs, 0, none⟩)]] w fun e w' => ∃ v : Value, e = .returned v ∧ Below w.heap.size w w' ∧
      ((L = [] ∧ ∃ A' c', v = .slice A' 0 c') ∨ ∃ blk c', v = .slice (some ⟨blk, 0, none⟩) L.length c' ∧ Sort.Holds (Value.int .i64) w' blk 0 (L.mergeSort fun x y => decide (x ≤ y)).toArray ∧ L.length ≤ c' ∧ w.heap.size ≤ blk ∧ blk < w'.heap.size) := by
  have hlen : L.length ≤ 1000000 := hreach
  have HApp := Aside0.mk (AppendSeq_c Bs A cap L hreach w hs hBs hc)
  have HCol := Aside0.mk (show Calls Try.prog 75 #[.func (.func 77) #[] #[.pointer (some ⟨Bs, 0, none⟩)]] w fun e w' => ∃ v : Value, e = .returned v ∧ (Kd.int .i64).R 3 w' w.heap.size (fun _ => True) v L ∧ Below w.heap.size w w' by
    clear hBs hc
    go_enter Try.func75, Try.ntmps75
    go_wp2_with (go_at_call 97; ((with_reducible refine HApp.out.mono ?_); rintro e w1 ⟨v, rfl, hr, hb⟩; have HR := Aside0.mk hr; have HB := Aside0.mk hb; clear hr hb))
    go_ret
    exact ⟨_, rfl, HR.out, HB.out⟩)
  clear HApp hBs hc
  go_enter Try.func47, Try.ntmps47
  by_cases h0 : L.length = 0
  · have hE : L = [] := List.eq_nil_of_length_eq_zero h0
    go_wp2_with (first
      | (go_at_call 75; ((with_reducible refine HCol.out.mono ?_); rintro e w1 ⟨v, rfl, hr, hb⟩; obtain ⟨A1, c1, rfl, hl1, hC1⟩ := Kd.R_reads hr; have HB := Aside0.mk hb; clear hr hb hC1))
      | (go_at_call 76; ((with_reducible refine (Try.slices_Sort_int_none _ _ _).mono ?_); rintro e w2 ⟨rfl, rfl⟩)))
    go_ret
    exact ⟨_, rfl, HB.out, .inl ⟨hE, _, _, rfl⟩⟩
  · go_wp2_with (first
      | (go_at_call 75; ((with_reducible refine HCol.out.mono ?_); rintro e w1 ⟨v, rfl, hr, hb⟩; obtain ⟨blk, c1, rfl, h1, h2, h3, h4⟩ := own_holds hr h0; have HB := Aside0.mk hb; have HH := Aside0.mk h1; clear hr hb h1))
      | (go_at_call 76; ((with_reducible refine (Try.slices_Sort_int blk 0 c1 L w1 HH.out h4 (by omega)).mono ?_); rintro e w2 ⟨rfl, n, os, hw2⟩; have HW2 := Aside0.mk hw2; clear hw2)))
    go_ret
    have hd : (L.mergeSort fun x y => decide (x ≤ y)).toArray.size = L.toArray.size := by simp [List.length_mergeSort]
    refine ⟨_, rfl, ?_, .inr ⟨blk, c1, rfl, ?_, h2, h3, ?_⟩⟩
    · rw [HW2.out]
      exact below_putRow HB.out h3 n os HB.out.size
    · rw [HW2.out]
      refine Sort.holds_grow _ _ _ _ _ _ (by simp [Sort.ahead]; exact h4) ?_
      exact Sort.holds_putRow _ _ _ _ L.toArray _ HH.out hd
    · rw [HW2.out]
      simp [Sort.ahead]
      omega

end Go.Proofs.Ytkippapoicdlhaa.G
namespace Go.Proofs.Ytkippapoicdlhaa.Dr
open Go.RowKit Go.Shelf Go.Proofs.YtkippapoicdlhaaW.PrintWords Go.Proofs.Ytkippapoicdlhaa.G
set_option linter.unusedVariables false
set_option linter.unusedSimpArgs false

def draw_Distinct.f (l : List Int) : Option Bool := if l.length ≤ 1000000 ∧ ∀ x ∈ l, -9223372036854775808 ≤ x ∧ x ≤ 9223372036854775807 then some (decide l.Nodup) else none
theorem draw_Distinct.calls (A0 : Option Addr) (c0 : Nat) (l0 : List Int) (r : Bool) (w : World) (hr0 : Kd.C (Kd.int .i64) w A0 l0.length l0) (hc0 : l0.length ≤ c0) (h : draw_Distinct.f l0 = some r) :
    Calls Try.prog 19 #[.slice A0 l0.length c0] w fun e w' => e = .returned (.bool r) ∧ Below w.heap.size w w' := by
  unfold draw_Distinct.f at h
  split at h
  rotate_left
  · cases h
  rename_i hl
  cases h
  have hm := hl.1
  have hB0 : Below w.heap.size w (w.alloc (.cells #[.slice A0 l0.length c0] 27)) := (Below.refl _ w).alloc (Nat.le_refl _) _
  have hs := Sorted_c w.heap.size A0 c0 l0 hm (w.alloc (.cells #[.slice A0 l0.length c0] 27)) (by simp) (Boxed.new w 27 (.slice A0 l0.length c0)).cell (C_ints (Kd.C_below hr0 hB0))
  have HS := Aside0.mk hs
  have HB0 := Aside0.mk hB0
  have HE := Aside0.mk (compact_sorted l0)
  clear hs hB0 hl hr0
  go_enter Try.func19, Try.ntmps19
  go_wp2_with (first
    | (go_at_call 48; ((with_reducible refine (Values_c _ _ _ _).mono ?_); rintro e w1 ⟨rfl, rfl⟩))
    | (go_at_call 47; ((with_reducible refine HS.out.mono ?_); rintro e w1 ⟨v, rfl, hb, hv⟩; have HB := Aside0.mk hb; have HV := Aside0.mk hv; clear hb hv)))
  rcases HV.out with ⟨hE, A1, c1, rfl⟩ | ⟨blk, c1, rfl, hH, h1, h2, h3⟩
  · subst hE
    clear HE HV
    go_wp2_with (go_at_call 49; ((with_reducible refine (Try.slices_Compact_int_empty _ _ _).mono ?_); rintro e w2 ⟨rfl, rfl⟩))
    go_ret
    exact ⟨rfl, below_then HB0.out HB0.out.size HB.out⟩
  · have hlen : (l0.mergeSort fun x y => decide (x ≤ y)).length = l0.length := List.length_mergeSort _
    have hc := Try.slices_Compact_int blk 0 c1 (l0.mergeSort fun x y => decide (x ≤ y)) w1 hH (by rw [hlen]; omega) (by rw [hlen]; exact h1)
    rw [hlen] at hc
    have HC := Aside0.mk hc
    have HBB := Aside0.mk (below_then HB0.out HB0.out.size HB.out)
    have hblk : w.heap.size ≤ blk := Nat.le_trans HB0.out.size h2
    clear hc hH hlen HV HS
    generalize Lib.compact (l0.mergeSort fun x y => decide (x ≤ y)) = s at *
    go_wp2_with (go_at_call 49; ((with_reducible refine HC.out.mono ?_); rintro e w2 ⟨rfl, q, hw2⟩; have HW2 := Aside0.mk hw2; clear hw2))
    go_ret
    refine ⟨?_, by rw [HW2.out]; have := below_putRow HBB.out hblk q #[] HBB.out.size (d := (s ++ List.replicate (l0.length - s.length) 0).toArray); simpa using this⟩
    have h5 : decide (l0.Nodup) = decide ((s.length : Int) = (l0.length : Int)) := by
      rw [decide_eq_decide, ← HE.out]
      omega
    rw [h5]
    rfl

end Go.Proofs.Ytkippapoicdlhaa.Dr
