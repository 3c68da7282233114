/- Lloyd's rounds in plain lists: sums, the nearest cent, the move; the cost does not rise. -/
namespace Go.Proofs.Ytcgpkfpfpjclkaa.G
set_option linter.unusedVariables false
def sumTo : Nat → (Nat → Int) → Int
  | 0, _ => 0
  | n + 1, f => sumTo n f + f n
theorem sumTo_congr {n : Nat} {f g : Nat → Int} (h : ∀ i, i < n → f i = g i) : sumTo n f = sumTo n g := by
  induction n with
  | zero => rfl
  | succ n ih => show sumTo n f + f n = sumTo n g + g n; rw [ih (fun i hi => h i (by omega)), h n (by omega)]
theorem sumTo_le {n : Nat} {f g : Nat → Int} (h : ∀ i, i < n → f i ≤ g i) : sumTo n f ≤ sumTo n g := by
  induction n with
  | zero => exact Int.le_refl _
  | succ n ih => show sumTo n f + f n ≤ sumTo n g + g n; exact Int.add_le_add (ih (fun i hi => h i (by omega))) (h n (by omega))
theorem sumTo_add (n : Nat) (f g : Nat → Int) : sumTo n (fun i => f i + g i) = sumTo n f + sumTo n g := by
  induction n with
  | zero => rfl
  | succ n ih => show sumTo n _ + (f n + g n) = (sumTo n f + f n) + (sumTo n g + g n); rw [ih]; omega
theorem sumTo_zero (n : Nat) : sumTo n (fun _ => 0) = 0 := by
  induction n with
  | zero => rfl
  | succ n ih => show sumTo n _ + 0 = 0; rw [ih]; rfl
theorem sumTo_swap (n m : Nat) (f : Nat → Nat → Int) : sumTo n (fun i => sumTo m (fun j => f i j)) = sumTo m (fun j => sumTo n (fun i => f i j)) := by
  induction n with
  | zero => exact (sumTo_zero m).symm
  | succ n ih => show sumTo n _ + _ = _; rw [ih, ← sumTo_add]; rfl
theorem sumTo_none {n A : Nat} (h : n ≤ A) (f : Nat → Int) : sumTo n (fun k => if A = k then f k else 0) = 0 := by
  exact (sumTo_congr (g := fun _ => 0) (fun i (hi : i < n) => if_neg (show ¬ A = i by omega))).trans (sumTo_zero n)
theorem sumTo_pick {n A : Nat} (h : A < n) (f : Nat → Int) : sumTo n (fun k => if A = k then f k else 0) = f A := by
  induction n with
  | zero => omega
  | succ n ih =>
    show sumTo n _ + (if A = n then f n else 0) = f A
    by_cases hA : A = n
    · subst hA
      rw [sumTo_none (Nat.le_refl _), if_pos rfl, Int.zero_add]
    · rw [ih (by omega), if_neg hA, Int.add_zero]
theorem sumTo_nonneg {n : Nat} {f : Nat → Int} (h : ∀ i, i < n → 0 ≤ f i) : 0 ≤ sumTo n f := by
  rw [← sumTo_zero n]
  exact sumTo_le h
theorem sumTo_bound {n : Nat} {f : Nat → Int} {lo hi : Int} (h : ∀ i, i < n → lo ≤ f i ∧ f i ≤ hi) : (n : Int) * lo ≤ sumTo n f ∧ sumTo n f ≤ (n : Int) * hi := by
  induction n with
  | zero => simp [sumTo]
  | succ n ih =>
    have h1 := ih (fun i hi => h i (by omega))
    have h2 := h n (by omega)
    show ((n + 1 : Nat) : Int) * lo ≤ sumTo n f + f n ∧ sumTo n f + f n ≤ ((n + 1 : Nat) : Int) * hi
    rw [Int.natCast_add, Int.add_mul, Int.add_mul]
    omega
/-- A number of a row of rows. -/
def at2 (C : List (List Int)) (n i : Nat) : Int := (C.getD n []).getD i 0
/-- The distance. -/
def dst (c v : List Int) : Int := sumTo c.length (fun i => (c.getD i 0 - v.getD i 0) * (c.getD i 0 - v.getD i 0))
theorem dst_nonneg (c v : List Int) : 0 ≤ dst c v := sumTo_nonneg (fun i _ => by
  rcases Int.le_total 0 (c.getD i 0 - v.getD i 0) with h | h
  · exact Int.mul_nonneg h h
  · exact Int.mul_nonneg_of_nonpos_of_nonpos h h)
/-- The nearest of the first k cents, the first of several, and how far it is. -/
def nearTo (C : List (List Int)) (v : List Int) : Nat → Nat × Int
  | 0 => (0, -1)
  | k + 1 => if (nearTo C v k).2 < 0 ∨ dst (C.getD k []) v < (nearTo C v k).2 then (k, dst (C.getD k []) v) else nearTo C v k
theorem nearTo_spec (C : List (List Int)) (v : List Int) (k : Nat) (hk : 0 < k) : (nearTo C v k).1 < k ∧ (nearTo C v k).2 = dst (C.getD (nearTo C v k).1 []) v ∧ ∀ j, j < k → (nearTo C v k).2 ≤ dst (C.getD j []) v := by
  induction k with
  | zero => omega
  | succ k ih =>
    by_cases h0 : k = 0
    · subst h0
      have e : nearTo C v (0 + 1) = (0, dst (C.getD 0 []) v) := by simp [nearTo]
      rw [e]
      exact ⟨Nat.lt_succ_self 0, rfl, fun j hj => by obtain rfl : j = 0 := (by omega); exact Int.le_refl _⟩
    obtain ⟨h1, h2, h3⟩ := ih (by omega)
    rw [nearTo]
    split
    · next h =>
      have hn := dst_nonneg (C.getD (nearTo C v k).1 []) v
      exact ⟨by simp, rfl, fun j hj => by
        by_cases hjk : j = k
        · subst hjk; exact Int.le_refl _
        · have := h3 j (by omega)
          show dst (C.getD k []) v ≤ _
          omega⟩
    · next h => exact ⟨by omega, h2, fun j hj => by
        by_cases hjk : j = k
        · subst hjk; omega
        · exact h3 j (by omega)⟩
def near (C : List (List Int)) (v : List Int) : Nat × Int := nearTo C v C.length
def costL (P C : List (List Int)) : Int := sumTo P.length (fun j => (near C (P.getD j [])).2)
/-- How many of the first a points are of cent n; the sum of their numbers i. -/
def cnt (of : List Int) (a n : Nat) : Int := sumTo a (fun j => if of.getD j (-1) = (n : Int) then 1 else 0)
def sm (P : List (List Int)) (of : List Int) (a n i : Nat) : Int := sumTo a (fun j => if of.getD j (-1) = (n : Int) then at2 P j i else 0)
def meanI (s n : Int) : Int := (2 * s + n) / (2 * n)
def newAt (P : List (List Int)) (of : List Int) (C : List (List Int)) (n i : Nat) : Int := if 0 < cnt of P.length n then meanI (sm P of P.length n i) (cnt of P.length n) else at2 C n i
/-- The cents, moved. -/
def moved (P : List (List Int)) (of : List Int) (C : List (List Int)) : List (List Int) := (List.range C.length).map (fun n => (List.range (C.getD n []).length).map (newAt P of C n))
def assigned (P C : List (List Int)) : List Int := (List.range P.length).map (fun j => ((near C (P.getD j [])).1 : Int))
/-- One round. -/
def rnd (P C : List (List Int)) : List (List Int) := moved P (assigned P C) C
def rounds (P : List (List Int)) : Nat → List (List Int) → List (List Int)
  | 0, C => C
  | n + 1, C => rnd P (rounds P n C)
theorem rounds_add (P : List (List Int)) (a b : Nat) (C : List (List Int)) : rounds P b (rounds P a C) = rounds P (a + b) C := by
  induction b with
  | zero => rfl
  | succ b ih => show rnd P _ = rnd P (rounds P (a + b) C); rw [ih]
theorem moved_len (P : List (List Int)) (of : List Int) (C : List (List Int)) : (moved P of C).length = C.length := by simp [moved]
theorem moved_row (P : List (List Int)) (of : List Int) (C : List (List Int)) {n : Nat} (hn : n < C.length) : (moved P of C).getD n [] = (List.range (C.getD n []).length).map (newAt P of C n) := by
  simp [moved, List.getD_eq_getElem?_getD, hn]
theorem moved_at (P : List (List Int)) (of : List Int) (C : List (List Int)) {n i : Nat} (hn : n < C.length) (hi : i < (C.getD n []).length) : at2 (moved P of C) n i = newAt P of C n i := by
  unfold at2
  rw [moved_row P of C hn]
  rw [List.getD_eq_getElem?_getD, List.getElem?_map, List.getElem?_range hi, Option.map_some, Option.getD_some]
/-- Rows of one length. -/
def Wid (m : Nat) (C : List (List Int)) : Prop := ∀ j, j < C.length → (C.getD j []).length = m
theorem moved_wid {P : List (List Int)} {of : List Int} {C : List (List Int)} {m : Nat} (h : Wid m C) : Wid m (moved P of C) := fun j hj => by
  rw [moved_len] at hj
  rw [moved_row P of C hj, List.length_map, List.length_range, h j hj]
theorem rounds_wid {P : List (List Int)} {C : List (List Int)} {m : Nat} (h : Wid m C) (k : Nat) : Wid m (rounds P k C) ∧ (rounds P k C).length = C.length := by
  induction k with
  | zero => exact ⟨h, rfl⟩
  | succ k ih => exact ⟨moved_wid ih.1, (moved_len _ _ _).trans ih.2⟩
/-- The mean, rounded, is the best whole number. -/
theorem mean_best (S n y : Int) (hn : 0 < n) : n * (meanI S n * meanI S n) - 2 * (meanI S n * S) ≤ n * (y * y) - 2 * (y * S) := by
  have h1 : 2 * n * meanI S n ≤ 2 * S + n := by unfold meanI; rw [Int.mul_comm]; exact Int.ediv_mul_le _ (by omega)
  have h2 : 2 * S + n < 2 * n * meanI S n + 2 * n := by
    unfold meanI
    have := Int.lt_ediv_add_one_mul_self (2 * S + n) (show 0 < 2 * n by omega)
    rw [Int.add_mul, Int.one_mul, Int.mul_comm ((2 * S + n) / (2 * n))] at this
    exact this
  generalize meanI S n = x at *
  obtain ⟨d, rfl⟩ : ∃ d, y = x + d := ⟨y - x, by omega⟩
  have e : n * ((x + d) * (x + d)) - 2 * ((x + d) * S) - (n * (x * x) - 2 * (x * S)) = d * (n * d - (2 * S - 2 * n * x)) := by grind
  have hp : 0 ≤ d * (n * d - (2 * S - 2 * n * x)) := by
    generalize hr : 2 * S - 2 * n * x = r at *
    have r1 : -n ≤ r := by omega
    have r2 : r ≤ n := by omega
    clear hr h1 h2 e
    rcases Int.lt_trichotomy d 0 with hd | hd | hd
    · have : n * d ≤ n * (-1) := Int.mul_le_mul_of_nonneg_left (by omega) (by omega)
      exact Int.mul_nonneg_of_nonpos_of_nonpos (by omega) (by omega)
    · subst hd; simp
    · have : n * 1 ≤ n * d := Int.mul_le_mul_of_nonneg_left (by omega) (by omega)
      exact Int.mul_nonneg (by omega) (by omega)
  omega
/-- What x costs, number i of cent n, those points that are of it. -/
def part1 (P : List (List Int)) (of : List Int) (a n i : Nat) (x : Int) : Int := sumTo a (fun j => if of.getD j (-1) = (n : Int) then (x - at2 P j i) * (x - at2 P j i) else 0)
def sqs (P : List (List Int)) (of : List Int) (a n i : Nat) : Int := sumTo a (fun j => if of.getD j (-1) = (n : Int) then at2 P j i * at2 P j i else 0)
theorem part1_eq (P : List (List Int)) (of : List Int) (a n i : Nat) (x : Int) : part1 P of a n i x = (cnt of a n * (x * x) - 2 * (x * sm P of a n i)) + sqs P of a n i := by
  induction a with
  | zero => simp [part1, cnt, sm, sqs, sumTo]
  | succ a ih =>
    unfold part1 cnt sm sqs at *
    simp only [sumTo]
    rw [ih]
    split <;> grind
theorem part1_best (P : List (List Int)) (of : List Int) (C : List (List Int)) (n i : Nat) : part1 P of P.length n i (newAt P of C n i) ≤ part1 P of P.length n i (at2 C n i) := by
  unfold newAt
  split
  · next h =>
    rw [part1_eq, part1_eq]
    have := mean_best (sm P of P.length n i) (cnt of P.length n) (at2 C n i) h
    omega
  · exact Int.le_refl _
/-- The distances to given cents, told cent by cent. -/
theorem dist_parts (P C C' : List (List Int)) (m : Nat) (hC : Wid m C) (h0 : 0 < C.length) (hC' : Wid m C') (hl : C'.length = C.length) :
    sumTo P.length (fun j => dst (C'.getD (near C (P.getD j [])).1 []) (P.getD j [])) = sumTo m (fun i => sumTo C.length (fun n => part1 P (assigned P C) P.length n i (at2 C' n i))) := by
  have h1 : ∀ j, j < P.length → dst (C'.getD (near C (P.getD j [])).1 []) (P.getD j []) = sumTo m (fun i => sumTo C.length (fun n => if (assigned P C).getD j (-1) = (n : Int) then (at2 C' n i - at2 P j i) * (at2 C' n i - at2 P j i) else 0)) := by
    intro j hj
    have hb : (near C (P.getD j [])).1 < C.length := (nearTo_spec C _ _ h0).1
    have he : (assigned P C).getD j (-1) = ((near C (P.getD j [])).1 : Int) := by simp [assigned, List.getD_eq_getElem?_getD, hj]
    rw [he]
    unfold dst
    rw [hC' _ (by omega)]
    refine sumTo_congr (fun i _ => ?_)
    have hp := sumTo_pick hb (fun n => (at2 C' n i - at2 P j i) * (at2 C' n i - at2 P j i))
    refine hp.symm.trans (sumTo_congr (fun n _ => ?_))
    by_cases hn : (near C (P.getD j [])).1 = n
    · rw [if_pos hn, if_pos (by omega)]
    · rw [if_neg hn, if_neg (by omega)]
  rw [sumTo_congr h1, sumTo_swap]
  refine sumTo_congr (fun i _ => ?_)
  rw [sumTo_swap]
  rfl
theorem cost_falls (P C : List (List Int)) (m : Nat) (hC : Wid m C) (h0 : 0 < C.length) : costL P (rnd P C) ≤ costL P C := by
  have hl : (rnd P C).length = C.length := moved_len _ _ _
  have hW : Wid m (rnd P C) := moved_wid hC
  have e1 : costL P C = sumTo P.length (fun j => dst (C.getD (near C (P.getD j [])).1 []) (P.getD j [])) := sumTo_congr (fun j _ => (nearTo_spec C _ _ h0).2.1)
  have e2 : costL P (rnd P C) ≤ sumTo P.length (fun j => dst ((rnd P C).getD (near C (P.getD j [])).1 []) (P.getD j [])) := sumTo_le (fun j _ =>
    (nearTo_spec (rnd P C) _ _ (by omega)).2.2 _ (by rw [hl]; exact (nearTo_spec C _ _ h0).1))
  refine Int.le_trans e2 ?_
  rw [e1, dist_parts P C _ m hC h0 hW hl, dist_parts P C C m hC h0 hC rfl]
  refine sumTo_le (fun i hi => sumTo_le (fun n hn => ?_))
  rw [show at2 (rnd P C) n i = newAt P (assigned P C) C n i from moved_at P _ C hn (by rw [hC n hn]; exact hi)]
  exact part1_best P _ C n i
/-- The mean is between bounds. -/
theorem mean_in {S n lo hi : Int} (hn : 0 < n) (h1 : n * lo ≤ S) (h2 : S ≤ n * hi) : lo ≤ meanI S n ∧ meanI S n ≤ hi := by
  unfold meanI
  constructor
  · rw [Int.le_ediv_iff_mul_le (by omega)]
    have : lo * (2 * n) = 2 * (n * lo) := by grind
    omega
  · have : (2 * S + n) / (2 * n) < hi + 1 := by
      rw [Int.ediv_lt_iff_lt_mul (by omega)]
      have : (hi + 1) * (2 * n) = 2 * (n * hi) + 2 * n := by grind
      omega
    omega
theorem cnt_nonneg (of : List Int) (a n : Nat) : 0 ≤ cnt of a n := sumTo_nonneg (fun i _ => by split <;> omega)
theorem cnt_le (of : List Int) (a n : Nat) : cnt of a n ≤ a := by
  have := (sumTo_bound (n := a) (f := fun j => if of.getD j (-1) = (n : Int) then (1 : Int) else 0) (lo := 0) (hi := 1) (fun i _ => by split <;> omega)).2
  unfold cnt
  omega
theorem sm_bound {P : List (List Int)} {of : List Int} {a n i : Nat} {lo hi : Int} (h : ∀ j, j < a → lo ≤ at2 P j i ∧ at2 P j i ≤ hi) : cnt of a n * lo ≤ sm P of a n i ∧ sm P of a n i ≤ cnt of a n * hi := by
  induction a with
  | zero => simp [cnt, sm, sumTo]
  | succ a ih =>
    have h1 := ih (fun j hj => h j (by omega))
    have h2 := h a (by omega)
    unfold cnt sm at *
    simp only [sumTo]
    split <;> simp only [Int.add_mul, Int.one_mul, Int.zero_mul] <;> omega
/-- Cents stay between bounds of points and cents. -/
theorem moved_in {P : List (List Int)} {of : List Int} {C : List (List Int)} {n i : Nat} {lo hi : Int} (hP : ∀ j, j < P.length → lo ≤ at2 P j i ∧ at2 P j i ≤ hi) (hC : lo ≤ at2 C n i ∧ at2 C n i ≤ hi) (hn : n < C.length) (hi' : i < (C.getD n []).length) :
    lo ≤ at2 (moved P of C) n i ∧ at2 (moved P of C) n i ≤ hi := by
  rw [moved_at P of C hn hi']
  unfold newAt
  split
  · next h => exact mean_in h (sm_bound hP).1 (sm_bound hP).2
  · exact hC
theorem rounds_in {P : List (List Int)} {C : List (List Int)} {m n i : Nat} {lo hi : Int} (hW : Wid m C) (hP : ∀ j, j < P.length → lo ≤ at2 P j i ∧ at2 P j i ≤ hi) (hC : lo ≤ at2 C n i ∧ at2 C n i ≤ hi) (hn : n < C.length) (hi' : i < m) (k : Nat) :
    lo ≤ at2 (rounds P k C) n i ∧ at2 (rounds P k C) n i ≤ hi := by
  induction k with
  | zero => exact hC
  | succ k ih =>
    obtain ⟨h1, h2⟩ := rounds_wid (P := P) hW k
    exact moved_in hP ih (by omega) (by rw [h1 n (by omega)]; exact hi')
end Go.Proofs.Ytcgpkfpfpjclkaa.G
