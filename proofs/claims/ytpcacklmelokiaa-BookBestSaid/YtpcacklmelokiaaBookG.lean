/- (words).nearest, and the contracts of the book's functions in the print's form. -/
import Derived.Test.YtpcacklmelokiaaBookF
import Derived.Test.YtpcacklmelokiaaBookC
namespace Go.Proofs.Ytpcacklmelokiaa.G
open Go.RowKit Go.Shelf Go.Proofs.YtpcacklmelokiaaW.PrintWords
set_option linter.unusedVariables false
set_option linter.unusedSimpArgs false

theorem nearTo_succ (D : Nat → Int) (n : Nat) : nearTo D (n + 1) = nearStep (nearTo D n) (n : Int) (D n) := by simp [nearTo, List.range_succ, List.foldl_append]
/-- The first of the nearest. -/
theorem nearTo_spec (D : Nat → Int) (hD : ∀ j, 0 ≤ D j) : ∀ n, 1 ≤ n → ∃ k : Nat, k < n ∧ nearTo D n = ((k : Int), D k) ∧ (∀ j, j < n → D k ≤ D j) ∧ ∀ j, j < k → D k < D j
  | 0, h => absurd h (by omega)
  | 1, _ => by
    refine ⟨0, by omega, by rw [nearTo_succ]; simp [nearTo, nearStep], fun j hj => ?_, fun j hj => by omega⟩
    obtain rfl : j = 0 := by omega
    exact Int.le_refl _
  | n + 2, _ => by
    obtain ⟨k, hk, he, hm, hl⟩ := nearTo_spec D hD (n + 1) (by omega)
    rw [nearTo_succ, he]
    have hk0 := hD k
    by_cases h : D (n + 1) < D k
    · refine ⟨n + 1, by omega, by simp [nearStep, h], fun j hj => ?_, fun j hj => ?_⟩
      · rcases Nat.lt_succ_iff_lt_or_eq.1 hj with h2 | rfl
        · exact Int.le_of_lt (Int.lt_of_lt_of_le h (hm j h2))
        · exact Int.le_refl _
      · exact Int.lt_of_lt_of_le h (hm j (by omega))
    · refine ⟨k, by omega, by simp only [nearStep]; rw [if_neg (by omega)], fun j hj => ?_, hl⟩
      rcases Nat.lt_succ_iff_lt_or_eq.1 hj with h2 | rfl
      · exact hm j h2
      · omega
theorem distTo_nonneg (a b : List Int) : ∀ n, 0 ≤ distTo a b n
  | 0 => by simp [distTo]
  | n + 1 => by
    have h := distTo_nonneg a b n
    simp only [distTo]
    refine Int.add_nonneg h ?_
    unfold sq
    rw [← Int.natAbs_mul_self]
    exact Int.natCast_nonneg _
theorem distV_nonneg (a b : List Int) : 0 ≤ distV a b := by
  unfold distV
  split
  · exact distTo_nonneg a b _
  · exact Int.le_refl _
theorem nearest_calls (A0 : Option Addr) (c0 : Nat) (cs : List (List Int)) (A1 : Option Addr) (c1 : Nat) (v : List Int) (w : World) (hr : Kd.C (Kd.slice 21 (Kd.int .i32)) w A0 cs.length cs) (hv : Kd.C (Kd.int .i32) w A1 v.length v) (hok : CentsOK cs v) :
    Calls Try.prog 57 #[.slice A0 cs.length c0, .slice A1 v.length c1] w fun e w' => e = .returned (.int .u8 (nearTo (distsOf cs v) cs.length).1) ∧ Below w.heap.size w w' := by
  have HN := Aside0.mk (Nearest_calls A0 c0 cs A1 c1 v w hr hv hok)
  obtain ⟨k, hk, he, _, _⟩ := nearTo_spec (distsOf cs v) (fun j => distV_nonneg _ _) cs.length hok.one
  have hk256 : k ≤ 255 := by have := hok.most; omega
  have hwr : Value.int .u8 (IntKind.u8.wrap (k : Int)) = Value.int .u8 (k : Int) := by
    congr 1
    rw [IntKind.wrap_u8]
    omega
  rw [he] at HN ⊢
  dsimp only at HN ⊢
  clear hr hv hok he
  generalize distsOf cs v k = d at *
  go_enter Try.func57, Try.ntmps57
  go_wp2_with (go_at_call 68; ((with_reducible refine HN.out.mono ?_); rintro e w' ⟨rfl, hb'⟩; have HB' := Aside0.mk hb'; clear hb'))
  go_ret
  exact ⟨by rfl, HB'.out⟩
end Go.Proofs.Ytpcacklmelokiaa.G
namespace Go.Proofs.Ytpcacklmelokiaa.Bk
open Go.RowKit Go.Proofs.YtpcacklmelokiaaW.PrintWords Go.Proofs.Ytpcacklmelokiaa.G
set_option linter.unusedVariables false
def centsB (cs : List (List Int)) (v : List Int) : Bool := decide (1 ≤ cs.length) && decide (cs.length ≤ 256) && cs.all (fun c => decide (checkWide c = 0) && decide (c.length = v.length)) && decide (checkWide v = 0)
theorem centsB_iff (cs : List (List Int)) (v : List Int) : centsB cs v = true ↔ CentsOK cs v := by
  simp only [centsB, Bool.and_eq_true, decide_eq_true_eq, List.all_eq_true]
  exact ⟨fun ⟨⟨⟨h1, h2⟩, h3⟩, h4⟩ => ⟨h1, h2, fun c hc => (h3 c hc).1, fun c hc => (h3 c hc).2, h4⟩, fun h => ⟨⟨⟨h.one, h.most⟩, fun c hc => ⟨h.wide c hc, h.long c hc⟩⟩, h.vec⟩⟩
def book_words_nearest.f (cs : List (List Int)) (v : List Int) : Option Int := if centsB cs v = true then some (nearTo (distsOf cs v) cs.length).1 else none
theorem book_words_nearest.calls (A0 : Option Addr) (c0 : Nat) (l0 : List (List Int)) (A1 : Option Addr) (c1 : Nat) (l1 : List Int) (r : Int) (w : World) (hr0 : Kd.C (Kd.slice 21 (Kd.int .i32)) w A0 l0.length l0) (hc0 : l0.length ≤ c0) (hr1 : Kd.C (Kd.int .i32) w A1 l1.length l1) (hc1 : l1.length ≤ c1) (h : book_words_nearest.f l0 l1 = some r) :
    Calls Try.prog 57 #[.slice A0 l0.length c0, .slice A1 l1.length c1] w fun e w' => e = .returned (.int .u8 r) ∧ Below w.heap.size w w' := by
  unfold book_words_nearest.f at h
  split at h
  · next hok =>
    injection h with h
    subst h
    exact nearest_calls A0 c0 l0 A1 c1 l1 w hr0 hr1 ((centsB_iff _ _).1 hok)
  · cases h
def vec_CheckWide.f (l : List Int) : Option Int := some (checkWide l)
theorem vec_CheckWide.calls (A0 : Option Addr) (c0 : Nat) (l0 : List Int) (r : Int) (w : World) (hr0 : Kd.C (Kd.int .i32) w A0 l0.length l0) (hc0 : l0.length ≤ c0) (h : vec_CheckWide.f l0 = some r) :
    Calls Try.prog 56 #[.slice A0 l0.length c0] w fun e w' => e = .returned (.int .i64 r) ∧ Below w.heap.size w w' := by
  cases h
  exact CheckWide_calls A0 c0 l0 w hr0
def vec_Dist.f (a b : List Int) : Option (Int × Int) := some (distV a b, pairE a b)
theorem vec_Dist.calls (A0 : Option Addr) (c0 : Nat) (l0 : List Int) (A1 : Option Addr) (c1 : Nat) (l1 : List Int) (r1 : Int) (r2 : Int) (w : World) (hr0 : Kd.C (Kd.int .i32) w A0 l0.length l0) (hc0 : l0.length ≤ c0) (hr1 : Kd.C (Kd.int .i32) w A1 l1.length l1) (hc1 : l1.length ≤ c1) (h : vec_Dist.f l0 l1 = some (r1, r2)) :
    Calls Try.prog 50 #[.slice A0 l0.length c0, .slice A1 l1.length c1] w fun e w' => e = .returned (.tuple #[.int .i64 r1, .int .i64 r2]) ∧ Below w.heap.size w w' := by
  cases h
  exact Dist_calls A0 c0 l0 A1 c1 l1 w hr0 hr1
def part_Cut.f (l : List Int) (a1 : Int) : Option (List (List Int) × Int) := some (cutL l a1, cutE l a1)
theorem part_Cut.calls (A0 : Option Addr) (c0 : Nat) (l0 : List Int) (a1 : Int) (r1 : List (List Int)) (r2 : Int) (w : World) (hr0 : Kd.C (Kd.int .i32) w A0 l0.length l0) (hc0 : l0.length ≤ c0) (h : part_Cut.f l0 a1 = some (r1, r2)) :
    Calls Try.prog 16 #[.slice A0 l0.length c0, .int .i64 a1] w fun e w' => ∃ v0_ : Value, e = .returned (.tuple #[v0_, .int .i64 r2]) ∧ Kd.R (Kd.slice 21 (Kd.int .i32)) 25 w' w.heap.size (fun _ => True) v0_ r1 ∧ Below w.heap.size w w' := by
  cases h
  exact Cut_calls A0 c0 l0 a1 w hr0 hc0
end Go.Proofs.Ytpcacklmelokiaa.Bk
