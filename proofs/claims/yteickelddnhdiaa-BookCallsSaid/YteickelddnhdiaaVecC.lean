/- Contracts of the package vec: pair, Dist. -/
import Derived.Test.YteickelddnhdiaaVecB
namespace Go.Proofs.Yteickelddnhdiaa.G
open Go.RowKit Go.Shelf Go.Proofs.YteickelddnhdiaaW.PrintWords
set_option linter.unusedVariables false
set_option linter.unusedSimpArgs false

def pairE (a b : List Int) : Int := if checkWide a ≠ 0 then checkWide a else if checkWide b ≠ 0 then checkWide b else if a.length ≠ b.length then 2 else 0

theorem pair_calls (A0 : Option Addr) (c0 : Nat) (l0 : List Int) (A1 : Option Addr) (c1 : Nat) (l1 : List Int) (w : World) (hr0 : Kd.C (Kd.int .i32) w A0 l0.length l0) (hr1 : Kd.C (Kd.int .i32) w A1 l1.length l1) :
    Calls Try.prog 124 #[.slice A0 l0.length c0, .slice A1 l1.length c1] w fun e w' => e = .returned (.int .i64 (pairE l0 l1)) ∧ Below w.heap.size w w' := by
  have hmax := C_max hr0
  have hmax1 := C_max hr1
  have hcall := fun W (hB : Below w.heap.size w W) => CheckWide_calls A0 c0 l0 W (Kd.C_below hr0 hB)
  have hcall1 := fun W (hB : Below w.heap.size w W) => CheckWide_calls A1 c1 l1 W (Kd.C_below hr1 hB)
  have HC := Aside0.mk hcall
  have HC1 := Aside0.mk hcall1
  clear hcall hcall1 hr0 hr1
  go_enter Try.func124, Try.ntmps124
  go_wp2
  go_loopw [6, 7, 12] (fun _ _ v wr => ∃ k : Nat, k ≤ 2 ∧ v = .int .i64 k ∧ Aside0 (0 < k → checkWide l0 = 0) ∧ Aside0 (1 < k → checkWide l1 = 0) ∧ Aside0 (Below w.heap.size w wr) ∧
    Aside0 (wr.cell? ⟨w.heap.size, 0, none⟩ = some (.slice A0 l0.length c0)) ∧ Aside0 (wr.cell? ⟨w.heap.size, 1, none⟩ = some (.slice A1 l1.length c1))) (fun _ _ v _ => 2 - (intOf v).toNat)
  case atStart => exact ⟨0, by omega, rfl, ⟨fun h => by omega⟩, ⟨fun h => by omega⟩, ⟨(Below.refl _ _).alloc (Nat.le_refl _) _⟩, ⟨by go_simp⟩, ⟨by go_simp⟩⟩
  case round =>
    obtain ⟨k, hk, rfl, H0, H1, HB, HX, HY⟩ := hrel
    have hx := HX.out
    have hy := HY.out
    by_cases e0 : k = 0
    · subst e0
      have hcall := HC.out wr HB.out
      by_cases hz : checkWide l0 = 0
      · rw [hz] at hcall
        go_wp2_with (go_at_call 67; refine hcall.mono ?_; rintro e w' ⟨rfl, hb'⟩; have HB' := Aside0.mk hb'; clear hb')
        go_roundw
        case rel => exact ⟨1, by omega, by go_num, ⟨fun _ => hz⟩, ⟨fun h => by omega⟩, ⟨bcomp HB.out HB'.out⟩, ⟨pw_cell_below HB'.out HX.out⟩, ⟨pw_cell_below HB'.out HY.out⟩⟩
        case measure => simp [intOf]
      · have HF := Aside0.mk (show pairE l0 l1 = checkWide l0 by simp [pairE, hz])
        have hz2 : (checkWide l0 != 0) = true := by simpa using hz
        clear hz
        generalize checkWide l0 = z at *
        go_wp2_with (go_at_call 67; refine hcall.mono ?_; rintro e w' ⟨rfl, hb'⟩; have HB' := Aside0.mk hb'; clear hb')
        go_ret
        exact ⟨by rw [HF.out]; rfl, bcomp HB.out HB'.out⟩
    · by_cases e1 : k = 1
      · subst e1
        have h0 := H0.out (by omega)
        have hcall := HC1.out wr HB.out
        by_cases hz : checkWide l1 = 0
        · rw [hz] at hcall
          go_wp2_with (go_at_call 67; refine hcall.mono ?_; rintro e w' ⟨rfl, hb'⟩; have HB' := Aside0.mk hb'; clear hb')
          go_roundw
          case rel => exact ⟨2, by omega, by go_num, H0.out |> fun h => ⟨fun _ => h (by omega)⟩, ⟨fun h => hz⟩, ⟨bcomp HB.out HB'.out⟩, ⟨pw_cell_below HB'.out HX.out⟩, ⟨pw_cell_below HB'.out HY.out⟩⟩
          case measure => simp [intOf]
        · have HF := Aside0.mk (show pairE l0 l1 = checkWide l1 by simp [pairE, h0, hz])
          have hz2 : (checkWide l1 != 0) = true := by simpa using hz
          clear hz h0
          generalize checkWide l1 = z at *
          go_wp2_with (go_at_call 67; refine hcall.mono ?_; rintro e w' ⟨rfl, hb'⟩; have HB' := Aside0.mk hb'; clear hb')
          go_ret
          exact ⟨by rw [HF.out]; rfl, bcomp HB.out HB'.out⟩
      · obtain rfl : k = 2 := by omega
        have h0 := H0.out (by omega)
        have h1 := H1.out (by omega)
        by_cases hl : l0.length = l1.length
        · have HF := Aside0.mk (show pairE l0 l1 = 0 by simp [pairE, h0, h1, hl])
          have hq : ((l0.length : Int) != (l1.length : Int)) = false := by simp [hl]
          clear h0 h1 hl hx hy
          go_wp2
          go_ret
          exact ⟨by rw [HF.out]; rfl, HB.out⟩
        · have HF := Aside0.mk (show pairE l0 l1 = 2 by simp [pairE, h0, h1, hl])
          have hq : ((l0.length : Int) != (l1.length : Int)) = true := by simp; omega
          clear h0 h1 hl hx hy
          go_wp2
          go_ret
          exact ⟨by rw [HF.out]; rfl, HB.out⟩


def sq (x y : Int) : Int := (x - y) * (x - y)
/-- The sum of the squares of the first k differences. -/
def distTo (a b : List Int) : Nat → Int
  | 0 => 0
  | k + 1 => distTo a b k + sq (a.getD k 0) (b.getD k 0)
def wideOk (x : Int) : Prop := -131072 ≤ x ∧ x ≤ 131072
theorem wide_of {l : List Int} (h : checkWide l = 0) : 1 ≤ l.length ∧ l.length ≤ 1024 ∧ ∀ j, j < l.length → wideOk (l.getD j 0) := by
  unfold checkWide at h
  split at h
  · omega
  · rename_i h1
    split at h
    · omega
    · rename_i h2
      refine ⟨by omega, by omega, fun j hj => ?_⟩
      have hb : beyond (l.getD j 0) = false := by
        have h3 : ∀ x, x ∈ l → beyond x = false := by simpa using h2
        rw [List.getD_eq_getElem?_getD, List.getElem?_eq_getElem hj]
        exact h3 _ (List.getElem_mem hj)
      simp only [beyond, Bool.or_eq_false_iff, decide_eq_false_iff_not] at hb
      exact ⟨by omega, by omega⟩
theorem sq_bound {x y : Int} (hx : wideOk x) (hy : wideOk y) : 0 ≤ sq x y ∧ sq x y ≤ 68719476736 := by
  unfold wideOk at hx hy
  unfold sq
  refine ⟨mul_self_nonneg' _, ?_⟩
  have h1 : (x - y) ≤ 262144 := by omega
  have h2 : -262144 ≤ (x - y) := by omega
  generalize x - y = d at h1 h2
  rcases Int.le_total 0 d with h | h
  · exact Int.mul_le_mul h1 h1 h (by omega)
  · have : d * d = (-d) * (-d) := by rw [Int.neg_mul_neg]
    rw [this]
    have h3 : -d ≤ 262144 := by omega
    exact Int.mul_le_mul h3 h3 (by omega) (by omega)
theorem distTo_bound {a b : List Int} {n : Nat} (ha : ∀ j, j < n → wideOk (a.getD j 0)) (hb : ∀ j, j < n → wideOk (b.getD j 0)) : ∀ k, k ≤ n → 0 ≤ distTo a b k ∧ distTo a b k ≤ 68719476736 * k
  | 0, _ => by simp [distTo]
  | k + 1, hk => by
    have ih := distTo_bound ha hb k (by omega)
    have hs := sq_bound (ha k (by omega)) (hb k (by omega))
    simp only [distTo]
    omega
theorem pairE_ok {a b : List Int} (h : pairE a b = 0) : checkWide a = 0 ∧ checkWide b = 0 ∧ a.length = b.length := by
  unfold pairE at h
  split at h
  · omega
  · split at h
    · omega
    · split at h
      · omega
      · refine ⟨by omega, by omega, by omega⟩
/-- What Dist tells. -/
def distV (a b : List Int) : Int := if pairE a b = 0 then distTo a b a.length else 0

theorem Dist_calls (A0 : Option Addr) (c0 : Nat) (l0 : List Int) (A1 : Option Addr) (c1 : Nat) (l1 : List Int) (w : World) (hr0 : Kd.C (Kd.int .i32) w A0 l0.length l0) (hr1 : Kd.C (Kd.int .i32) w A1 l1.length l1) :
    Calls Try.prog 95 #[.slice A0 l0.length c0, .slice A1 l1.length c1] w fun e w' => e = .returned (.tuple #[.int .i64 (distV l0 l1), .int .i64 (pairE l0 l1)]) ∧ Below w.heap.size w w' := by
  have hmax := C_max hr0
  have hmax1 := C_max hr1
  have hcall := pair_calls A0 c0 l0 A1 c1 l1 w hr0 hr1
  by_cases hz : pairE l0 l1 = 0
  · obtain ⟨hw0, hw1, hl⟩ := pairE_ok hz
    obtain ⟨_, hn, hwa⟩ := wide_of hw0
    obtain ⟨_, _, hwb⟩ := wide_of hw1
    have HF := Aside0.mk (show distV l0 l1 = distTo l0 l1 l0.length by simp [distV, hz])
    have HB := Aside0.mk (distTo_bound (n := l0.length) hwa (fun j hj => hwb j (by omega)))
    have HA := Aside0.mk hwa
    have HA1 := Aside0.mk hwb
    have HL := Aside0.mk hl
    have HC := Aside0.mk (C_ints hr0)
    have HC1 := Aside0.mk (C_ints hr1)
    rw [HF.out]
    rw [hz] at hcall ⊢
    clear hz hw0 hw1 hl hwa hwb hr0 hr1 HF
    go_enter Try.func95, Try.ntmps95
    go_wp2_with (go_at_call 124; refine hcall.mono ?_; rintro e w1 ⟨rfl, hb'⟩; have HB' := Aside0.mk hb'; clear hb')
    go_loopw [7, 8, 9, 10, 19] (fun s _ _ _ v wr => ∃ k : Nat, k ≤ l0.length ∧ v = .int .i64 k ∧ s = .int .i64 (distTo l0 l1 k) ∧ Aside0 (Below w.heap.size w wr)) (fun _ _ _ _ v _ => l0.length - (intOf v).toNat)
    case atStart => exact ⟨0, by omega, rfl, rfl, HB'⟩
    case round =>
      clear HB'
      obtain ⟨k, hk, rfl, rfl, HBe⟩ := hrel
      by_cases hlt : k < l0.length
      · obtain ⟨ad, rfl, hx⟩ := HC.out k hlt
        obtain ⟨ad1, rfl, hy⟩ := HC1.out k (by have := HL.out; omega)
        have hx := pw_cell_below HBe.out hx
        have hy := pw_cell_below HBe.out hy
        obtain ⟨hd0, hd1⟩ := HB.out k hk
        have hwx := HA.out k hlt
        have hwy := HA1.out k (by have := HL.out; omega)
        obtain ⟨hs0, hs1⟩ := sq_bound hwx hwy
        have HS := Aside0.mk (show distTo l0 l1 (k + 1) = distTo l0 l1 k + sq (l0.getD k 0) (l1.getD k 0) from rfl)
        have hlt1 : k < l1.length := by have := HL.out; omega
        generalize l0.getD k 0 = x at *
        generalize l1.getD k 0 = y at *
        generalize distTo l0 l1 k = dk at *
        obtain ⟨hx1, hx2⟩ := hwx
        obtain ⟨hy1, hy2⟩ := hwy
        unfold sq at hs0 hs1
        go_wp2
        go_roundw
        case rel => exact ⟨k + 1, by omega, by go_num, by rw [HS.out]; rfl, HBe⟩
        case measure => simp [intOf]; omega
      · obtain rfl : k = l0.length := by omega
        go_wp2
        go_ret2
        exact ⟨rfl, HBe.out⟩
  · have HF := Aside0.mk (show distV l0 l1 = 0 by simp [distV, hz])
    rw [HF.out]
    have hz2 : (pairE l0 l1 != 0) = true := by simpa using hz
    clear hz HF hr0 hr1
    generalize pairE l0 l1 = z at *
    go_enter Try.func95, Try.ntmps95
    go_wp2_with (go_at_call 124; refine hcall.mono ?_; rintro e w1 ⟨rfl, hb'⟩; have HB' := Aside0.mk hb'; clear hb')
    go_ret2
    exact ⟨rfl, HB'.out⟩

end Go.Proofs.Yteickelddnhdiaa.G
