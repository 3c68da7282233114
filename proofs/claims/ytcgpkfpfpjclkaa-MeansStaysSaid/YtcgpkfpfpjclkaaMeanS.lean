/- Lloyd's, unit by unit: the state, and that unit does one. -/
import Derived.Test.YtcgpkfpfpjclkaaMeanV
namespace Go.Proofs.Ytcgpkfpfpjclkaa.G
open Go.RowKit Go.Shelf Go.Proofs.YtcgpkfpfpjclkaaW.PrintWords
set_option linter.unusedVariables false
structure St where
  P : List (List Int)
  C : List (List Int)
  it : Nat
  r : Nat
  a : Nat
  of : List Int
def St.raw (s : St) (m : Nat) : Raw := ⟨s.P, s.C, s.it, s.r, s.a, s.of, tab s.C.length m (sm s.P s.of s.a), vec s.C.length (cnt s.of s.a)⟩
structure Good (m : Nat) (s : St) : Prop where
  k1 : 1 ≤ s.C.length
  k2 : s.C.length ≤ 1000
  m1 : 1 ≤ m
  m2 : m ≤ 1024
  C : Mm.Val m s.C
  P : Mm.Val m s.P
  n : s.P.length ≤ 1000
  o : s.of.length = s.P.length
  a : s.a ≤ s.P.length
  r : s.r ≤ 1000
def stepS (s : St) : St := if s.a < s.P.length then { s with a := s.a + 1, of := s.of.set s.a (asgC s.P s.C s.a : Int) } else { s with C := moved s.P s.of s.C, a := 0, r := s.r + 1 }
def stepN (m : Nat) (s : St) : Nat := if s.a < s.P.length then s.C.length * m + m else s.C.length * m
theorem of_set_at {of : List Int} {a j : Nat} {x : Int} (h : j ≠ a) : (of.set a x).getD j (-1) = of.getD j (-1) := by
  rw [List.getD_eq_getElem?_getD, List.getD_eq_getElem?_getD, List.getElem?_set_ne (Ne.symm h)]
theorem of_set_self {of : List Int} {a : Nat} {x : Int} (h : a < of.length) : (of.set a x).getD a (-1) = x := by
  rw [List.getD_eq_getElem?_getD, List.getElem?_set_self h, Option.getD_some]
theorem cnt_set {of : List Int} {a n : Nat} (h : a < of.length) (x : Nat) : cnt (of.set a (n : Int)) (a + 1) x = if x = n then cnt of a x + 1 else cnt of a x := by
  unfold cnt
  rw [sumTo, of_set_self h, sumTo_congr (g := fun j => if of.getD j (-1) = (x : Int) then 1 else 0) (fun j hj => by rw [of_set_at (by omega)])]
  by_cases hx : x = n
  · rw [if_pos (by omega), if_pos hx]
  · rw [if_neg (by omega), if_neg hx, Int.add_zero]
theorem sm_set {P : List (List Int)} {of : List Int} {a n : Nat} (h : a < of.length) (x y : Nat) : sm P (of.set a (n : Int)) (a + 1) x y = if x = n then sm P of a x y + at2 P a y else sm P of a x y := by
  unfold sm
  rw [sumTo, of_set_self h, sumTo_congr (g := fun j => if of.getD j (-1) = (x : Int) then at2 P j y else 0) (fun j hj => by rw [of_set_at (by omega)])]
  by_cases hx : x = n
  · rw [if_pos (by omega), if_pos hx]
  · rw [if_neg (by omega), if_neg hx, Int.add_zero]
theorem wide_at {m : Nat} {C : List (List Int)} (h : Mm.Val m C) (n i : Nat) : -131072 ≤ at2 C n i ∧ at2 C n i ≤ 131072 := h.wide n i
theorem moved_val {P : List (List Int)} {of : List Int} {C : List (List Int)} {m : Nat} (hP : Mm.Val m P) (hC : Mm.Val m C) : Mm.Val m (moved P of C) := by
  have hW : Wid m C := hC.len
  refine ⟨moved_wid hW, fun j i => ?_⟩
  by_cases hj : j < C.length
  · by_cases hi : i < m
    · exact moved_in (fun j _ => wide_at hP j i) (wide_at hC j i) hj (by rw [hW j hj]; exact hi)
    · have hl := moved_wid (P := P) (of := of) hW j (by rw [moved_len]; exact hj)
      rw [List.getD_eq_getElem?_getD, List.getElem?_eq_none (by omega)]
      simp [Mm.isWide]
  · rw [List.getD_eq_getElem?_getD (l := moved P of C), List.getElem?_eq_none (by rw [moved_len]; omega)]
    simp [Mm.isWide]
theorem moved_tab {P : List (List Int)} {of : List Int} {C : List (List Int)} {m : Nat} (hC : Mm.Val m C) : moved P of C = tab C.length m (newAt P of C) := by
  unfold moved tab
  refine List.map_congr_left (fun n hn => ?_)
  rw [hC.len n (List.mem_range.1 hn)]
theorem Good.step {m : Nat} {s : St} (h : Good m s) (hr : s.r < 1000) : Good m (stepS s) := by
  unfold stepS
  by_cases ha : s.a < s.P.length
  · rw [if_pos ha]
    exact ⟨h.k1, h.k2, h.m1, h.m2, h.C, h.P, h.n, by simp [h.o], by show s.a + 1 ≤ s.P.length; omega, h.r⟩
  · rw [if_neg ha]
    exact ⟨by show 1 ≤ (moved _ _ _).length; rw [moved_len]; exact h.k1, by show (moved _ _ _).length ≤ _; rw [moved_len]; exact h.k2, h.m1, h.m2, moved_val h.P h.C, h.P, h.n, h.o, Nat.zero_le _, by show s.r + 1 ≤ 1000; omega⟩
theorem sm_in {m : Nat} {s : St} (h : Good m s) (n i : Nat) : -1152921504606846976 ≤ sm s.P s.of s.a n i ∧ sm s.P s.of s.a n i ≤ 1152921504606846976 := by
  have h1 := sm_bound (P := s.P) (of := s.of) (a := s.a) (n := n) (i := i) (fun j _ => wide_at h.P j i)
  have h2 := cnt_le s.of s.a n
  have h3 := cnt_nonneg s.of s.a n
  have h4 := h.a
  have h5 := h.n
  omega
/-- One unit. -/
theorem unit_c {L : Lay} {w : World} {m : Nat} {s : St} (h : MSt L w (s.raw m)) (hg : Good m s) (hr : s.r < 1000) :
    Calls Try.prog 39 #[.pointer (some ⟨L.g, 0, none⟩)] w fun e w' => e = .returned (.int .i64 (stepN m s : Int)) ∧ MSt L w' ((stepS s).raw m) ∧ Fr L.lo L.hi w w' := by
  have hcn : ∀ n, 0 ≤ cnt s.of s.a n ∧ cnt s.of s.a n ≤ 1152921504606846976 := fun n => by
    have h2 := cnt_le s.of s.a n
    have h3 := cnt_nonneg s.of s.a n
    have h4 := hg.a
    have h5 := hg.n
    omega
  by_cases ha : s.a < s.P.length
  · refine (unit_asg h rfl hg.C hg.P ha hg.o hg.k1 (by have := hg.k2; omega) hg.m1 hg.m2 (by have := hg.n; omega) (sm_in hg) hcn).mono ?_
    rintro e w' ⟨rfl, h1, h2⟩
    refine ⟨by unfold stepN; rw [if_pos ha], ?_, h2⟩
    have e0 : stepS s = { s with a := s.a + 1, of := s.of.set s.a (asgC s.P s.C s.a : Int) } := by unfold stepS; rw [if_pos ha]
    rw [e0]
    have e1 : tab s.C.length m (sm s.P (s.of.set s.a (asgC s.P s.C s.a : Int)) (s.a + 1)) = tab s.C.length m (fun x y => if x = asgC s.P s.C s.a then sm s.P s.of s.a x y + at2 s.P s.a y else sm s.P s.of s.a x y) := tab_congr (fun x y _ _ => sm_set (by rw [hg.o]; exact ha) x y)
    have e2 : vec s.C.length (cnt (s.of.set s.a (asgC s.P s.C s.a : Int)) (s.a + 1)) = vec s.C.length (fun x => if x = asgC s.P s.C s.a then cnt s.of s.a x + 1 else cnt s.of s.a x) := vec_congr (fun x _ => cnt_set (by rw [hg.o]; exact ha) x)
    show MSt L w' ⟨s.P, s.C, s.it, s.r, s.a + 1, s.of.set s.a (asgC s.P s.C s.a : Int), tab s.C.length m (sm s.P (s.of.set s.a (asgC s.P s.C s.a : Int)) (s.a + 1)), vec s.C.length (cnt (s.of.set s.a (asgC s.P s.C s.a : Int)) (s.a + 1))⟩
    rw [e1, e2]
    exact h1
  · have hae : s.a = s.P.length := by have := hg.a; omega
    refine (unit_mov h rfl hg.C ha hg.k1 (by have := hg.k2; omega) hg.m1 hg.m2 (by omega) (sm_in hg) hcn (fun n i hp => ?_)).mono ?_
    · exact mean_in hp (sm_bound (fun j _ => wide_at hg.P j i)).1 (sm_bound (fun j _ => wide_at hg.P j i)).2
    rintro e w' ⟨rfl, h1, h2⟩
    refine ⟨by unfold stepN; rw [if_neg ha], ?_, h2⟩
    have e0 : stepS s = { s with C := moved s.P s.of s.C, a := 0, r := s.r + 1 } := by unfold stepS; rw [if_neg ha]
    rw [e0]
    show MSt L w' ⟨s.P, moved s.P s.of s.C, s.it, s.r + 1, 0, s.of, tab (moved s.P s.of s.C).length m (sm s.P s.of 0), vec (moved s.P s.of s.C).length (cnt s.of 0)⟩
    rw [moved_len]
    have e3 : moved s.P s.of s.C = tab s.C.length m (movC (sm s.P s.of s.a) (cnt s.of s.a) s.C) := by
      rw [moved_tab hg.C, hae]
      rfl
    rw [e3]
    exact h1
/-! Rounds. -/
def stepsS : Nat → St → St
  | 0, s => s
  | n + 1, s => stepS (stepsS n s)
/-- Within a round: so many points assigned. -/
def mid (P : List (List Int)) (it r : Nat) (C : List (List Int)) (of : List Int) : Nat → List Int
  | 0 => of
  | j + 1 => (mid P it r C of j).set j (asgC P C j : Int)
end Go.Proofs.Ytcgpkfpfpjclkaa.G
