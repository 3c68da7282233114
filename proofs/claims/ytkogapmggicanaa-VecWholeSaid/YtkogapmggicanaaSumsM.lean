/- VecSums: its plain law. -/
import Derived.Test.YtkogapmggicanaaVecE
import Derived.Test.YtkogapmggicanaaVecR
import Derived.Test.YtkogapmggicanaaSame
namespace Go.Proofs.Ytkogapmggicanaa.G
open Go.RowKit Go.Shelf Go.Proofs.YtkogapmggicanaaW.PrintWords
set_option linter.unusedVariables false
set_option linter.unusedSimpArgs false

theorem R_cap {α : Type} {d : Kd α} {e : Nat} {w : World} {base : Nat} {ok : Nat → Prop} {A : Option Addr} {n c : Nat} {xs : List α} (h : d.R e w base ok (.slice A n c) xs) : c ≤ 9223372036854775807 := by
  obtain ⟨inner, ho⟩ := Kd.R_own h
  rcases ho.2 with ⟨e1, _⟩ | ⟨g, cap, cur, e1, _, _, _, hc, _⟩
  · cases e1; omega
  · cases e1; simpa [maxLen] using hc

theorem num2_two (x : Int) (h : -32768 ≤ x ∧ x ≤ 32767) : num2 (x % 256) (x / 256 % 256) = x := by
  unfold num2 signedV
  simp only [ofTo, List.getD_cons_zero, List.getD_cons_succ]
  have e0 : (x % 256 * 2 ^ (8 * 0) + x / 256 % 256 * 2 ^ (8 * 1) : Int) = x % 65536 := by omega
  rw [show (0 + x % 256 * 2 ^ (8 * 0) + x / 256 % 256 * 2 ^ (8 * 1) : Int) = x % 65536 by omega]
  rw [if_neg (by omega)]
  have e1 : (8 * (8 - min (2 : Int) 8)).toNat = 48 := by decide
  rw [e1, IntKind.wrap_u64]
  have e3 : ∀ y, IntKind.i16.wrap y = (y + 32768) % 65536 - 32768 := fun y => by
    simp [IntKind.wrap, IntKind.signed, IntKind.bits]
    omega
  rw [e3]
  unfold wrap64
  have e2 : (2 : Int) ^ 48 = 281474976710656 := by decide
  rw [e2]
  omega
theorem read_back (l : List Int) (h : ∀ x ∈ l, (-32768 ≤ x ∧ x ≤ 32767)) : readL (bytesOfVec l) = l := by
  unfold readL
  rw [bov_len]
  apply List.ext_getElem
  · simp
  · intro i h1 h2
    have hb : ∀ (l : List Int) (i : Nat), i < l.length → (bytesOfVec l).getD (2 * i) 0 = l.getD i 0 % 256 ∧ (bytesOfVec l).getD (2 * i + 1) 0 = l.getD i 0 / 256 % 256 := by
      intro l
      induction l with
      | nil => intro i hi; simp at hi
      | cons y l ih =>
        intro i hi
        cases i with
        | zero => simp [bytesOfVec, two]
        | succ i =>
          have := ih i (by simpa using hi)
          simp only [bytesOfVec, List.flatMap_cons, two] at this ⊢
          rw [show 2 * (i + 1) = 2 * i + 1 + 1 by omega]
          simpa using this
    obtain ⟨b1, b2⟩ := hb l i h2
    simp only [List.getElem_map, List.getElem_range, b1, b2]
    rw [List.getD_eq_getElem?_getD, List.getElem?_eq_getElem h2]
    exact num2_two _ (h _ (List.getElem_mem h2))
theorem read_backE (l : List Int) (h : l.length ≤ 1024) : readE (bytesOfVec l) = 0 := by
  unfold readE
  rw [bov_len, if_neg (by omega), if_neg (by omega)]
theorem bov_bytes (l : List Int) (j : Nat) (hj : j < (bytesOfVec l).length) : isByte ((bytesOfVec l).getD j 0) := by
  have h : ∀ x ∈ bytesOfVec l, isByte x := by
    intro x hx
    simp only [bytesOfVec, List.mem_flatMap, two, List.mem_cons, List.not_mem_nil, or_false] at hx
    obtain ⟨y, _, rfl | rfl⟩ := hx <;> (unfold isByte; omega)
  rw [List.getD_eq_getElem?_getD, List.getElem?_eq_getElem hj]
  exact h _ (List.getElem_mem hj)

theorem any_getD {l : List Int} {q : Int → Bool} (h : l.any q = false) (j : Nat) (hj : j < l.length) : q (l.getD j 0) = false := by
  have h3 : ∀ x, x ∈ l → q x = false := by simpa using h
  rw [List.getD_eq_getElem?_getD, List.getElem?_eq_getElem hj]
  exact h3 _ (List.getElem_mem hj)
theorem any_no {l : List Int} {q : Int → Bool} (h : ∀ j, j < l.length → q (l.getD j 0) = false) : l.any q = false := by
  rw [Bool.eq_false_iff]
  intro hc
  rw [List.any_eq_true] at hc
  obtain ⟨x, hx, hq⟩ := hc
  obtain ⟨j, hj, rfl⟩ := List.mem_iff_getElem.1 hx
  have := h j hj
  rw [List.getD_eq_getElem?_getD, List.getElem?_eq_getElem hj] at this
  simp_all
theorem alongTo_getD (h : Int → Int → Int) (a b : List Int) (k j : Nat) (hj : j < k) : (alongTo h a b k).getD j 0 = h (a.getD j 0) (b.getD j 0) := by
  simp [alongTo, List.getD_eq_getElem?_getD, hj]
theorem wide_mk {l : List Int} (h1 : 1 ≤ l.length) (h2 : l.length ≤ 1024) (h : ∀ j, j < l.length → wideOk (l.getD j 0)) : checkWide l = 0 := by
  unfold checkWide
  rw [if_neg (by omega), if_neg]
  intro hc
  have : l.any beyond = false := any_no fun j hj => by
    have := h j hj
    unfold wideOk at this
    simp only [beyond, Bool.or_eq_false_iff, decide_eq_false_iff_not]
    omega
  rw [this] at hc
  cases hc
theorem beyond_wide {x : Int} : beyond x = false ↔ wideOk x := by
  simp [beyond, wideOk]
/-- What is known where along goes well. -/
theorem along_ok {h : Int → Int → Int} {a b : List Int} (he : alongE h a b = 0) :
    pairE a b = 0 ∧ alongL h a b = alongTo h a b a.length ∧ ∀ j, j < a.length → wideOk (h (a.getD j 0) (b.getD j 0)) := by
  have hL : alongL h a b = alongTo h a b a.length := by simp [alongL, he]
  unfold alongE at he
  split at he
  · rename_i h1; exact absurd he h1
  · rename_i h1
    split at he
    · omega
    · rename_i h2
      refine ⟨by omega, hL, fun j hj => ?_⟩
      have h3 : (alongTo h a b a.length).any beyond = false := by simpa using h2
      have h4 := any_getD h3 j (by rw [alongTo_length]; exact hj)
      rw [alongTo_getD _ _ _ _ _ hj] at h4
      exact beyond_wide.1 h4
theorem along_mk {h : Int → Int → Int} {a b : List Int} (hp : pairE a b = 0) (hw : ∀ j, j < a.length → wideOk (h (a.getD j 0) (b.getD j 0))) : alongE h a b = 0 := by
  unfold alongE
  rw [if_neg (by simpa using hp), if_neg]
  intro hc
  have : (alongTo h a b a.length).any beyond = false := any_no fun j hj => by
    rw [alongTo_length] at hj
    rw [alongTo_getD _ _ _ _ _ hj]
    exact beyond_wide.2 (hw j hj)
  rw [this] at hc
  cases hc
theorem pairE_mk {a b : List Int} (h0 : checkWide a = 0) (h1 : checkWide b = 0) (hl : a.length = b.length) : pairE a b = 0 := by simp [pairE, h0, h1, hl]
theorem wrap32_small {x : Int} (h : -524288 ≤ x ∧ x ≤ 524288) : wrap32 x = x := by
  unfold wrap32; omega
theorem list_ext {a b : List Int} (hl : a.length = b.length) (h : ∀ j, j < a.length → a.getD j 0 = b.getD j 0) : a = b := by
  refine List.ext_getElem hl fun i h1 h2 => ?_
  have := h i h1
  simpa [List.getD_eq_getElem?_getD, List.getElem?_eq_getElem h1, List.getElem?_eq_getElem h2] using this
theorem distTo_congr {a b c d : List Int} : ∀ k, (∀ j, j < k → sq (a.getD j 0) (b.getD j 0) = sq (c.getD j 0) (d.getD j 0)) → distTo a b k = distTo c d k
  | 0, _ => rfl
  | k + 1, h => by simp only [distTo]; rw [distTo_congr k (fun j hj => h j (by omega)), h k (by omega)]
/-- The law. -/
theorem sums {a b : List Int} (he : alongE subW a b = 0) :
    alongE addW (alongL subW a b) b = 0 ∧ alongL addW (alongL subW a b) b = a ∧ pairE a b = 0 ∧ pairE (alongL subW a b) (List.replicate (alongL subW a b).length 0) = 0 ∧
    distV (alongL subW a b) (List.replicate (alongL subW a b).length 0) = distV a b := by
  obtain ⟨hp, hL, hw⟩ := along_ok he
  obtain ⟨h0, h1, hl⟩ := pairE_ok hp
  obtain ⟨hn1, hn2, hwa⟩ := wide_of h0
  obtain ⟨_, _, hwb⟩ := wide_of h1
  rw [hL]
  have hlen : (alongTo subW a b a.length).length = a.length := alongTo_length _ _ _ _
  have hs : ∀ j, j < a.length → (alongTo subW a b a.length).getD j 0 = a.getD j 0 - b.getD j 0 := fun j hj => by
    rw [alongTo_getD _ _ _ _ _ hj]
    have e1 := hwa j hj
    have e2 := hwb j (by omega)
    unfold wideOk at e1 e2
    exact wrap32_small (by omega)
  have hsw : ∀ j, j < a.length → wideOk (a.getD j 0 - b.getD j 0) := fun j hj => by
    have := hw j hj
    rw [← alongTo_getD subW a b a.length j hj, hs j hj] at this
    exact this
  have hcs : checkWide (alongTo subW a b a.length) = 0 := wide_mk (by omega) (by omega) fun j hj => by
    rw [hlen] at hj
    rw [hs j hj]
    exact hsw j hj
  have hp2 := pairE_mk hcs h1 (by omega)
  have hadd : ∀ j, j < a.length → addW ((alongTo subW a b a.length).getD j 0) (b.getD j 0) = a.getD j 0 := fun j hj => by
    rw [hs j hj]
    have e1 := hwa j hj
    unfold wideOk at e1
    unfold addW
    rw [wrap32_small (by omega)]
    omega
  have hE : alongE addW (alongTo subW a b a.length) b = 0 := along_mk hp2 fun j hj => by
    rw [hlen] at hj
    rw [hadd j hj]
    exact hwa j hj
  have hz : ∀ j, (List.replicate (alongTo subW a b a.length).length (0 : Int)).getD j 0 = 0 := fun j => by
    simp [List.getD_eq_getElem?_getD, List.getElem?_replicate]
    split <;> rfl
  have hp3 : pairE (alongTo subW a b a.length) (List.replicate (alongTo subW a b a.length).length 0) = 0 :=
    pairE_mk hcs (wide_mk (by simp; omega) (by simp; omega) fun j hj => by rw [hz]; unfold wideOk; omega) (by simp)
  refine ⟨hE, ?_, hp, hp3, ?_⟩
  · rw [(along_ok hE).2.1]
    refine list_ext (by rw [alongTo_length, hlen]) fun j hj => ?_
    rw [alongTo_length, hlen] at hj
    rw [alongTo_getD _ _ _ _ _ (by omega), hadd j hj]
  · simp only [distV, hp3, hp, if_true]
    rw [hlen]
    refine distTo_congr _ fun j hj => ?_
    rw [hs j hj, ← hlen, hz]
    simp [sq]

end Go.Proofs.Ytkogapmggicanaa.G
