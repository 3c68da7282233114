/- Books, plainly: Encode, Decode, Loss of a book that may be. -/
import Derived.Test.YtpcacklmelokiaaBookP
namespace Go.Proofs.Ytpcacklmelokiaa.Bk
open Go.RowKit Go.Proofs.YtpcacklmelokiaaW.PrintWords Go.Proofs.YtpcacklmelokiaaW.PrintLast Go.Proofs.Ytpcacklmelokiaa.G
set_option linter.unusedVariables false

/-- A book of n words in each part, m numbers each. -/
structure BookOK (b : List (List (List Int))) (n m : Nat) : Prop where
  p1 : 1 ≤ b.length
  n1 : 1 ≤ n
  n2 : n ≤ 256
  m1 : 1 ≤ m
  most : m * b.length ≤ 1024
  parts : ∀ l ∈ b, l.length = n
  words : ∀ l ∈ b, ∀ v ∈ l, v.length = m ∧ checkWide v = 0
theorem bookE_ok {b : List (List (List Int))} (h : bookE b = 0) : ∃ n m, BookOK b n m := by
  unfold bookE at h
  split at h
  · cases h
  split at h
  · cases h
  rename_i h1 h2
  rw [Bool.not_eq_false] at h1
  simp only [shapedL, Bool.not_eq_true', Bool.or_eq_false_iff, decide_eq_false_iff_not] at h1
  obtain ⟨⟨⟨⟨⟨⟨⟨a1, a2⟩, a3⟩, a4⟩, a5⟩, a6⟩, a7⟩, a8⟩ := h1
  rw [List.any_eq_false] at a8
  simp only [List.any_eq_true, not_exists, not_and] at h2
  have hodd : ∀ l ∈ b, l.length = (b.getD 0 []).length ∧ ∀ v ∈ l, v.length = ((b.getD 0 []).getD 0 []).length := fun l hl => by
    have h := a8 l hl
    rw [Bool.not_eq_true] at h
    simp only [odd, Bool.or_eq_false_iff] at h
    obtain ⟨h3, h4⟩ := h
    rw [List.any_eq_false] at h4
    refine ⟨?_, fun v hv => ?_⟩
    · have := bne_eq_false_iff_eq.1 h3
      omega
    · have h5 := h4 v hv
      rw [Bool.not_eq_true] at h5
      have := bne_eq_false_iff_eq.1 h5
      omega
  refine ⟨(b.getD 0 []).length, ((b.getD 0 []).getD 0 []).length, ?_⟩
  generalize (b.getD 0 []).getD 0 [] = w0 at *
  generalize b.getD 0 [] = l0 at *
  exact ⟨by omega, by omega, by omega, by omega, by omega, fun l hl => (hodd l hl).1, fun l hl v hv => ⟨(hodd l hl).2 v hv, by
    have := h2 l hl v hv
    simpa using this⟩⟩
section
variable {b : List (List (List Int))} {n m : Nat}
theorem getD_mem {α : Type} {l : List α} {i : Nat} {z : α} (h : i < l.length) : l.getD i z ∈ l := by
  rw [List.getD_eq_getElem?_getD, List.getElem?_eq_getElem h]
  exact List.getElem_mem h
theorem BookOK.word (hb : BookOK b n m) {i c : Nat} (hi : i < b.length) (hc : c < n) : ((b.getD i []).getD c []).length = m ∧ checkWide ((b.getD i []).getD c []) = 0 :=
  hb.words _ (getD_mem hi) _ (getD_mem (by rw [hb.parts _ (getD_mem hi)]; exact hc))
theorem dim_is (hb : BookOK b n m) (h : bookE b = 0) : book_Dim.f b = some ((m * b.length : Nat) : Int) := by
  have h1 := hb.p1
  have h0 : (b.getD 0 []).length = n := hb.parts _ (getD_mem (by omega))
  have h2 := (hb.word (i := 0) (c := 0) (by omega) hb.n1).1
  have h3 := hb.most
  have h4 := hb.n1
  have e1 : rd_L3 b 0 = b.getD 0 [] := rfl
  have e2 : rd_L2 (rd_L3 b 0) 0 = (b.getD 0 []).getD 0 [] := rfl
  simp only [book_Dim.f, book_Check.f, h, Option.bind, if_true]
  rw [if_pos (by omega), e2, e1, h0, if_pos (by omega), h2]
  have e3 : (b.length : Int) * (m : Int) = ((m * b.length : Nat) : Int) := by rw [Int.natCast_mul, Int.mul_comm]
  rw [e3, wrap_nat (by omega)]
theorem cut_is (hb : BookOK b n m) {v : List Int} (hl : v.length = m * b.length) : part_Cut.f v (b.length : Int) = some ((List.range b.length).map (pieceL v m), 0) := by
  have h1 := hb.p1
  have h2 := hb.m1
  have h3 := hb.most
  have hE : cutE v (b.length : Int) = 0 := by
    unfold cutE partE
    rw [if_neg]
    have hm : m * b.length ≥ b.length := Nat.le_mul_of_pos_left _ h2
    have hd : ((m * b.length : Nat) : Int) % (b.length : Int) = 0 := by rw [Int.natCast_mul]; exact Int.mul_emod_left _ _
    rw [hl]
    omega
  unfold part_Cut.f cutL
  rw [if_pos hE, hE, hl, Int.toNat_natCast, Nat.mul_div_cancel _ (by omega)]
theorem piece_ok (hb : BookOK b n m) {v : List Int} (hv : checkWide v = 0) (hl : v.length = m * b.length) {i : Nat} (hi : i < b.length) : (pieceL v m i).length = m ∧ checkWide (pieceL v m i) = 0 := by
  have h1 := Nat.mul_le_mul_right m (show i + 1 ≤ b.length from hi)
  rw [Nat.add_mul, Nat.one_mul, Nat.mul_comm b.length m, ← hl] at h1
  have h2 : (pieceL v m i).length = m := by simp [pieceL]; omega
  obtain ⟨v1, v2, v3⟩ := wideOk_mem hv
  have := hb.m1
  have := hb.most
  have := Nat.le_mul_of_pos_right m hb.p1
  refine ⟨h2, checkWide_of (by omega) (by omega) fun x hx => v3 x ?_⟩
  exact List.mem_of_mem_drop (List.mem_of_mem_take hx)
/-- Part i's byte of a vector's code. -/
def codeOf (b : List (List (List Int))) (m : Nat) (v : List Int) (i : Nat) : Int := (nearTo (distsOf (b.getD i []) (pieceL v m i)) (b.getD i []).length).1
theorem near_is (hb : BookOK b n m) {v : List Int} (hv : checkWide v = 0) (hl : v.length = m * b.length) {i : Nat} (hi : i < b.length) : book_words_nearest.f (b.getD i []) (pieceL v m i) = some (codeOf b m v i) := by
  obtain ⟨p1, p2⟩ := piece_ok hb hv hl hi
  have hp := hb.parts _ (getD_mem (z := []) hi)
  have hw := hb.words _ (getD_mem (z := []) hi)
  unfold book_words_nearest.f
  rw [if_pos]
  · rfl
  · have := hb.n1
    have := hb.n2
    exact (centsB_iff _ _).2 ⟨by omega, by omega, fun c hc => (hw c hc).2, fun c hc => by rw [(hw c hc).1, p1], p2⟩
theorem code_spec (hb : BookOK b n m) {v : List Int} {i : Nat} (hi : i < b.length) : ∃ k : Nat, k < n ∧ codeOf b m v i = (k : Int) ∧ ∀ j, j < n → distsOf (b.getD i []) (pieceL v m i) k ≤ distsOf (b.getD i []) (pieceL v m i) j := by
  have hp := hb.parts _ (getD_mem (z := []) hi)
  obtain ⟨k, hk, he, hm, _⟩ := nearTo_spec (distsOf (b.getD i []) (pieceL v m i)) (fun j => distV_nonneg _ _) (b.getD i []).length (by have := hb.n1; omega)
  exact ⟨k, by omega, by unfold codeOf; rw [he], fun j hj => hm j (by omega)⟩
theorem Encode_is (hb : BookOK b n m) (h0 : bookE b = 0) {v : List Int} (hv : checkWide v = 0) (hl : v.length = m * b.length) : Ev (fun k => book_Encode.f k b v) ((List.range b.length).map (codeOf b m v), 0) := by
  have h3 := hb.most
  have h4 := Nat.le_mul_of_pos_left b.length hb.m1
  unfold book_Encode.f
  refine Ev.bindc (a := 0) (by show some (bookE b) = _; rw [h0]) (Ev.pos rfl ?_)
  refine Ev.bindc (a := 0) (by show some (checkWide v) = _; rw [hv]) (Ev.pos rfl ?_)
  refine Ev.bindc (dim_is hb h0) (Ev.pos (by rw [hl]) ?_)
  refine Ev.bindc (cut_is hb hl) ?_
  have hpl : ((List.range b.length).map (pieceL v m)).length = b.length := by simp
  refine Ev.for_ (l := fun i k => book_Encode.l0 k ((List.range i).map (codeOf b m v)) ((List.range b.length).map (pieceL v m)) (((List.range b.length).map (pieceL v m)).length : Int) (i : Int) b) (g := fun _ => some ((List.range b.length).map (codeOf b m v), 0)) (Nat.zero_le b.length) (fun i _ hi k => ?_) (fun k => ?_) (Ev.some_ _)
  · simp only [book_Encode.l0]
    have e1 : rd_L3 b (i : Int) = b.getD i [] := rfl
    have e2 : rd_L2 ((List.range b.length).map (pieceL v m)) (i : Int) = pieceL v m i := by simp [rd_L2, hi]
    rw [if_pos (by omega), if_pos (by omega), if_pos (by omega), if_pos (by omega), e1, e2, near_is hb hv hl hi]
    show (if ((List.range i).map (codeOf b m v)).length < 140737488355328 then _ else _) = _
    rw [if_pos (by simp; omega), wrap_succ (by omega), List.range_succ, List.map_append]
    rfl
  · simp only [book_Encode.l0]
    rw [if_neg (by omega)]
theorem Encode_bad (hb : BookOK b n m) (h0 : bookE b = 0) {v : List Int} (h : ¬ (checkWide v = 0 ∧ v.length = m * b.length)) : ∃ e, e ≠ 0 ∧ Ev (fun k => book_Encode.f k b v) ([], e) := by
  unfold book_Encode.f
  by_cases hv : checkWide v = 0
  · refine ⟨2, by decide, ?_⟩
    refine Ev.bindc (a := 0) (by show some (bookE b) = _; rw [h0]) (Ev.pos rfl ?_)
    refine Ev.bindc (a := 0) (by show some (checkWide v) = _; rw [hv]) (Ev.pos rfl ?_)
    exact Ev.bindc (dim_is hb h0) (Ev.neg (fun e => h ⟨hv, by omega⟩) (Ev.some_ _))
  · refine ⟨checkWide v, hv, ?_⟩
    refine Ev.bindc (a := 0) (by show some (bookE b) = _; rw [h0]) (Ev.pos rfl ?_)
    exact Ev.bindc (a := checkWide v) rfl (Ev.neg hv (Ev.some_ _))
/-- A code that may be. -/
def CodeOK (b : List (List (List Int))) (n : Nat) (c : List Int) : Prop := c.length = b.length ∧ ∀ i, i < b.length → ∃ k : Nat, k < n ∧ c.getD i 0 = (k : Int)
def wordOf (b : List (List (List Int))) (c : List Int) (i : Nat) : List Int := (b.getD i []).getD (c.getD i 0).toNat []
def decTo (b : List (List (List Int))) (c : List Int) (i : Nat) : List Int := ((List.range i).map (wordOf b c)).flatten
theorem wordOf_ok (hb : BookOK b n m) {c : List Int} (hc : CodeOK b n c) {i : Nat} (hi : i < b.length) : (wordOf b c i).length = m ∧ checkWide (wordOf b c i) = 0 := by
  obtain ⟨k, hk, he⟩ := hc.2 i hi
  unfold wordOf
  rw [he, Int.toNat_natCast]
  exact hb.word hi hk
theorem decTo_succ (b : List (List (List Int))) (c : List Int) (i : Nat) : decTo b c (i + 1) = decTo b c i ++ wordOf b c i := by simp [decTo, List.range_succ]
theorem decTo_length (hb : BookOK b n m) {c : List Int} (hc : CodeOK b n c) : ∀ i, i ≤ b.length → (decTo b c i).length = m * i
  | 0, _ => by simp [decTo]
  | i + 1, h => by rw [decTo_succ, List.length_append, decTo_length hb hc i (by omega), (wordOf_ok hb hc (show i < b.length from h)).1, Nat.mul_add, Nat.mul_one]
theorem Decode_is (hb : BookOK b n m) (h0 : bookE b = 0) {c : List Int} (hc : CodeOK b n c) : Ev (fun k => book_Decode.f k b c) (decTo b c b.length, 0) := by
  have h3 := hb.most
  have h4 := Nat.le_mul_of_pos_left b.length hb.m1
  unfold book_Decode.f
  refine Ev.bindc (a := 0) (by show some (bookE b) = _; rw [h0]) (Ev.pos rfl (Ev.pos (by rw [hc.1]) ?_))
  refine Ev.for_ (l := fun i k => book_Decode.l0 k (decTo b c i) c (c.length : Int) (i : Int) b) (g := fun _ => some (decTo b c b.length, 0)) (Nat.zero_le b.length) (fun i _ hi k => ?_) (fun k => ?_) (Ev.some_ _)
  · obtain ⟨q, hq, he⟩ := hc.2 i hi
    have hp := hb.parts _ (getD_mem (z := []) hi)
    have hn2 := hb.n2
    have hw := (wordOf_ok hb hc hi).1
    have hd := decTo_length hb hc i (by omega)
    have e0 : rd c (i : Int) = (q : Int) := by rw [rd_nat, he]
    have e1 : rd_L3 b (i : Int) = b.getD i [] := rfl
    have e2 : rd_L2 (b.getD i []) (q : Int) = wordOf b c i := by unfold wordOf; rw [he]; rfl
    have hmi : m * i ≤ m * b.length := Nat.mul_le_mul_left m (by omega)
    have hl := hc.1
    have hm := Nat.le_mul_of_pos_right m hb.p1
    simp only [book_Decode.l0]
    rw [e0, e1, e2, wrap_nat (n := q) (by omega), if_pos (by omega), if_pos (by omega), if_pos (by omega), if_pos (by omega), if_neg (by omega), if_pos (by omega), if_pos (by omega), if_pos (by omega), wrap_succ (by omega), ← decTo_succ]
  · simp only [book_Decode.l0]
    have hl := hc.1
    rw [if_neg (by omega)]
theorem code_ok (hb : BookOK b n m) (v : List Int) : CodeOK b n ((List.range b.length).map (codeOf b m v)) := by
  refine ⟨by simp, fun i hi => ?_⟩
  obtain ⟨k, hk, he, _⟩ := code_spec hb (v := v) hi
  exact ⟨k, hk, by simp [hi, he]⟩
theorem dec_wide (hb : BookOK b n m) {c : List Int} (hc : CodeOK b n c) : checkWide (decTo b c b.length) = 0 ∧ (decTo b c b.length).length = m * b.length := by
  have hl := decTo_length hb hc b.length (Nat.le_refl _)
  have := hb.most
  have := Nat.mul_le_mul hb.m1 hb.p1
  refine ⟨checkWide_of (by omega) (by omega) fun x hx => ?_, hl⟩
  obtain ⟨l, hl, hxl⟩ := List.mem_flatten.1 hx
  obtain ⟨i, hi, rfl⟩ := List.mem_map.1 hl
  exact (wideOk_mem (wordOf_ok hb hc (by simpa using hi)).2).2.2 x hxl
end
end Go.Proofs.Ytpcacklmelokiaa.Bk
