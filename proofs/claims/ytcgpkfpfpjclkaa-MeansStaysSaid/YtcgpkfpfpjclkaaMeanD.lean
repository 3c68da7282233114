/- The order of the points does not matter; cents stay between bounds; headers of rows. -/
import Derived.Test.YtcgpkfpfpjclkaaMeanC
namespace Go.Proofs.Ytcgpkfpfpjclkaa.G
open Go.RowKit Go.Shelf Go.Proofs.YtcgpkfpfpjclkaaW.PrintWords
set_option linter.unusedVariables false
set_option linter.unusedSimpArgs false
theorem sumTo_split (a b : Nat) (f : Nat → Int) : sumTo (a + b) f = sumTo a f + sumTo b (fun j => f (a + j)) := by
  induction b with
  | zero => simp [sumTo]
  | succ b ih => show sumTo (a + b) f + f (a + b) = sumTo a f + (sumTo b (fun j => f (a + j)) + f (a + b)); rw [ih]; omega
theorem sumTo_rot {n b : Nat} (hb : b < n) (f : Nat → Int) : sumTo n (fun j => f ((j + b) % n)) = sumTo n f := by
  obtain ⟨c, rfl⟩ : ∃ c, n = b + c := ⟨n - b, by omega⟩
  rw [sumTo_split b c f, show b + c = c + b from Nat.add_comm b c, sumTo_split c b]
  have e1 : sumTo c (fun j => f ((j + b) % (c + b))) = sumTo c (fun j => f (b + j)) := sumTo_congr (fun j hj => by rw [Nat.mod_eq_of_lt (by omega), Nat.add_comm j b])
  have e2 : sumTo b (fun j => f ((c + j + b) % (c + b))) = sumTo b f := sumTo_congr (fun j hj => by rw [show c + j + b = j + (c + b) by omega, Nat.add_mod_right, Nat.mod_eq_of_lt (by omega)])
  rw [e1, e2]
  omega
/-- The points, turned. -/
def turned (P : List (List Int)) (b : Nat) : List (List Int) := (List.range P.length).map (fun i => P.getD ((i + b) % P.length) [])
theorem turned_len (P : List (List Int)) (b : Nat) : (turned P b).length = P.length := by simp [turned]
theorem turned_at {P : List (List Int)} {b j : Nat} (hj : j < P.length) : (turned P b).getD j [] = P.getD ((j + b) % P.length) [] := by
  unfold turned
  rw [List.getD_eq_getElem?_getD, List.getElem?_map, List.getElem?_range hj, Option.map_some, Option.getD_some]
theorem cnt_of (P C : List (List Int)) (x : Nat) : cnt (assigned P C) P.length x = sumTo P.length (fun j => if ((near C (P.getD j [])).1 : Int) = (x : Int) then 1 else 0) :=
  sumTo_congr (fun j hj => by rw [assigned_at hj]; rfl)
theorem sm_of (P C : List (List Int)) (x y : Nat) : sm P (assigned P C) P.length x y = sumTo P.length (fun j => if ((near C (P.getD j [])).1 : Int) = (x : Int) then (P.getD j []).getD y 0 else 0) :=
  sumTo_congr (fun j hj => by rw [assigned_at hj]; rfl)
theorem turn_sum (P : List (List Int)) (b : Nat) (F : List Int → Int) : sumTo (turned P b).length (fun j => F ((turned P b).getD j [])) = sumTo P.length (fun j => F (P.getD j [])) := by
  rw [turned_len]
  by_cases h0 : P.length = 0
  · rw [h0]; rfl
  have hb : b % P.length < P.length := Nat.mod_lt _ (by omega)
  rw [← sumTo_rot hb (fun j => F (P.getD j []))]
  refine sumTo_congr (fun j hj => ?_)
  rw [turned_at hj, Nat.add_mod_mod]
theorem rnd_turn (P C : List (List Int)) (b : Nat) : rnd (turned P b) C = rnd P C := by
  unfold rnd moved
  refine List.map_congr_left (fun n _ => List.map_congr_left (fun i _ => ?_))
  unfold newAt
  have e1 : cnt (assigned (turned P b) C) (turned P b).length n = cnt (assigned P C) P.length n := by
    rw [cnt_of, cnt_of]
    exact turn_sum P b (fun v => if ((near C v).1 : Int) = (n : Int) then 1 else 0)
  have e2 : sm (turned P b) (assigned (turned P b) C) (turned P b).length n i = sm P (assigned P C) P.length n i := by
    rw [sm_of, sm_of]
    exact turn_sum P b (fun v => if ((near C v).1 : Int) = (n : Int) then v.getD i 0 else 0)
  rw [e1, e2]
theorem rounds_turn (P C : List (List Int)) (b : Nat) : ∀ k, rounds (turned P b) k C = rounds P k C
  | 0 => rfl
  | k + 1 => by show rnd _ _ = rnd _ _; rw [rounds_turn P C b k, rnd_turn]
theorem turned_val {P : List (List Int)} {b m : Nat} (h : Mm.Val m P) : Mm.Val m (turned P b) := by
  refine ⟨fun j hj => ?_, fun j => ?_⟩
  · rw [turned_len] at hj
    rw [turned_at hj]
    exact h.len _ (Nat.mod_lt _ (by omega))
  · by_cases hj : j < P.length
    · rw [turned_at hj]
      exact h.wide _
    · rw [List.getD_eq_getElem?_getD, List.getElem?_eq_none (by rw [turned_len]; omega)]
      exact Mm.wideL_of (fun x hx => by simp at hx)
/-- The least, the greatest of a number of the first points. -/
def lowTo (P : List (List Int)) (c : Int) (y : Nat) : Nat → Int
  | 0 => c
  | j + 1 => min (lowTo P c y j) (at2 P j y)
def highTo (P : List (List Int)) (c : Int) (y : Nat) : Nat → Int
  | 0 => c
  | j + 1 => max (highTo P c y j) (at2 P j y)
theorem lowTo_le (P : List (List Int)) (c : Int) (y : Nat) : ∀ n, lowTo P c y n ≤ c ∧ ∀ j, j < n → lowTo P c y n ≤ at2 P j y
  | 0 => ⟨Int.le_refl _, fun j hj => absurd hj (Nat.not_lt_zero _)⟩
  | n + 1 => by
    obtain ⟨h1, h2⟩ := lowTo_le P c y n
    refine ⟨by rw [lowTo]; omega, fun j hj => ?_⟩
    rw [lowTo]
    by_cases hjn : j = n
    · subst hjn; omega
    · have := h2 j (by omega); omega
theorem highTo_ge (P : List (List Int)) (c : Int) (y : Nat) : ∀ n, c ≤ highTo P c y n ∧ ∀ j, j < n → at2 P j y ≤ highTo P c y n
  | 0 => ⟨Int.le_refl _, fun j hj => absurd hj (Nat.not_lt_zero _)⟩
  | n + 1 => by
    obtain ⟨h1, h2⟩ := highTo_ge P c y n
    refine ⟨by rw [highTo]; omega, fun j hj => ?_⟩
    rw [highTo]
    by_cases hjn : j = n
    · subst hjn; omega
    · have := h2 j (by omega); omega
theorem rounds_bounds {P C : List (List Int)} {m n i : Nat} (hW : Wid m C) (hn : n < C.length) (hi : i < m) (k : Nat) : lowTo P (at2 C n i) i P.length ≤ at2 (rounds P k C) n i ∧ at2 (rounds P k C) n i ≤ highTo P (at2 C n i) i P.length := by
  obtain ⟨l1, l2⟩ := lowTo_le P (at2 C n i) i P.length
  obtain ⟨h1, h2⟩ := highTo_ge P (at2 C n i) i P.length
  exact rounds_in hW (fun j hj => ⟨l2 j hj, h2 j hj⟩) ⟨l1, h1⟩ hn hi k
/-! ### The headers of rows -/
abbrev H3 := Option Addr × Nat × Nat
def d3 : H3 := (none, 0, 0)
def encH (h : H3) : Value := .slice h.1 h.2.1 h.2.2
theorem encH1 (h : H3) : (encH h).oneCell' = true := rfl
def Hdr (W : World) (hs : List H3) (r : List (List Int)) : Prop :=
  hs.length = r.length ∧ ∀ j, j < r.length → (hs.getD j d3).2.1 = (r.getD j []).length ∧ (r.getD j []).length ≤ (hs.getD j d3).2.2 ∧ Kd.C (Kd.int .i32) W (hs.getD j d3).1 (r.getD j []).length (r.getD j [])
theorem Hdr.nil (W : World) : Hdr W [] [] := ⟨rfl, fun j h => absurd h (Nat.not_lt_zero _)⟩
theorem Hdr.below {W W' : World} {hs : List H3} {r : List (List Int)} (h : Hdr W hs r) (hb : Below W.heap.size W W') : Hdr W' hs r := ⟨h.1, fun j hj => ⟨(h.2 j hj).1, (h.2 j hj).2.1, Kd.C_below (h.2 j hj).2.2 hb⟩⟩
theorem Hdr.append {W : World} {hs hs' : List H3} {r r' : List (List Int)} (h : Hdr W hs r) (h' : Hdr W hs' r') : Hdr W (hs ++ hs') (r ++ r') := by
  refine ⟨by rw [List.length_append, List.length_append, h.1, h'.1], fun j hj => ?_⟩
  rw [List.length_append] at hj
  simp only [List.getD_eq_getElem?_getD]
  by_cases hlt : j < r.length
  · rw [List.getElem?_append_left (by rw [h.1]; exact hlt), List.getElem?_append_left hlt]
    have := h.2 j hlt
    simp only [List.getD_eq_getElem?_getD] at this
    exact this
  · rw [List.getElem?_append_right (by rw [h.1]; omega), List.getElem?_append_right (by omega), h.1]
    have := h'.2 (j - r.length) (by omega)
    simp only [List.getD_eq_getElem?_getD] at this
    exact this
theorem hdr_of_C {W : World} {A : Option Addr} {n : Nat} {r : List (List Int)} (h : Kd.C (Kd.slice 21 (Kd.int .i32)) W A n r) : ∃ hs, ReadsOf encH d3 W A n hs ∧ Hdr W hs r := by
  have hl : r.length = n := h.1
  have key : ∀ j, ∃ x : H3, j < n → (∃ ad, A = some ad ∧ W.cell? (ad.add j) = some (encH x)) ∧ x.2.1 = (r.getD j []).length ∧ (r.getD j []).length ≤ x.2.2 ∧ Kd.C (Kd.int .i32) W x.1 (r.getD j []).length (r.getD j []) := fun j => by
    by_cases hj : j < n
    · obtain ⟨ad, A', c, e, hx, hc, hC⟩ := rows_get h j hj
      exact ⟨(A', (r.getD j []).length, c), fun _ => ⟨⟨ad, e, hx⟩, rfl, hc, hC⟩⟩
    · exact ⟨d3, fun h => absurd h hj⟩
  have hg : ∀ j, j < n → ((List.range n).map (fun j => Classical.choose (key j))).getD j d3 = Classical.choose (key j) := fun j hj => by simp [hj]
  refine ⟨(List.range n).map (fun j => Classical.choose (key j)), ⟨by simp, h.2.1, fun hn => ?_⟩, by simp [hl], fun j hj => ?_⟩
  · obtain ⟨⟨ad, e, _⟩, _⟩ := Classical.choose_spec (key 0) hn
    refine ⟨ad, e, fun j hj => ?_⟩
    obtain ⟨⟨ad', e', hx⟩, _⟩ := Classical.choose_spec (key j) hj
    rw [e] at e'
    cases e'
    rw [hg j hj]
    exact hx
  · rw [hg j (by omega)]
    exact (Classical.choose_spec (key j) (by omega)).2
theorem reads_below {w W : World} {A : Option Addr} {n : Nat} {hs : List H3} (h : ReadsOf encH d3 w A n hs) (hb : Below w.heap.size w W) : ReadsOf encH d3 W A n hs :=
  ⟨h.1, h.2.1, fun hn => by obtain ⟨ad, e, hc⟩ := h.2.2 hn; exact ⟨ad, e, fun j hj => pw_cell_below hb (hc j hj)⟩⟩
theorem C_of_hdr {W : World} {A : Option Addr} {n : Nat} {hs : List H3} {r : List (List Int)} (h : ReadsOf encH d3 W A n hs) (hh : Hdr W hs r) : Kd.C (Kd.slice 21 (Kd.int .i32)) W A n r := by
  have hl : r.length = n := by rw [← hh.1]; exact h.1
  refine ⟨hl, h.2.1, fun hn => ?_⟩
  obtain ⟨ad, e, hc⟩ := h.2.2 hn
  refine ⟨ad, e, fun j p hj => ?_⟩
  have hjn : j < r.length := (List.getElem?_eq_some_iff.1 hj).1
  have hp : r.getD j [] = p := by rw [List.getD_eq_getElem?_getD, hj]; rfl
  obtain ⟨h1, h2, h3⟩ := hh.2 j hjn
  rw [hp] at h1 h2 h3
  refine ⟨[encH (hs.getD j d3)], rfl, ⟨(hs.getD j d3).1, (hs.getD j d3).2.2, by unfold encH; rw [h1], h2, h3⟩, fun i u hu => ?_⟩
  cases i with
  | zero =>
    simp at hu
    subst hu
    have e : j * (Kd.slice 21 (Kd.int .i32)).sz + 0 = j := by show j * 1 + 0 = j; omega
    rw [e]
    exact hc j (by omega)
  | succ i => simp at hu
theorem hdr_one {W : World} {A : Option Addr} {c : Nat} {v : List Int} (hC : Kd.C (Kd.int .i32) W A v.length v) (hc : v.length ≤ c) : Hdr W [(A, v.length, c)] [v] :=
  ⟨rfl, fun j hj => by
    have hj : j < 1 := hj
    obtain rfl : j = 0 := by omega
    exact ⟨rfl, hc, hC⟩⟩
end Go.Proofs.Ytcgpkfpfpjclkaa.G
