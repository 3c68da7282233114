/- Statement BookAgain, plainly. -/
import Derived.Test.YtpcacklmelokiaaBookQ2
import Derived.Test.YtpcacklmelokiaaBkx5
namespace Go.Proofs.Ytpcacklmelokiaa.Bk
open Go.RowKit Go.Proofs.YtpcacklmelokiaaW.PrintWords Go.Proofs.YtpcacklmelokiaaW.PrintLast Go.Proofs.Ytpcacklmelokiaa.G
set_option linter.unusedVariables false

theorem Same_self (a : List Int) (ha : a.length ≤ 1024) : Ev (fun k => wayfinderkit_Same_int32.f k a a) true := by
  unfold wayfinderkit_Same_int32.f
  refine Ev.pos rfl ?_
  exact Ev.for_ (l := fun i k => wayfinderkit_Same_int32.l0 k a a (i : Int)) (g := fun _ => some true) (Nat.zero_le a.length) (fun i _ hi k => by
      simp only [wayfinderkit_Same_int32.l0]
      rw [if_pos (by omega), if_pos (by omega), if_pos (by omega), if_true, wrap_succ (by omega)])
    (fun k => by simp only [wayfinderkit_Same_int32.l0]; rw [if_neg (by omega)]) (Ev.some_ _)
theorem sq_nonneg (x y : Int) : 0 ≤ sq x y := by
  unfold sq
  rw [← Int.natAbs_mul_self]
  exact Int.natCast_nonneg _
theorem sq_zero {x y : Int} (h : sq x y = 0) : x = y := by
  unfold sq at h
  rcases Int.mul_eq_zero.1 h with h | h <;> omega
theorem sq_self (x : Int) : sq x x = 0 := by simp [sq]
theorem distTo_self (a : List Int) : ∀ k, distTo a a k = 0
  | 0 => rfl
  | k + 1 => by simp only [distTo, distTo_self a k, sq_self]; rfl
theorem distTo_zero {a b : List Int} : ∀ k, distTo a b k = 0 → ∀ j, j < k → a.getD j 0 = b.getD j 0
  | 0, _, j, hj => by omega
  | k + 1, h, j, hj => by
    have h1 := distTo_nonneg a b k
    have h2 := sq_nonneg (a.getD k 0) (b.getD k 0)
    simp only [distTo] at h
    rcases Nat.lt_succ_iff_lt_or_eq.1 hj with h3 | rfl
    · exact distTo_zero k (by omega) j h3
    · exact sq_zero (by omega)
theorem ext_getD {a b : List Int} (hl : a.length = b.length) (h : ∀ j, j < a.length → a.getD j 0 = b.getD j 0) : a = b := by
  apply List.ext_getElem hl
  intro j h1 h2
  have := h j h1
  simpa [List.getD_eq_getElem?_getD, List.getElem?_eq_getElem h1, List.getElem?_eq_getElem h2] using this
theorem eqA (r : Nat) (x5 x7 x9 : List Int) (x15 x16 : Int) (b : List (List (List Int))) : wayfinderlaw15_BookAgain.l1 (r + 1) x5 x7 x9 x15 x16 b = if x16 < (x5.length : Int) then (if 0 ≤ x16 then (if x16 < (x9.length : Int) then (if (rd x9 x16) > (rd x5 x16) then (none) else ((book_Word.f b x16 (wrap64 (rd x5 x16))).bind fun bt226 => (if bt226.2 = 0 then (if (wrap64 (x15 + (bt226.1.length : Int))) > (x7.length : Int) then (none) else (if 0 ≤ x15 then (if x15 ≤ (wrap64 (x15 + (bt226.1.length : Int))) then (if (wrap64 (x15 + (bt226.1.length : Int))) ≤ (x7.length : Int) then ((wayfinderkit_Same_int32.f r bt226.1 ((x7.take ((wrap64 (x15 + (bt226.1.length : Int))) : Int).toNat).drop (x15 : Int).toNat)).bind fun t234 => (if t234 = true then (wayfinderlaw15_BookAgain.l1 r x5 x7 x9 (wrap64 (x15 + (bt226.1.length : Int))) (wrap64 (x16 + 1)) b) else (none))) else (none)) else (none)) else (none))) else (none)))) else (none)) else (none)) else (some (x15 == (x7.length : Int))) := by
  rw [wayfinderlaw15_BookAgain.l1]
theorem bind_s {α β : Type} (a : α) (f : α → Option β) : (some a).bind f = f a := rfl
theorem step1 {b : List (List (List Int))} {c X C w : List Int} {y i M : Nat} (r : Nat) (g1 : ¬ (rd C (i : Int) > rd c (i : Int))) (g2 : (i : Int) < (c.length : Int)) (g4 : (i : Int) < (C.length : Int)) (hW : book_Word.f b (i : Int) (wrap64 (rd c (i : Int))) = some (w, 0))
    (e2 : wrap64 ((y : Int) + (w.length : Int)) = (M : Int)) (h5 : ¬ (M : Int) > (X.length : Int)) (h7 : (y : Int) ≤ (M : Int)) (h8 : (M : Int) ≤ (X.length : Int)) (e3 : (X.take M).drop y = w) (e5 : wrap64 ((i : Int) + 1) = ((i + 1 : Nat) : Int)) :
    wayfinderlaw15_BookAgain.l1 (r + 1) c X C (y : Int) (i : Int) b = (wayfinderkit_Same_int32.f r w w).bind fun t => if t = true then wayfinderlaw15_BookAgain.l1 r c X C (M : Int) ((i + 1 : Nat) : Int) b else none := by
  rw [eqA, if_pos g2, if_pos (Int.natCast_nonneg i), if_pos g4, if_neg g1, hW, bind_s]
  dsimp only
  rw [if_pos rfl, e2, e5, if_neg h5, if_pos (Int.natCast_nonneg y), if_pos h7, if_pos h8, Int.toNat_natCast, Int.toNat_natCast, e3]
section
variable {b : List (List (List Int))} {n m : Nat}
theorem piece_dec (hb : BookOK b n m) {c : List Int} (hc : CodeOK b n c) {i : Nat} (hi : i < b.length) : pieceL (decTo b c b.length) m i = wordOf b c i := by
  obtain ⟨h1, h2⟩ := dec_wide hb hc
  have p1 := (piece_ok hb h1 h2 hi).1
  refine ext_getD (by rw [p1, (wordOf_ok hb hc hi).1]) fun j hj => ?_
  rw [p1] at hj
  rw [← decTo_get hb hc hj b.length hi (Nat.le_refl _)]
  simp [pieceL, List.getD_eq_getElem?_getD, List.getElem?_drop, List.getElem?_take, hj, Nat.mul_comm]
theorem code_again (hb : BookOK b n m) {c : List Int} (hc : CodeOK b n c) {i : Nat} (hi : i < b.length) :
    ∃ k q : Nat, c.getD i 0 = (q : Int) ∧ codeOf b m (decTo b c b.length) i = (k : Int) ∧ k ≤ q ∧ q < n ∧ (b.getD i []).getD k [] = wordOf b c i := by
  obtain ⟨q, hq, hcq⟩ := hc.2 i hi
  have hp := hb.parts _ (getD_mem (z := []) hi)
  have hw : wordOf b c i = (b.getD i []).getD q [] := by unfold wordOf; rw [hcq, Int.toNat_natCast]
  have hpd := piece_dec hb hc hi
  obtain ⟨k, hk, he, hmin, hfirst⟩ := nearTo_spec (distsOf (b.getD i []) (pieceL (decTo b c b.length) m i)) (fun j => distV_nonneg _ _) (b.getD i []).length (by have := hb.n1; omega)
  have hzero : distsOf (b.getD i []) (pieceL (decTo b c b.length) m i) q = 0 := by
    unfold distsOf
    rw [hpd, ← hw]
    unfold distV
    split
    · exact distTo_self _ _
    · rfl
  have hkz : distsOf (b.getD i []) (pieceL (decTo b c b.length) m i) k = 0 := by
    have h1 := hmin q (by omega)
    have h2 : 0 ≤ distsOf (b.getD i []) (pieceL (decTo b c b.length) m i) k := distV_nonneg _ _
    omega
  refine ⟨k, q, hcq, by unfold codeOf; rw [he], ?_, hq, ?_⟩
  · refine Nat.le_of_not_lt fun h => ?_
    have := hfirst q h
    omega
  · obtain ⟨w1, w2⟩ := hb.word hi (show k < n by omega)
    obtain ⟨v1, v2⟩ := wordOf_ok hb hc hi
    have h3 := hkz
    unfold distsOf distV at h3
    rw [hpd, if_pos (pairE_zero w2 v2 (by rw [w1, v1]))] at h3
    exact ext_getD (by rw [w1, v1]) (distTo_zero _ h3)
theorem dec_again (hb : BookOK b n m) {c : List Int} (hc : CodeOK b n c) : decTo b ((List.range b.length).map (codeOf b m (decTo b c b.length))) b.length = decTo b c b.length := by
  unfold decTo
  congr 1
  apply List.map_congr_left
  intro i hi
  have hi : i < b.length := by simpa using hi
  obtain ⟨k, q, _, hk, _, _, hw⟩ := code_again hb hc hi
  have hg : ((List.range b.length).map (codeOf b m (decTo b c b.length))).getD i 0 = (k : Int) := by simp [hi, hk]
  show (b.getD i []).getD (((List.range b.length).map (codeOf b m (decTo b c b.length))).getD i 0).toNat [] = wordOf b c i
  rw [hg, Int.toNat_natCast, hw]
theorem Word_is (hb : BookOK b n m) (h0 : bookE b = 0) {c : List Int} (hc : CodeOK b n c) {i : Nat} (hi : i < b.length) : book_Word.f b (i : Int) (wrap64 (rd c (i : Int))) = some (wordOf b c i, 0) := by
  obtain ⟨q, hq, he⟩ := hc.2 i hi
  have hp := hb.parts _ (getD_mem (z := []) hi)
  have hn2 := hb.n2
  obtain ⟨w1, _⟩ := wordOf_ok hb hc hi
  have hm1 : m ≤ 1024 := by have := hb.most; have := Nat.le_mul_of_pos_right m hb.p1; omega
  have e0 : wrap64 (rd c (i : Int)) = (q : Int) := by rw [rd_nat, he, wrap_nat (by omega)]
  have e1 : rd_L3 b (i : Int) = b.getD i [] := rfl
  have e2 : rd_L2 (b.getD i []) (q : Int) = wordOf b c i := by unfold wordOf; rw [he]; rfl
  have hcl : slices_Clone_int32_int32.f (wordOf b c i) = some (wordOf b c i) := by unfold slices_Clone_int32_int32.f; rw [if_pos (by omega)]
  simp only [book_Word.f, book_Check.f, h0, Option.bind, if_true, e0, e1, e2]
  rw [if_neg (by omega), if_neg (by omega), if_neg (by omega), if_pos (by omega), if_pos (by omega), if_neg (by omega), if_pos (by omega), if_pos (by omega), hcl]
theorem ja0_true (c : List Int) : Ev (fun k => wayfinderlaw15_BookAgain.j0 k c true b) true :=
  Ev.step (f := fun _ => some true) (fun k => by simp only [wayfinderlaw15_BookAgain.j0]; rw [if_pos trivial]) (Ev.some_ _)
theorem loop1 (hb : BookOK b n m) (h0 : bookE b = 0) {c : List Int} (hc : CodeOK b n c) :
    Ev (fun k => wayfinderlaw15_BookAgain.l1 k c (decTo b c b.length) ((List.range b.length).map (codeOf b m (decTo b c b.length))) ((0 : Nat) : Int) ((0 : Nat) : Int) b) true := by
  obtain ⟨h1, h2⟩ := dec_wide hb hc
  have hlc := hc.1
  have hmost := hb.most
  have hmul := Nat.le_mul_of_pos_left b.length hb.m1
  have hgo : ∀ d i, i + d = b.length → Ev (fun k => wayfinderlaw15_BookAgain.l1 k c (decTo b c b.length) ((List.range b.length).map (codeOf b m (decTo b c b.length))) ((m * i : Nat) : Int) (i : Int) b) true := by
    intro d
    induction d with
    | zero =>
      intro i hi
      obtain rfl : i = b.length := by omega
      refine Ev.step (f := fun _ => some true) (fun r => ?_) (Ev.some_ _)
      rw [eqA, if_neg (by omega), h2]
      simp
    | succ d ih =>
      intro i hid
      have hi : i < b.length := by omega
      have hnext := ih (i + 1) (by omega)
      obtain ⟨k, q, hq, hk, hkq, _, _⟩ := code_again hb hc hi
      obtain ⟨w1, w2⟩ := wordOf_ok hb hc hi
      have hle : m * i + m ≤ m * b.length := by
        have := Nat.mul_le_mul_left m (show i + 1 ≤ b.length from hi)
        rw [Nat.mul_add, Nat.mul_one] at this
        exact this
      have hsub : m * i + m - m * i = m := Nat.add_sub_cancel_left _ _
      have hm1024 : m ≤ 1024 := Nat.le_trans (Nat.le_mul_of_pos_right m hb.p1) hmost
      have e4 : m * (i + 1) = m * i + m := by rw [Nat.mul_add, Nat.mul_one]
      have hmi : m * i + m ≤ 1024 := Nat.le_trans hle hmost
      rw [e4] at hnext
      have E0 : rd c (i : Int) = (q : Int) := by rw [rd_nat, hq]
      have E1 : rd ((List.range b.length).map (codeOf b m (decTo b c b.length))) (i : Int) = (k : Int) := by rw [rd_nat]; simp [hi, hk]
      have g1 : ¬ (rd ((List.range b.length).map (codeOf b m (decTo b c b.length))) (i : Int) > rd c (i : Int)) := by
        rw [E0, E1]
        exact fun h => absurd (Int.ofNat_lt.1 h) (Nat.not_lt.2 hkq)
      have g4 : (i : Int) < (((List.range b.length).map (codeOf b m (decTo b c b.length))).length : Int) := by simp; exact hi
      have e3 : ((decTo b c b.length).take (m * i + m)).drop (m * i) = wordOf b c i := by
        rw [← piece_dec hb hc hi]
        unfold pieceL
        rw [List.drop_take, Nat.mul_comm i m, hsub]
      have e2 : wrap64 (((m * i : Nat) : Int) + ((wordOf b c i).length : Int)) = ((m * i + m : Nat) : Int) := by
        rw [w1, ← Int.natCast_add]
        exact wrap_nat (Nat.le_trans hmi (by decide))
      have e5 : wrap64 ((i : Int) + 1) = ((i + 1 : Nat) : Int) := wrap_succ (Nat.lt_of_lt_of_le hi (Nat.le_trans (Nat.le_trans hmul hmost) (by decide)))
      exact Ev.step (fun r => step1 r g1 (by rw [hlc]; exact Int.ofNat_lt.2 hi) g4 (Word_is hb h0 hc hi) e2 (Int.not_lt.2 (Int.ofNat_le.2 (by rw [h2]; exact hle))) (Int.ofNat_le.2 (Nat.le_add_right _ _)) (Int.ofNat_le.2 (by rw [h2]; exact hle)) e3 e5) (Ev.bind (Same_self _ (by rw [w1]; exact hm1024)) (Ev.pos rfl hnext))
  have h := hgo b.length 0 (Nat.zero_add _)
  rw [Nat.mul_zero] at h
  exact h
theorem finalA (hb : BookOK b n m) (h0 : bookE b = 0) {c : List Int} (hc : CodeOK b n c) (x1 : List Int) (x6 : Int) : Ev (fun k => wayfinderlaw15_BookAgain.j2 k x1 c x6 false b) true := by
  obtain ⟨h1, h2⟩ := dec_wide hb hc
  have hD := dec_again hb hc
  have hE := Encode_is hb h0 h1 h2
  have hD2 := Decode_is hb h0 (code_ok hb (decTo b c b.length))
  have hL := Loss_is hb h0 h1 h2
  rw [hD] at hD2 hL
  have hz : distV (decTo b c b.length) (decTo b c b.length) = 0 := by
    unfold distV
    split
    · exact distTo_self _ _
    · rfl
  rw [hz] at hL
  have hmost := hb.most
  refine Ev.step (fun k => by simp only [wayfinderlaw15_BookAgain.j2]; rw [if_neg (by decide)]) ?_
  refine Ev.bind (Decode_is hb h0 hc) (Ev.bind hE (Ev.bind hD2 (Ev.bind hL (Ev.pos rfl (Ev.pos rfl (Ev.pos rfl (Ev.pos rfl (Ev.pos rfl (Ev.bind (Same_self _ (by show (decTo b c b.length).length ≤ 1024; omega)) (Ev.pos rfl (Ev.bindc (dim_is hb h0) (Ev.pos (by rw [h2]) ?_))))))))))))
  have hlc := hc.1
  have hne : ((((List.range b.length).map (codeOf b m (decTo b c b.length))).length : Int) != (c.length : Int)) = false := by simp [hlc]
  dsimp only
  rw [hne]
  exact Ev.step (fun k => by simp only [wayfinderlaw15_BookAgain.j3]; rw [if_neg (by decide)]; rfl) (loop1 hb h0 hc)
theorem again_loop (hb : BookOK b n m) (h0 : bookE b = 0) {code : List Int} (hcode : ∀ x ∈ code, 0 ≤ x ∧ x ≤ 255) : ∀ d i (c : List Int), i + d = b.length → CodeOK b n c →
    Ev (fun k => wayfinderlaw15_BookAgain.l0 k code c (i : Int) b) true := by
  intro d
  induction d with
  | zero =>
    intro i c hi hc
    have hlc := hc.1
    exact Ev.step (fun k => by simp only [wayfinderlaw15_BookAgain.l0]; rw [if_neg (by omega)]) (finalA hb h0 hc code _)
  | succ d ih =>
    intro i c hi hc
    have hlc := hc.1
    have hib : i < b.length := by omega
    by_cases hic : i < code.length
    · have hp := hb.parts _ (getD_mem (z := []) hib)
      have hn1 := hb.n1
      have hn2 := hb.n2
      have e1 : rd_L3 b (i : Int) = b.getD i [] := rfl
      have hx := hcode _ (getD_mem (z := 0) hic)
      have hmost := hb.most
      have hmul := Nat.le_mul_of_pos_left b.length hb.m1
      obtain ⟨q, hq⟩ : ∃ q : Nat, code.getD i 0 = (q : Int) := ⟨(code.getD i 0).toNat, by omega⟩
      have hv2 : Int.tmod (wrap64 (rd code (i : Int))) ((b.getD i []).length : Int) % 256 = ((q % n : Nat) : Int) := by
        rw [rd_nat, hq, wrap_nat (by omega), hp]
        have h1 : Int.tmod (q : Int) (n : Int) = ((q % n : Nat) : Int) := by rw [Int.tmod_eq_emod_of_nonneg (by omega)]; exact (Int.natCast_emod q n).symm
        have h2 := Nat.mod_lt q (show 0 < n by omega)
        rw [h1]
        omega
      have hd : decide ((i : Int) < (code.length : Int)) = true := decide_eq_true (by omega)
      refine Ev.step (fun k => by simp only [wayfinderlaw15_BookAgain.l0]; rw [if_pos (by omega), hd]) ?_
      refine Ev.step (fun k => by simp only [wayfinderlaw15_BookAgain.j2, if_true]; rw [if_pos (by omega), if_pos (by omega), e1, if_neg (by omega), if_pos (by omega), if_pos (by omega), hv2, wrap_succ (by omega), Int.toNat_natCast]) (ih (i + 1) _ (by omega) ?_)
      refine ⟨by rw [List.length_set]; exact hc.1, fun j hj => ?_⟩
      by_cases hji : i = j
      · subst hji
        exact ⟨q % n, Nat.mod_lt _ (by omega), by simp [List.getD_eq_getElem?_getD, List.getElem?_set, hlc, hj]⟩
      · obtain ⟨y, hy, hye⟩ := hc.2 j hj
        exact ⟨y, hy, by rw [← hye]; simp [List.getD_eq_getElem?_getD, List.getElem?_set, hji]⟩
    · have hd : decide ((i : Int) < (code.length : Int)) = false := decide_eq_false (by omega)
      exact Ev.step (fun k => by simp only [wayfinderlaw15_BookAgain.l0]; rw [if_pos (by omega), hd]) (finalA hb h0 hc code _)
end
theorem BookAgain_is (b : List (List (List Int))) (code : List Int) (hcode : ∀ x ∈ code, 0 ≤ x ∧ x ≤ 255) : Ev (fun k => wayfinderlaw15_BookAgain.f k b code) true := by
  unfold wayfinderlaw15_BookAgain.f
  refine Ev.bindc (a := true) rfl (Ev.pos rfl ?_)
  obtain ⟨r, hr⟩ := light_ev b
  refine Ev.bind hr ?_
  cases r with
  | false => exact Ev.neg (by decide) (ja0_true code)
  | true =>
  refine Ev.pos rfl ?_
  by_cases h2 : (code.length : Int) > 1100
  · exact Ev.pos h2 (ja0_true code)
  refine Ev.neg h2 (Ev.bindc (a := bookE b) rfl ?_)
  by_cases h0 : bookE b = 0
  · rw [h0]
    obtain ⟨n, m, hb⟩ := bookE_ok h0
    have hmost := hb.most
    have hmul := Nat.le_mul_of_pos_left b.length hb.m1
    refine Ev.step (fun k => by simp only [wayfinderlaw15_BookAgain.j0]; rw [if_neg (by decide), if_pos (by omega), if_pos (by omega), Int.toNat_natCast]) ?_
    exact again_loop hb h0 hcode b.length 0 _ (by omega) ⟨by simp, fun i hi => ⟨0, hb.n1, by simp [hi]⟩⟩
  · have : (bookE b != 0) = true := by simpa using h0
    rw [this]
    exact ja0_true code
end Go.Proofs.Ytpcacklmelokiaa.Bk
