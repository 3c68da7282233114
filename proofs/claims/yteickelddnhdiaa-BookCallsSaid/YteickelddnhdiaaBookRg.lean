/- BookCalls, plainly: light, Own, lists that are the same, lives. -/
import Derived.Test.YteickelddnhdiaaBookRc
import Derived.Test.YteickelddnhdiaaBookBk
namespace Go.Proofs.Yteickelddnhdiaa.Bk
open Go.RowKit Go.Proofs.YteickelddnhdiaaW.PrintWords Go.Proofs.YteickelddnhdiaaW.PrintLast Go.Proofs.YteickelddnhdiaaW.PrintMore Go.Proofs.Yteickelddnhdiaa.G
set_option linter.unusedVariables false
theorem rPut_is (acc : List Int) (x : Int) (ha : acc.length ≤ 4000000000) : Ev (fun k => wayfinderref01_Put.f k acc x 4) (acc ++ lowBytes x 4) := by
  unfold wayfinderref01_Put.f
  refine Ev.bindc (a := []) rfl (Ev.pos (by simp only [List.length_nil]; omega) ?_)
  rw [List.nil_append]
  have h0 : acc = acc ++ lowBytes x 0 := by simp [lowBytes]
  suffices h : Ev (fun k => wayfinderref01_Put.l0 k x 4 (acc ++ lowBytes x 0) ((0 : Nat) : Int)) (acc ++ lowBytes x 4) by rw [← h0] at h; exact h
  refine Ev.forE (l := fun i k => wayfinderref01_Put.l0 k x 4 (acc ++ lowBytes x i) (i : Int)) (Nat.zero_le 4) (fun i _ hi h => ?_) ?_
  · have hs : IntKind.u64.wrap (wrap64 (8 * (i : Int))) = ((8 * i : Nat) : Int) := by rw [IntKind.wrap_u64]; unfold wrap64; omega
    have hsh : shr .u64 x ((8 * i : Nat) : Int) = x / 2 ^ (8 * i) := by
      unfold shr
      rw [Int.toNat_natCast, Nat.min_eq_left (by show 8 * i ≤ 64; omega)]
    have hl : (acc ++ lowBytes x i).length ≤ 4000000008 := by rw [len_low]; omega
    have HS := Aside0.mk hs
    clear hs
    refine evShift (fun k => by rw [wayfinderref01_Put.l0, if_pos (by omega), if_pos (by omega), HS.out, if_pos (by omega), if_pos (by omega), hsh, ← low_succ, wrap_succ (by omega)]) h
  · exact evShift (fun k => by rw [wayfinderref01_Put.l0, if_neg (by omega)]) (Ev.some_ _)
theorem bytes4_append (a c : List Int) : bytes4 (a ++ c) = bytes4 a ++ bytes4 c := by simp [bytes4]
section
variable {b : List (List (List Int))} {n m : Nat}
def accB (b : List (List (List Int))) (i k t : Nat) : List Int := bytes4 ((b.take i).flatten.flatten ++ ((b.getD i []).take k).flatten ++ ((b.getD i []).getD k []).take t)
theorem accB_row (hb : BookOK b n m) {i k : Nat} (hi : i < b.length) (hk : k < n) : accB b i k m = accB b i (k + 1) 0 := by
  have hp := hb.parts _ (getD_mem (z := []) hi)
  have hw := (hb.word hi hk).1
  have e1 : ((b.getD i []).getD k []).take m = (b.getD i []).getD k [] := List.take_of_length_le (by omega)
  unfold accB
  rw [e1, List.take_zero, List.append_nil, List.append_assoc]
  congr 1
  congr 1
  have hg : (b.getD i []).getD k [] = (b.getD i [])[k]'(by omega) := by rw [List.getD_eq_getElem?_getD, List.getElem?_eq_getElem (by omega)]; rfl
  rw [List.take_succ_eq_append_getElem (by omega), List.flatten_append, hg]
  simp
theorem accB_part (hb : BookOK b n m) {i : Nat} (hi : i < b.length) : accB b i n 0 = accB b (i + 1) 0 0 := by
  have hp := hb.parts _ (getD_mem (z := []) hi)
  have hg : b.getD i [] = b[i] := by rw [List.getD_eq_getElem?_getD, List.getElem?_eq_getElem hi]; rfl
  have e1 : (b.getD i []).take n = b.getD i [] := List.take_of_length_le (by omega)
  unfold accB
  rw [e1]
  simp only [List.take_zero, List.append_nil, List.flatten_nil]
  rw [List.take_succ_eq_append_getElem hi, List.flatten_append, List.flatten_append, hg]
  simp
theorem accB_len (hb : BookOK b n m) {i k t : Nat} (hi : i < b.length) (hk : k < n) (ht : t ≤ m) : (accB b i k t).length ≤ 4000000000 := by
  have n2 := hb.n2
  have mo := hb.most
  have hmP := Nat.le_mul_of_pos_left b.length hb.m1
  have hmm := Nat.le_mul_of_pos_right m hb.p1
  have h1 : ∀ L : List (List (List Int)), (∀ l ∈ L, l ∈ b) → L.flatten.flatten.length ≤ L.length * (256 * 1024) := fun L => by
    induction L with
    | nil => intro _; simp
    | cons l L ih =>
      intro h
      rw [List.flatten_cons, List.flatten_append, List.length_append, List.length_cons, Nat.add_mul]
      have hl := h l (by simp)
      have h2 : ∀ R : List (List Int), (∀ v ∈ R, v ∈ l) → R.flatten.length ≤ R.length * 1024 := fun R => by
        induction R with
        | nil => intro _; simp
        | cons v R ih2 =>
          intro h
          rw [List.flatten_cons, List.length_append, List.length_cons, Nat.add_mul]
          have := (hb.words l hl v (h v (by simp))).1
          have := ih2 (fun x hx => h x (by simp [hx]))
          omega
      have h3 := h2 l (fun v hv => hv)
      have h4 := hb.parts l hl
      have := ih (fun x hx => h x (by simp [hx]))
      omega
  have h2 := h1 (b.take i) (fun l hl => List.mem_of_mem_take hl)
  have hp := hb.parts _ (getD_mem (z := []) hi)
  have h3 : ∀ R : List (List Int), (∀ v ∈ R, v ∈ b.getD i []) → R.flatten.length ≤ R.length * 1024 := fun R => by
    induction R with
    | nil => intro _; simp
    | cons v R ih2 =>
      intro h
      rw [List.flatten_cons, List.length_append, List.length_cons, Nat.add_mul]
      have := (hb.words _ (getD_mem (z := []) hi) v (h v (by simp))).1
      have := ih2 (fun x hx => h x (by simp [hx]))
      omega
  have h4 := h3 ((b.getD i []).take k) (fun v hv => List.mem_of_mem_take hv)
  unfold accB
  rw [b4_len, List.length_append, List.length_append]
  have h5 : (b.take i).length ≤ 1024 := by rw [List.length_take]; omega
  have h6 : ((b.getD i []).take k).length ≤ 256 := by rw [List.length_take]; omega
  have h7 : (((b.getD i []).getD k []).take t).length ≤ 1024 := by rw [List.length_take]; omega
  have h8 := Nat.mul_le_mul_right (256 * 1024) h5
  have h9 := Nat.mul_le_mul_right 1024 h6
  omega
theorem rBytes_is (hl : LightB b) (hb : BookOK b n m) (h0 : bookE b = 0) : Ev (fun k => wayfinderref15_Bytes.f k b) (bytesB b) := by
  have n1 := hb.n1
  have n2 := hb.n2
  have mo := hb.most
  have hmP := Nat.le_mul_of_pos_left b.length hb.m1
  have hmm := Nat.le_mul_of_pos_right m hb.p1
  unfold wayfinderref15_Bytes.f
  refine Ev.bind (rCheck_is hl) (Ev.pos h0 ?_)
  have row : ∀ i, i < b.length → ∀ k, k < n → ∀ r, Ev (fun q => wayfinderref15_Bytes.l1 q (accB b i (k + 1) 0) (i : Int) ((k + 1 : Nat) : Int) b) r → Ev (fun q => wayfinderref15_Bytes.l2 q (accB b i k 0) (i : Int) (k : Int) ((0 : Nat) : Int) b) r := fun i hi k hk r h => by
    have hp := hb.parts _ (getD_mem (z := []) hi)
    have hw := (hb.word hi hk).1
    refine Ev.forE (l := fun t q => wayfinderref15_Bytes.l2 q (accB b i k t) (i : Int) (k : Int) (t : Int) b) (a := 0) (n := m) (Nat.zero_le m) (fun t _ ht h => ?_) ?_
    · have hacc := accB_len hb hi hk (t := t) (by omega)
      have hst : accB b i k (t + 1) = accB b i k t ++ lowBytes (IntKind.u64.wrap (wrap64 (rd ((b.getD i []).getD k []) (t : Int)))) 4 := by
        have e4 : cnt 4 = 4 := by decide
        have e5 := four_low (rd ((b.getD i []).getD k []) (t : Int))
        rw [e4] at e5
        rw [e5, rd_nat]
        unfold accB
        rw [bytes4_append _ (((b.getD i []).getD k []).take (t + 1)), bytes4_append _ (((b.getD i []).getD k []).take t), b4_succ _ t (by omega), List.append_assoc]
      refine evShift (fun q => by rw [wayfinderref15_Bytes.l2, if_pos (by omega), if_pos (by omega), if_pos (by omega), rd3, if_pos (by omega), rd2, if_pos (by omega), if_pos (by omega), wrap_succ (by omega)]) ?_
      rw [hst] at h
      exact Ev.bind (rPut_is _ _ hacc) h
    · rw [accB_row hb hi hk]
      exact evShift (fun q => by rw [wayfinderref15_Bytes.l2, if_pos (by omega), if_pos (by omega), if_pos (by omega), rd3, if_pos (by omega), rd2, if_neg (by omega), wrap_succ (by omega)]) h
  have part : ∀ i, i < b.length → ∀ r, Ev (fun q => wayfinderref15_Bytes.l0 q (accB b (i + 1) 0 0) ((i + 1 : Nat) : Int) b) r → Ev (fun q => wayfinderref15_Bytes.l1 q (accB b i 0 0) (i : Int) ((0 : Nat) : Int) b) r := fun i hi r h => by
    have hp := hb.parts _ (getD_mem (z := []) hi)
    refine Ev.forE (l := fun k q => wayfinderref15_Bytes.l1 q (accB b i k 0) (i : Int) (k : Int) b) (a := 0) (n := n) (Nat.zero_le n) (fun k _ hk h => ?_) ?_
    · exact evShift (fun q => by rw [wayfinderref15_Bytes.l1, if_pos (by omega), if_pos (by omega), rd3, if_pos (by omega)]; rfl) (row i hi k hk r h)
    · rw [accB_part hb hi]
      exact evShift (fun q => by rw [wayfinderref15_Bytes.l1, if_pos (by omega), if_pos (by omega), rd3, if_neg (by omega), wrap_succ (by omega)]) h
  have h00 : accB b 0 0 0 = [] := by simp [accB, bytes4]
  have hend : accB b b.length 0 0 = bytesB b := by
    unfold accB bytesB
    rw [List.take_of_length_le (Nat.le_refl _)]
    simp
  rw [← h00, ← hend]
  refine Ev.forE (l := fun i q => wayfinderref15_Bytes.l0 q (accB b i 0 0) (i : Int) b) (a := 0) (n := b.length) (Nat.zero_le _) (fun i _ hi h => ?_) ?_
  · exact evShift (fun q => by rw [wayfinderref15_Bytes.l0, if_pos (by omega)]; rfl) (part i hi _ h)
  · exact evShift (fun q => by rw [wayfinderref15_Bytes.l0, if_neg (by omega)]) (Ev.some_ _)
/-- What Bytes answers, the book's and the reference's. -/
theorem bytes_both (hl : LightB b) : ∃ X, book_Bytes.f b = some X ∧ Ev (fun k => wayfinderref15_Bytes.f k b) X := by
  by_cases h0 : bookE b = 0
  · obtain ⟨n, m, hb⟩ := bookE_ok h0
    have n2 := hb.n2
    have mo := hb.most
    have hmP := Nat.le_mul_of_pos_left b.length hb.m1
    have hmm := Nat.le_mul_of_pos_right m hb.p1
    have f1 := hb.flat1
    have f2 := hb.flat2
    have q1 := Nat.mul_le_mul (show b.length ≤ 1024 by omega) n2
    have q2 := Nat.mul_le_mul mo n2
    have q3 : b.length * n * m = m * b.length * n := by rw [Nat.mul_comm m b.length, Nat.mul_assoc, Nat.mul_assoc, Nat.mul_comm n m]
    refine ⟨bytesB b, ?_, rBytes_is hl hb h0⟩
    unfold book_Bytes.f
    rw [if_pos (fun _ => ⟨by omega, by omega⟩), if_pos h0]
  · refine ⟨[], ?_, ?_⟩
    · unfold book_Bytes.f
      rw [if_pos (fun h => absurd h h0), if_neg h0]
    · unfold wayfinderref15_Bytes.f
      exact Ev.bind (rCheck_is hl) (Ev.neg h0 (Ev.some_ _))
end
end Go.Proofs.Yteickelddnhdiaa.Bk

namespace Go.Proofs.Yteickelddnhdiaa.Bk
open Go.RowKit Go.Proofs.YteickelddnhdiaaW.PrintWords Go.Proofs.YteickelddnhdiaaW.PrintLast Go.Proofs.YteickelddnhdiaaW.PrintMore Go.Proofs.Yteickelddnhdiaa.G
set_option linter.unusedVariables false
theorem rOf_is {L : List Int} (h4 : L.length = 4) (hb : ∀ t ∈ L, isByte t) : Ev (fun k => wayfinderref01_Of.f k L) (ofTo L 4) := by
  unfold wayfinderref01_Of.f
  have hby : ∀ j, j < 4 → isByte (L.getD j 0) := fun j hj => hb _ (getD_mem (by omega))
  refine Ev.forE (l := fun i k => wayfinderref01_Of.l0 k L (ofTo L i) (i : Int)) (a := 0) (n := 4) (Nat.zero_le 4) (fun i _ hi h => ?_) ?_
  · have hs : IntKind.u64.wrap (wrap64 (8 * (i : Int))) = ((8 * i : Nat) : Int) := by rw [IntKind.wrap_u64]; unfold wrap64; omega
    obtain ⟨b1, b2⟩ := hby i hi
    obtain ⟨c1, c2⟩ := ofTo_bound L i (fun j hj => hby j (by omega))
    obtain ⟨d1, d2⟩ := ofTo_bound L (i + 1) (fun j hj => hby j (by omega))
    have hp : (2 : Int) ^ (8 * (i + 1)) ≤ 2 ^ 32 := by
      match i, hi with
      | 0, _ => decide
      | 1, _ => decide
      | 2, _ => decide
      | 3, _ => decide
    have hp2 : (2 : Int) ^ 32 = 4294967296 := by decide
    have hn : 0 ≤ L.getD i 0 * 2 ^ (8 * i) := Int.mul_nonneg b1 (Int.le_of_lt (Int.pow_pos (by decide)))
    have e : ofTo L (i + 1) = ofTo L i + L.getD i 0 * 2 ^ (8 * i) := rfl
    have hsh : shl .u64 (IntKind.u64.wrap (rd L (i : Int))) ((8 * i : Nat) : Int) = L.getD i 0 * 2 ^ (8 * i) := by
      unfold shl
      have w1 : IntKind.u64.wrap (L.getD i 0) = L.getD i 0 := wrapu_in (by omega) (by omega)
      rw [Int.toNat_natCast, Nat.min_eq_left (by show 8 * i ≤ 64; omega), rd_nat, w1, wrapu_in hn (by omega)]
    have hw : IntKind.u64.wrap (ofTo L i + L.getD i 0 * 2 ^ (8 * i)) = ofTo L (i + 1) := by rw [← e, wrapu_in d1 (by omega)]
    have HS := Aside0.mk hs
    have HH := Aside0.mk hsh
    have HW := Aside0.mk hw
    clear hs hsh hw e hn hp hp2 c1 c2 d1 d2
    exact evShift (fun k => by rw [wayfinderref01_Of.l0, if_pos (by omega), if_pos (by omega), if_pos (by omega), HS.out, if_pos (by omega), HH.out, HW.out, wrap_succ (by omega)]) h
  · exact evShift (fun k => by rw [wayfinderref01_Of.l0, if_neg (by omega)]) (Ev.some_ _)
theorem rSigned_is (q : Int) (h0 : 0 ≤ q) (h1 : q < 4294967296) : wayfinderref01_Signed.f q 4 = some (signedV q 4) := by
  have s1 : IntKind.u64.wrap (wrap64 (8 * 4)) = 32 := by rw [IntKind.wrap_u64]; unfold wrap64; omega
  have s2 : IntKind.u64.wrap (wrap64 (wrap64 (8 * 4) - 1)) = 31 := by rw [IntKind.wrap_u64]; unfold wrap64; omega
  have s3 : shl .u64 1 32 = 4294967296 := by unfold shl; rw [IntKind.wrap_u64]; rfl
  have s4 : shl .u64 1 31 = 2147483648 := by unfold shl; rw [IntKind.wrap_u64]; rfl
  have ht : Int.tmod q 4294967296 = q := by rw [Int.tmod_eq_emod_of_nonneg h0]; exact Int.emod_eq_of_lt h0 h1
  have e2 : (8 * (8 - min (4 : Int) 8)).toNat = 32 := by decide
  have e3 : (2 : Int) ^ 32 = 4294967296 := by decide
  have hv : signedV q 4 = if q ≥ 2147483648 then q - 4294967296 else q := by
    unfold signedV
    rw [if_neg (by decide), e2, e3, IntKind.wrap_u64]
    unfold wrap64
    split <;> omega
  rw [hv]
  unfold wayfinderref01_Signed.f
  rw [if_neg (by decide), if_neg (by decide), s1, s2, s3, s4, if_pos (by decide), if_neg (by decide), if_pos (by decide), ht]
  by_cases hq : q ≥ 2147483648
  · rw [if_pos hq, if_pos hq, wrap_in (x := q) (by omega) (by omega), wrap_in (x := 4294967296) (by decide) (by decide), wrap_in (by omega) (by omega)]
  · rw [if_neg hq, if_neg hq, wrap_in (by omega) (by omega)]
theorem rWidth_is (dim parts : Int) (h : -9223372036854775808 ≤ dim ∧ dim ≤ 9223372036854775807) : wayfinderref14_Width.f dim parts = some (if partE dim parts = 0 then dim / parts else 0) := by
  unfold wayfinderref14_Width.f wayfinderref14_Check.f
  by_cases c1 : dim < 1
  · rw [if_pos c1, Option.bind_some, if_neg (by decide), if_neg (by unfold partE; rw [if_pos (.inl c1)]; decide)]
  by_cases c2 : dim > 1024
  · rw [if_neg c1, if_pos c2, Option.bind_some, if_neg (by decide), if_neg (by unfold partE; rw [if_pos (.inr (.inl c2))]; decide)]
  by_cases c3 : parts < 1
  · rw [if_neg c1, if_neg c2, if_pos c3, Option.bind_some, if_neg (by decide), if_neg (by unfold partE; rw [if_pos (.inr (.inr (.inl c3)))]; decide)]
  have ht : Int.tmod dim parts = dim % parts := Int.tmod_eq_emod_of_nonneg (by omega)
  rw [if_neg c1, if_neg c2, if_neg c3, if_neg (by omega), ht]
  by_cases c4 : dim % parts = 0
  · have hq : Int.tdiv dim parts = dim / parts := Int.tdiv_eq_ediv_of_nonneg (by omega)
    have hb1 := Int.ediv_nonneg (show 0 ≤ dim by omega) (show 0 ≤ parts by omega)
    have hb2 : dim / parts ≤ dim := Int.ediv_le_self _ (by omega)
    rw [if_pos c4, Option.bind_some, if_pos rfl, if_neg (by omega), hq, wrap_in (by omega) (by omega)]
    have : ¬ (dim < 1 ∨ dim > 1024 ∨ parts < 1 ∨ dim % parts ≠ 0) := by omega
    rw [if_pos (by unfold partE; rw [if_neg this])]
  · rw [if_neg c4, Option.bind_some, if_neg (by decide), if_neg (by unfold partE; rw [if_pos (.inr (.inr (.inr c4)))]; decide)]
theorem readB_Light (x : List Int) (P n m : Nat) (hP : P ≤ 1000000) (hn : n ≤ 1000000) (hm : m ≤ 1000000) : LightB (readB x P n m) := by
  obtain ⟨h1, h2, h3⟩ := shape_readB x P n m
  exact ⟨by omega, fun l hl => by have := h2 l hl; omega, fun l hl v hv => by have := h3 l hl v hv; omega⟩
theorem rRead_loops {x : List Int} {P n m : Nat} (hx : x.length = 4 * (P * n * m)) (hP : P ≤ 1024) (hn : n ≤ 256) (hm : m ≤ 1024) (hxl : x.length ≤ 100000) (hby : ∀ t ∈ x, isByte t) :
    Ev (fun q => wayfinderref15_Read.l0 q x (P : Int) (n : Int) (m : Int) 0 0 ([] : List (List (List Int)))) (if bookE (readB x P n m) = 0 then (readB x P n m, 0) else ([], 4)) := by
  obtain ⟨R, hR⟩ : ∃ R, (if bookE (readB x P n m) = 0 then (readB x P n m, (0 : Int)) else ([], 4)) = R := ⟨_, rfl⟩
  rw [hR]
  have row : ∀ i, i < P → ∀ k, k < n → ∀ (rows : List (List Int)) (parts : List (List (List Int))), rows.length ≤ 1000000 → Ev (fun q => wayfinderref15_Read.l1 q x (P : Int) (n : Int) (m : Int) ((4 * posR n m i (k + 1) 0 : Nat) : Int) (i : Int) (rows ++ [rowR x n m i k]) ((k + 1 : Nat) : Int) parts) R →
      Ev (fun q => wayfinderref15_Read.l2 q x (P : Int) (n : Int) (m : Int) ((4 * posR n m i k 0 : Nat) : Int) (i : Int) rows (k : Int) ([] : List Int) ((0 : Nat) : Int) parts) R := fun i hi k hk rows parts hrows h => by
    have h00 : ([] : List Int) = (List.range 0).map (numR x n m i k) := rfl
    rw [h00]
    refine Ev.forE (l := fun j q => wayfinderref15_Read.l2 q x (P : Int) (n : Int) (m : Int) ((4 * posR n m i k j : Nat) : Int) (i : Int) rows (k : Int) ((List.range j).map (numR x n m i k)) (j : Int) parts) (a := 0) (n := m) (Nat.zero_le m) (fun j _ hj h => ?_) ?_
    · have hlt := posR_lt hi hk hj
      have hps := posR_succ n m i k j
      have e1 : wrap64 (((4 * posR n m i k j : Nat) : Int) + 4) = ((4 * posR n m i k (j + 1) : Nat) : Int) := by rw [hps]; unfold wrap64; omega
      obtain ⟨L, hL⟩ : ∃ L, (x.drop (4 * posR n m i k j)).take 4 = L := ⟨_, rfl⟩
      have hcut : (x.take ((4 * posR n m i k (j + 1) : Nat) : Int).toNat).drop ((4 * posR n m i k j : Nat) : Int).toNat = L := by
        rw [Int.toNat_natCast, Int.toNat_natCast, List.drop_take, ← hL, hps]
        congr 1
        omega
      have hL4 : L.length = 4 := by rw [← hL, List.length_take, List.length_drop]; omega
      have hLb : ∀ t ∈ L, isByte t := fun t ht => by rw [← hL] at ht; exact hby t (List.mem_of_mem_drop (List.mem_of_mem_take ht))
      obtain ⟨o1, o2⟩ := ofTo_bound L 4 (fun j hj => hLb _ (getD_mem (by omega)))
      have o3 : ofTo L 4 < 4294967296 := o2
      have hsg := rSigned_is (ofTo L 4) o1 o3
      have hnum : wrap32 (signedV (ofTo L 4) 4) = numR x n m i k j := by rw [← hL]; rfl
      have hsu : (List.range (j + 1)).map (numR x n m i k) = (List.range j).map (numR x n m i k) ++ [wrap32 (signedV (ofTo L 4) 4)] := by rw [hnum]; simp [List.range_succ]
      have HE1 := Aside0.mk e1
      clear e1 o1 o2 o3 hnum
      refine evShift (fun q => by rw [wayfinderref15_Read.l2, if_pos (by omega), if_pos (by omega), HE1.out, if_pos (by omega), if_pos (by omega), hcut, wrap_succ (by omega)]) ?_
      refine Ev.bind (rOf_is hL4 hLb) (Ev.bindc hsg (Ev.pos (by rw [List.length_map, List.length_range]; omega) ?_))
      rw [hsu] at h
      exact h
    · rw [← posR_row] at h
      exact evShift (fun q => by rw [wayfinderref15_Read.l2, if_neg (by omega), if_pos (by omega), wrap_succ (by omega)]; rfl) h
  have part : ∀ i, i < P → ∀ (parts : List (List (List Int))), parts.length ≤ 1000000 → Ev (fun q => wayfinderref15_Read.l0 q x (P : Int) (n : Int) (m : Int) ((4 * posR n m (i + 1) 0 0 : Nat) : Int) ((i + 1 : Nat) : Int) (parts ++ [partR x n m i])) R →
      Ev (fun q => wayfinderref15_Read.l1 q x (P : Int) (n : Int) (m : Int) ((4 * posR n m i 0 0 : Nat) : Int) (i : Int) ([] : List (List Int)) ((0 : Nat) : Int) parts) R := fun i hi parts hparts h => by
    have h00 : ([] : List (List Int)) = (List.range 0).map (rowR x n m i) := rfl
    rw [h00]
    refine Ev.forE (l := fun k q => wayfinderref15_Read.l1 q x (P : Int) (n : Int) (m : Int) ((4 * posR n m i k 0 : Nat) : Int) (i : Int) ((List.range k).map (rowR x n m i)) (k : Int) parts) (a := 0) (n := n) (Nat.zero_le n) (fun k _ hk h => ?_) ?_
    · refine evShift (g := fun q => wayfinderref15_Read.l2 q x (P : Int) (n : Int) (m : Int) ((4 * posR n m i k 0 : Nat) : Int) (i : Int) ((List.range k).map (rowR x n m i)) (k : Int) ([] : List Int) ((0 : Nat) : Int) parts) (fun q => by rw [wayfinderref15_Read.l1, if_pos (by omega)]; rfl) (row i hi k hk _ parts (by rw [List.length_map, List.length_range]; omega) ?_)
      rw [List.range_succ, List.map_append] at h
      exact h
    · rw [← posR_part] at h
      exact evShift (fun q => by rw [wayfinderref15_Read.l1, if_neg (by omega), if_pos (by omega), wrap_succ (by omega)]; rfl) h
  have p0 : ((4 * posR n m 0 0 0 : Nat) : Int) = 0 := by unfold posR; simp
  have h00 : ([] : List (List (List Int))) = (List.range 0).map (partR x n m) := rfl
  have main : Ev (fun q => wayfinderref15_Read.l0 q x (P : Int) (n : Int) (m : Int) ((4 * posR n m 0 0 0 : Nat) : Int) ((0 : Nat) : Int) ((List.range 0).map (partR x n m))) R := by
    refine Ev.forE (l := fun i q => wayfinderref15_Read.l0 q x (P : Int) (n : Int) (m : Int) ((4 * posR n m i 0 0 : Nat) : Int) (i : Int) ((List.range i).map (partR x n m))) (a := 0) (n := P) (Nat.zero_le P) (fun i _ hi h => ?_) ?_
    · refine evShift (g := fun q => wayfinderref15_Read.l1 q x (P : Int) (n : Int) (m : Int) ((4 * posR n m i 0 0 : Nat) : Int) (i : Int) ([] : List (List Int)) ((0 : Nat) : Int) ((List.range i).map (partR x n m))) (fun q => by rw [wayfinderref15_Read.l0, if_pos (by omega)]; rfl) (part i hi _ (by rw [List.length_map, List.length_range]; omega) ?_)
      rw [List.range_succ, List.map_append] at h
      exact h
    · have hB : (List.range P).map (partR x n m) = readB x P n m := rfl
      rw [hB]
      refine evShift (fun q => by rw [wayfinderref15_Read.l0, if_neg (by omega)]) (Ev.bind (rCheck_is (readB_Light x P n m (by omega) (by omega) (by omega))) ?_)
      by_cases h0 : bookE (readB x P n m) = 0
      · rw [if_pos h0] at hR
        rw [← hR]
        exact Ev.pos h0 (Ev.some_ _)
      · rw [if_neg h0] at hR
        rw [← hR]
        exact Ev.neg h0 (Ev.some_ _)
  rw [p0] at main
  exact main
/-- What Read answers, the book's and the reference's. -/
theorem rRead_is {x : List Int} (hxl : x.length ≤ 100000) (hby : ∀ t ∈ x, isByte t) (dim parts words : Int) (hd : -9223372036854775808 ≤ dim ∧ dim ≤ 9223372036854775807) :
    Ev (fun k => wayfinderref15_Read.f k x dim parts words) (readF x dim parts words) := by
  unfold wayfinderref15_Read.f readF
  refine Ev.bindc (rWidth_is dim parts hd) ?_
  have two : ∀ k (x2 x3 x10 : Int), wayfinderref15_Read.j0 (k + 1) x dim x2 x3 x10 true = some (([] : List (List (List Int))), 2) := fun k x2 x3 x10 => by rw [wayfinderref15_Read.j0, if_pos rfl]
  by_cases c0 : partE dim parts = 0
  · rw [if_pos c0]
    have hdm : 1 ≤ dim ∧ dim ≤ 1024 ∧ 1 ≤ parts ∧ dim % parts = 0 := by unfold partE at c0; split at c0 <;> omega
    obtain ⟨d1, d2, d3, d4⟩ := hdm
    obtain ⟨D, rfl⟩ : ∃ D : Nat, dim = D := ⟨dim.toNat, by omega⟩
    obtain ⟨P, rfl⟩ : ∃ P : Nat, parts = P := ⟨parts.toNat, by omega⟩
    have hdv : D % P = 0 := by have : ((D : Int) % (P : Int)) = ((D % P : Nat) : Int) := rfl; omega
    have hD : D / P * P = D := Nat.div_mul_cancel (Nat.dvd_of_mod_eq_zero hdv)
    have hm1 : 1 ≤ D / P := by
      rcases Nat.eq_zero_or_pos (D / P) with h | h
      · rw [h] at hD; omega
      · exact h
    have hq : (D : Int) / (P : Int) = ((D / P : Nat) : Int) := rfl
    have hmle : D / P ≤ D := Nat.div_le_self D P
    have hPle : P ≤ D := by have := Nat.le_mul_of_pos_left P hm1; omega
    rw [hq]
    refine Ev.neg (by omega) ?_
    by_cases c1 : words < 1
    · rw [if_pos (.inr (.inl c1))]
      exact Ev.pos c1 (evShift (fun k => two k _ _ _) (Ev.some_ _))
    refine Ev.neg c1 ?_
    by_cases c2 : words > 256
    · rw [if_pos (.inr (.inr c2)), decide_eq_true c2]
      exact evShift (fun k => two k _ _ _) (Ev.some_ _)
    rw [if_neg (by omega), decide_eq_false c2]
    obtain ⟨n, rfl⟩ : ∃ n : Nat, words = n := ⟨words.toNat, by omega⟩
    have hm4 := Nat.mul_le_mul (show 4 * D ≤ 4096 by omega) (show n ≤ 256 by omega)
    have e1 : wrap64 (wrap64 (4 * (D : Int)) * (n : Int)) = ((4 * D * n : Nat) : Int) := by
      rw [wrap_in (x := 4 * (D : Int)) (by omega) (by omega), show (4 : Int) * (D : Int) * (n : Int) = ((4 * D * n : Nat) : Int) by simp, wrap_nat (by omega)]
    have e2 : (4 : Int) * (D : Int) * (n : Int) = ((4 * D * n : Nat) : Int) := by simp
    rw [e2]
    by_cases c3 : (x.length : Int) = ((4 * D * n : Nat) : Int)
    · rw [if_neg (by omega)]
      have hx : x.length = 4 * (P * n * (D / P)) := by
        have h1 : P * n * (D / P) = D * n := by rw [Nat.mul_right_comm, Nat.mul_comm P (D / P), hD]
        rw [h1, ← Nat.mul_assoc]
        omega
      refine evShift (fun k => by rw [wayfinderref15_Read.j0, if_neg (by decide), e1, if_pos c3]) ?_
      exact rRead_loops hx (by omega) (by omega) (by omega) hxl hby
    · rw [if_pos c3]
      exact evShift (fun k => by rw [wayfinderref15_Read.j0, if_neg (by decide), e1, if_neg c3]) (Ev.some_ _)
  · rw [if_neg c0, if_pos (.inl c0)]
    exact Ev.pos rfl (evShift (fun k => two k _ _ _) (Ev.some_ _))
end Go.Proofs.Yteickelddnhdiaa.Bk

namespace Go.Proofs.Yteickelddnhdiaa.Bk
open Go.RowKit Go.Proofs.YteickelddnhdiaaW.PrintWords Go.Proofs.YteickelddnhdiaaW.PrintLast Go.Proofs.YteickelddnhdiaaW.PrintMore Go.Proofs.Yteickelddnhdiaa.G
set_option linter.unusedVariables false
theorem Ev.uniq {α : Type} {f : Nat → Option α} {r s : α} (h : Ev f r) (g : Ev f s) : r = s := by
  obtain ⟨K, h⟩ := h
  obtain ⟨M, g⟩ := g
  have h1 := h (max K M) (Nat.le_max_left _ _)
  rw [g (max K M) (Nat.le_max_right _ _)] at h1
  exact (Option.some.inj h1).symm
def goodRow (l : List (List Int)) : Prop := l.length ≤ 260 ∧ ∀ j, j < l.length → (l.getD j []).length ≤ 60
theorem lrow_true {l : List (List Int)} (h : goodRow l) : Ev (fun k => wayfinderkit_Light_int32.f k l 260 60) true := by
  have h1 := h.1
  unfold wayfinderkit_Light_int32.f
  refine Ev.neg (by omega) ?_
  refine loop_ok (l := fun j k => wayfinderkit_Light_int32.l0 k l 60 (j : Int)) (bad := fun j => ¬ (l.getD j []).length ≤ 60) (n := l.length) (fun j hj hb h => ?_) (fun j hj hb => hb (h.2 j hj)) ?_
  · exact evShift (fun k => by rw [wayfinderkit_Light_int32.l0, if_pos (by omega), if_pos (by omega), rd2, if_neg (by omega), wrap_succ (by omega)]) h
  · exact evShift (fun k => by rw [wayfinderkit_Light_int32.l0, if_neg (by omega)]) (Ev.some_ _)
theorem lrow_false {l : List (List Int)} (h : ¬ goodRow l) : Ev (fun k => wayfinderkit_Light_int32.f k l 260 60) false := by
  unfold wayfinderkit_Light_int32.f
  by_cases h1 : (l.length : Int) > 260
  · exact Ev.pos h1 (Ev.some_ _)
  refine Ev.neg h1 ?_
  have hex : ∃ j, j < l.length ∧ ¬ (l.getD j []).length ≤ 60 := Classical.byContradiction fun hn => h ⟨by omega, fun j hj => Classical.byContradiction fun hb => hn ⟨j, hj, hb⟩⟩
  refine loop_bad (l := fun j k => wayfinderkit_Light_int32.l0 k l 60 (j : Int)) (bad := fun j => ¬ (l.getD j []).length ≤ 60) (n := l.length) (fun j hj hb h => ?_) hex (fun j hj hb => ?_)
  · exact evShift (fun k => by rw [wayfinderkit_Light_int32.l0, if_pos (by omega), if_pos (by omega), rd2, if_neg (by omega), wrap_succ (by omega)]) h
  · exact evShift (fun k => by rw [wayfinderkit_Light_int32.l0, if_pos (by omega), if_pos (by omega), rd2, if_pos (by omega)]) (Ev.some_ _)
theorem light_false {b : List (List (List Int))} (h : ¬ (b.length ≤ 30 ∧ ∀ i, i < b.length → goodRow (b.getD i []))) : Ev (fun k => wayfinderlaw15_light.f k b) false := by
  unfold wayfinderlaw15_light.f
  refine Ev.bind (a := false) ?_ (Ev.some_ _)
  unfold wayfinderkit_LightBook.f
  by_cases h1 : (b.length : Int) > 30
  · exact Ev.pos h1 (Ev.some_ _)
  refine Ev.neg h1 ?_
  have hex : ∃ i, i < b.length ∧ ¬ goodRow (b.getD i []) := Classical.byContradiction fun hn => h ⟨by omega, fun j hj => Classical.byContradiction fun hb => hn ⟨j, hj, hb⟩⟩
  refine loop_bad (l := fun i k => wayfinderkit_LightBook.l0 k 260 60 (i : Int) b) (bad := fun i => ¬ goodRow (b.getD i [])) (n := b.length) (fun i hi hb h => ?_) hex (fun i hi hb => ?_)
  · refine evShift (fun k => by rw [wayfinderkit_LightBook.l0, if_pos (by omega), if_pos (by omega), rd3, wrap_succ (by omega)]) ?_
    exact Ev.bind (lrow_true (Classical.byContradiction hb)) (Ev.pos rfl h)
  · refine evShift (fun k => by rw [wayfinderkit_LightBook.l0, if_pos (by omega), if_pos (by omega), rd3, wrap_succ (by omega)]) ?_
    exact Ev.bind (lrow_false hb) (Ev.neg (by decide) (Ev.some_ _))
/-- What light lets in. -/
theorem light_in {b : List (List (List Int))} (h : Ev (fun k => wayfinderlaw15_light.f k b) true) : LightB b ∧ b.length ≤ 30 ∧ (∀ l ∈ b, l.length ≤ 260) ∧ ∀ l ∈ b, ∀ v ∈ l, v.length ≤ 60 := by
  have hg : b.length ≤ 30 ∧ ∀ i, i < b.length → goodRow (b.getD i []) := Classical.byContradiction fun hn => by have := Ev.uniq h (light_false hn); cases this
  have hl : ∀ l ∈ b, goodRow l := fun l hl => by
    obtain ⟨i, hi, rfl⟩ := List.getElem_of_mem hl
    have := hg.2 i hi
    rw [List.getD_eq_getElem?_getD, List.getElem?_eq_getElem hi] at this
    exact this
  have h2 : ∀ l ∈ b, ∀ v ∈ l, v.length ≤ 60 := fun l hl' v hv => by
    obtain ⟨j, hj, rfl⟩ := List.getElem_of_mem hv
    have := (hl l hl').2 j hj
    rw [List.getD_eq_getElem?_getD, List.getElem?_eq_getElem hj] at this
    exact this
  exact ⟨light_LightB hg.1 (fun l h => (hl l h).1) h2, hg.1, fun l h => (hl l h).1, h2⟩
theorem same_byte (a : List Int) (ha : a.length ≤ 140737488351232) : Ev (fun k => wayfinderkit_Same_byte.f k a a) true := by
  unfold wayfinderkit_Same_byte.f
  refine Ev.pos rfl ?_
  exact Ev.for_ (l := fun i k => wayfinderkit_Same_byte.l0 k a a (i : Int)) (g := fun _ => some true) (Nat.zero_le a.length) (fun i _ hi k => by
      simp only [wayfinderkit_Same_byte.l0]
      rw [if_pos (by omega), if_pos (by omega), if_pos (by omega), if_pos trivial, wrap_succ (by omega)])
    (fun k => by simp only [wayfinderkit_Same_byte.l0]; rw [if_neg (by omega)]) (Ev.some_ _)
theorem same_int (a : List Int) (ha : a.length ≤ 140737488351232) : Ev (fun k => wayfinderkit_Same_int32.f k a a) true := by
  unfold wayfinderkit_Same_int32.f
  refine Ev.pos rfl ?_
  exact Ev.for_ (l := fun i k => wayfinderkit_Same_int32.l0 k a a (i : Int)) (g := fun _ => some true) (Nat.zero_le a.length) (fun i _ hi k => by
      simp only [wayfinderkit_Same_int32.l0]
      rw [if_pos (by omega), if_pos (by omega), if_pos (by omega), if_pos trivial, wrap_succ (by omega)])
    (fun k => by simp only [wayfinderkit_Same_int32.l0]; rw [if_neg (by omega)]) (Ev.some_ _)
theorem lists_same (l : List (List Int)) (hl : l.length ≤ 1000000) (ha : ∀ v ∈ l, v.length ≤ 1000000) : Ev (fun k => wayfinderkit_Lists_int32.f k l l) true := by
  unfold wayfinderkit_Lists_int32.f
  refine Ev.pos rfl ?_
  refine Ev.forE (l := fun i k => wayfinderkit_Lists_int32.l0 k l l (i : Int)) (Nat.zero_le l.length) (fun i _ hi h => ?_) ?_
  · refine evShift (fun k => by simp only [wayfinderkit_Lists_int32.l0]; rw [if_pos (by omega), if_pos (by omega), if_pos (by omega), wrap_succ (by omega)]) ?_
    exact Ev.bind (same_int (rd_L2 l (i : Int)) (by have := ha _ (getD_mem (z := []) hi); show (l.getD i []).length ≤ _; omega)) (Ev.pos rfl h)
  · exact evShift (fun k => by simp only [wayfinderkit_Lists_int32.l0]; rw [if_neg (by omega)]) (Ev.some_ _)
theorem book_same {b : List (List (List Int))} (h : LightB b) : Ev (fun k => wayfinderkit_Book.f k b b) true := by
  have h0 := h.l0
  unfold wayfinderkit_Book.f
  refine Ev.pos rfl ?_
  refine Ev.forE (l := fun i k => wayfinderkit_Book.l0 k (i : Int) b b) (Nat.zero_le b.length) (fun i _ hi h' => ?_) ?_
  · refine evShift (fun k => by simp only [wayfinderkit_Book.l0]; rw [if_pos (by omega), if_pos (by omega), if_pos (by omega), wrap_succ (by omega)]) ?_
    have hm := getD_mem (z := []) hi
    exact Ev.bind (lists_same (rd_L3 b (i : Int)) (h.l1 _ hm) (h.l2 _ hm)) (Ev.pos rfl h')
  · exact evShift (fun k => by simp only [wayfinderkit_Book.l0]; rw [if_neg (by omega)]) (Ev.some_ _)
theorem own_is (l : List Int) (h : l.length ≤ 1000000) : wayfinderkit_Own_int32.f l = some l := by
  unfold wayfinderkit_Own_int32.f
  rw [Option.bind_some, List.nil_append, if_pos (by simp only [List.length_nil]; omega)]
theorem ownLists_is (l : List (List Int)) (hl : l.length ≤ 1000000) (ha : ∀ v ∈ l, v.length ≤ 1000000) : Ev (fun k => wayfinderkit_OwnLists_int32.f k l) l := by
  unfold wayfinderkit_OwnLists_int32.f
  have h0 : ([] : List (List Int)) = l.take 0 := rfl
  rw [h0]
  suffices h : Ev (fun k => wayfinderkit_OwnLists_int32.l0 k l (l.take 0) ((0 : Nat) : Int)) l from h
  refine Ev.forE (l := fun i k => wayfinderkit_OwnLists_int32.l0 k l (l.take i) (i : Int)) (Nat.zero_le l.length) (fun i _ hi h => ?_) ?_
  · refine evShift (fun k => by rw [wayfinderkit_OwnLists_int32.l0, if_pos (by omega), if_pos (by omega), rd2, wrap_succ (by omega)]) ?_
    refine Ev.bindc (own_is _ (ha _ (getD_mem hi))) (Ev.pos (by rw [List.length_take]; omega) ?_)
    have hg : l.getD i [] = l[i] := by rw [List.getD_eq_getElem?_getD, List.getElem?_eq_getElem hi]; rfl
    rw [List.take_succ_eq_append_getElem hi] at h
    rw [hg]
    exact h
  · exact evShift (fun k => by rw [wayfinderkit_OwnLists_int32.l0, if_neg (by omega), List.take_of_length_le (Nat.le_refl _)]) (Ev.some_ _)
theorem ownBook_is {b : List (List (List Int))} (h : LightB b) : Ev (fun k => wayfinderkit_OwnBook.f k b) b := by
  have hl := h.l0
  unfold wayfinderkit_OwnBook.f
  have h0 : ([] : List (List (List Int))) = b.take 0 := rfl
  rw [h0]
  suffices h : Ev (fun k => wayfinderkit_OwnBook.l0 k ((0 : Nat) : Int) b (b.take 0)) b from h
  refine Ev.forE (l := fun i k => wayfinderkit_OwnBook.l0 k (i : Int) b (b.take i)) (Nat.zero_le b.length) (fun i _ hi h' => ?_) ?_
  · refine evShift (fun k => by rw [wayfinderkit_OwnBook.l0, if_pos (by omega), if_pos (by omega), rd3, wrap_succ (by omega)]) ?_
    have hm := getD_mem (z := []) hi
    refine Ev.bind (ownLists_is _ (h.l1 _ hm) (h.l2 _ hm)) (Ev.pos (by rw [List.length_take]; omega) ?_)
    have hg : b.getD i [] = b[i] := by rw [List.getD_eq_getElem?_getD, List.getElem?_eq_getElem hi]; rfl
    rw [List.take_succ_eq_append_getElem hi] at h'
    rw [hg]
    exact h'
  · exact evShift (fun k => by rw [wayfinderkit_OwnBook.l0, if_neg (by omega), List.take_of_length_le (Nat.le_refl _)]) (Ev.some_ _)
set_option maxRecDepth 100000 in
theorem lives_is : wayfinderlaw15_lives.f 60 = some true := by decide +kernel
theorem readF_light {x : List Int} {dim parts words : Int} {S : List (List (List Int))} {e : Int} (hx : x.length ≤ 100000) (h : readF x dim parts words = (S, e)) : LightB S := by
  unfold readF at h
  split at h
  · cases h; exact ⟨by simp, by simp, by simp⟩
  · next h1 =>
    split at h
    · cases h; exact ⟨by simp, by simp, by simp⟩
    · split at h
      · cases h
        have h0 : partE dim parts = 0 := by omega
        have hdm : 1 ≤ dim ∧ dim ≤ 1024 ∧ 1 ≤ parts ∧ dim % parts = 0 := by unfold partE at h0; split at h0 <;> omega
        obtain ⟨d1, d2, d3, d4⟩ := hdm
        have hb2 : dim / parts ≤ dim := Int.ediv_le_self _ (by omega)
        have hpl : parts ≤ dim := by
          have := Int.le_of_dvd (by omega) (Int.dvd_of_emod_eq_zero d4)
          exact this
        exact readB_Light _ _ _ _ (by omega) (by omega) (by omega)
      · cases h; exact ⟨by simp, by simp, by simp⟩
theorem bytes_len {b : List (List (List Int))} {X : List Int} (h : book_Bytes.f b = some X) : X.length ≤ 140737488351232 := by
  unfold book_Bytes.f at h
  split at h
  · next hc =>
    by_cases h0 : bookE b = 0
    · rw [if_pos h0] at h
      cases h
      unfold bytesB
      rw [b4_len]
      have := (hc h0).2
      omega
    · rw [if_neg h0] at h
      cases h
      simp
  · cases h
theorem word_len {b : List (List (List Int))} (hl : LightB b) (h0 : bookE b = 0) {p q : Int} {X : List Int} {e : Int} (h : book_Word.f b p q = some (X, e)) : X.length ≤ 1024 := by
  unfold book_Word.f at h
  rw [show book_Check.f b = some 0 by show some (bookE b) = _; rw [h0], Option.bind_some, if_pos rfl] at h
  repeat' split at h
  all_goals first | (cases h; done) | (cases h; simp; done) | skip
  unfold slices_Clone_int32_int32.f at h
  split at h
  · next hc =>
    rw [Option.bind_some] at h
    cases h
    exact hc
  · cases h
end Go.Proofs.Yteickelddnhdiaa.Bk
