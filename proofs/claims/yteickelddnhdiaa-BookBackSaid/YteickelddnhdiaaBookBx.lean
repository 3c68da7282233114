/- Statement BookBack: the walk, every way. -/
import Derived.Test.YteickelddnhdiaaBookQs
import Derived.Test.YteickelddnhdiaaBookBy
import Derived.Test.YteickelddnhdiaaBookRd
import Derived.Test.YteickelddnhdiaaBookSm
import Derived.Test.YteickelddnhdiaaBookL
import Derived.Test.YteickelddnhdiaaBookS
import Derived.BigQuiet
import Derived.Deep.RegionHeld3
namespace Go.Proofs.Yteickelddnhdiaa.Bk
open Go.RowKit Go.Proofs.YteickelddnhdiaaW.PrintWords Go.Proofs.YteickelddnhdiaaW.PrintLast Go.Proofs.Yteickelddnhdiaa.G
set_option linter.unusedVariables false
theorem four_num {L : List Int} (h4 : 4 ≤ L.length) (hb : ∀ t ∈ L, isByte t) : fourB (wrap32 (num4 L)) = L.take 4 := by
  match L, h4 with
  | a :: b :: c :: d :: r, _ =>
    obtain ⟨a1, a2⟩ := hb a (by simp)
    obtain ⟨b1, b2⟩ := hb b (by simp)
    obtain ⟨c1, c2⟩ := hb c (by simp)
    obtain ⟨d1, d2⟩ := hb d (by simp)
    have e1 : ofTo ([a, b, c, d] : List Int) 4 = a + b * 256 + c * 65536 + d * 16777216 := by simp [ofTo]
    have e2 : (8 * (8 - min (4 : Int) 8)).toNat = 32 := by decide
    have e3 : (2 : Int) ^ 32 = 4294967296 := by decide
    show fourB (wrap32 (signedV (ofTo ([a, b, c, d] : List Int) 4) 4)) = [a, b, c, d]
    rw [e1]
    unfold signedV
    rw [if_neg (by decide), e2, e3, IntKind.wrap_u64]
    unfold wrap64 wrap32 fourB
    simp only [List.cons.injEq, and_true]
    refine ⟨?_, ?_, ?_, ?_⟩ <;> omega
theorem four_inj {a b : Int} (ha : -2147483648 ≤ a ∧ a ≤ 2147483647) (hb : -2147483648 ≤ b ∧ b ≤ 2147483647) (h : fourB a = fourB b) : a = b := by
  unfold fourB at h
  simp only [List.cons.injEq, and_true] at h
  omega
theorem bytes4_inj : ∀ (l l' : List Int), (∀ x ∈ l, -2147483648 ≤ x ∧ x ≤ 2147483647) → (∀ x ∈ l', -2147483648 ≤ x ∧ x ≤ 2147483647) → bytes4 l = bytes4 l' → l = l'
  | [], [], _, _, _ => rfl
  | [], y :: l', _, _, h => by have := congrArg List.length h; rw [b4_len, b4_len] at this; simp at this
  | x :: l, [], _, _, h => by have := congrArg List.length h; rw [b4_len, b4_len] at this; simp at this
  | x :: l, y :: l', h1, h2, h => by
    have h' : fourB x ++ bytes4 l = fourB y ++ bytes4 l' := h
    obtain ⟨e1, e2⟩ := List.append_inj h' rfl
    rw [four_inj (h1 x (by simp)) (h2 y (by simp)) e1, bytes4_inj l l' (fun z hz => h1 z (by simp [hz])) (fun z hz => h2 z (by simp [hz])) e2]
theorem bytes4_byte (l : List Int) : ∀ t ∈ bytes4 l, isByte t := by
  intro t ht
  unfold bytes4 at ht
  rw [List.mem_flatMap] at ht
  obtain ⟨x, _, hx⟩ := ht
  unfold fourB at hx
  unfold isByte
  simp only [List.mem_cons, List.mem_nil_iff, or_false] at hx
  omega
/-- Rows of one length, put behind each other. -/
theorem flat_rows {α : Type} (g : Nat → α) (m : Nat) : ∀ a, ((List.range a).map (fun k => (List.range m).map (fun j => g (k * m + j)))).flatten = (List.range (a * m)).map g
  | 0 => by simp
  | a + 1 => by
    rw [List.range_succ, List.map_append, List.flatten_append, flat_rows g m a, Nat.add_mul, Nat.one_mul, List.range_add, List.map_append, List.map_map]
    simp
theorem readB_flat (X : List Int) (P n m : Nat) : (readB X P n m).flatten.flatten = (List.range (P * n * m)).map (fun p => wrap32 (num4 (X.drop (4 * p)))) := by
  have h1 : (readB X P n m).flatten = (List.range (P * n)).map (fun q => (List.range m).map (fun j => wrap32 (num4 (X.drop (4 * (q * m + j)))))) :=
    flat_rows (fun q => (List.range m).map (fun j => wrap32 (num4 (X.drop (4 * (q * m + j)))))) n P
  rw [h1]
  exact flat_rows (fun p => wrap32 (num4 (X.drop (4 * p)))) m (P * n)
theorem nums_bytes (X : List Int) (hb : ∀ t ∈ X, isByte t) : ∀ q, 4 * q ≤ X.length → bytes4 ((List.range q).map (fun p => wrap32 (num4 (X.drop (4 * p))))) = X.take (4 * q)
  | 0, _ => by simp [bytes4]
  | q + 1, h => by
    have e : bytes4 ((List.range (q + 1)).map (fun p => wrap32 (num4 (X.drop (4 * p))))) = bytes4 ((List.range q).map (fun p => wrap32 (num4 (X.drop (4 * p))))) ++ fourB (wrap32 (num4 (X.drop (4 * q)))) := by
      simp [bytes4, List.range_succ]
    rw [e, nums_bytes X hb q (by omega), four_num (by rw [List.length_drop]; omega) (fun t ht => hb t (List.mem_of_mem_drop ht)), Nat.mul_add, List.take_add]
theorem bytes_readB (X : List Int) (P n m : Nat) (hb : ∀ t ∈ X, isByte t) (hl : X.length = 4 * (P * n * m)) : bytesB (readB X P n m) = X := by
  unfold bytesB
  rw [readB_flat, nums_bytes X hb _ (by omega), List.take_of_length_le (by omega)]
theorem flat_inj {α : Type} {m : Nat} : ∀ (L L' : List (List α)), L.length = L'.length → (∀ l ∈ L, l.length = m) → (∀ l ∈ L', l.length = m) → L.flatten = L'.flatten → L = L'
  | [], [], _, _, _, _ => rfl
  | [], y :: L', h, _, _, _ => by simp at h
  | x :: L, [], h, _, _, _ => by simp at h
  | x :: L, y :: L', h, h1, h2, he => by
    rw [List.flatten_cons, List.flatten_cons] at he
    obtain ⟨e1, e2⟩ := List.append_inj he (by rw [h1 x (by simp), h2 y (by simp)])
    rw [e1, flat_inj L L' (by simpa using h) (fun l hl => h1 l (by simp [hl])) (fun l hl => h2 l (by simp [hl])) e2]
section
variable {b : List (List (List Int))} {n m : Nat}
theorem BookOK.flat1 (hb : BookOK b n m) : b.flatten.length = b.length * n := by
  have : ∀ L : List (List (List Int)), (∀ l ∈ L, l.length = n) → L.flatten.length = L.length * n := fun L => by
    induction L with
    | nil => intro _; simp
    | cons l L ih => intro h; rw [List.flatten_cons, List.length_append, ih (fun x hx => h x (by simp [hx])), h l (by simp), List.length_cons, Nat.add_mul, Nat.one_mul, Nat.add_comm]
  exact this b hb.parts
theorem BookOK.flat2 (hb : BookOK b n m) : b.flatten.flatten.length = b.length * n * m := by
  have : ∀ L : List (List Int), (∀ l ∈ L, l.length = m) → L.flatten.length = L.length * m := fun L => by
    induction L with
    | nil => intro _; simp
    | cons l L ih => intro h; rw [List.flatten_cons, List.length_append, ih (fun x hx => h x (by simp [hx])), h l (by simp), List.length_cons, Nat.add_mul, Nat.one_mul, Nat.add_comm]
  rw [this b.flatten (fun v hv => by obtain ⟨l, hl, hv⟩ := List.mem_flatten.1 hv; exact (hb.words l hl v hv).1), hb.flat1]
theorem BookOK.small (hb : BookOK b n m) : ∀ x ∈ b.flatten.flatten, -131072 ≤ x ∧ x ≤ 131072 := by
  intro x hx
  obtain ⟨v, hv, hx⟩ := List.mem_flatten.1 hx
  obtain ⟨l, hl, hv⟩ := List.mem_flatten.1 hv
  exact (wideOk_mem (hb.words l hl v hv).2).2.2 x hx
theorem BookOK.bytes_length (hb : BookOK b n m) : (bytesB b).length = 4 * (b.length * n * m) := by
  unfold bytesB
  rw [b4_len, hb.flat2]
theorem shape_readB (X : List Int) (P n m : Nat) : (readB X P n m).length = P ∧ (∀ l ∈ readB X P n m, l.length = n) ∧ ∀ l ∈ readB X P n m, ∀ v ∈ l, v.length = m := by
  refine ⟨by simp [readB], fun l hl => ?_, fun l hl v hv => ?_⟩
  · obtain ⟨i, _, rfl⟩ := List.mem_map.1 hl
    simp [partR]
  · obtain ⟨i, _, rfl⟩ := List.mem_map.1 hl
    obtain ⟨k, _, rfl⟩ := List.mem_map.1 hv
    simp [rowR]
theorem readB_wrap (X : List Int) (P n m : Nat) : ∀ x ∈ (readB X P n m).flatten.flatten, -2147483648 ≤ x ∧ x ≤ 2147483647 := by
  rw [readB_flat]
  intro x hx
  obtain ⟨p, _, rfl⟩ := List.mem_map.1 hx
  unfold wrap32
  omega
/-- Two books of one shape with the same bytes are the same. -/
theorem bytesB_inj {a b : List (List (List Int))} {P n m : Nat} (ha : a.length = P ∧ (∀ l ∈ a, l.length = n) ∧ ∀ l ∈ a, ∀ v ∈ l, v.length = m) (hb : b.length = P ∧ (∀ l ∈ b, l.length = n) ∧ ∀ l ∈ b, ∀ v ∈ l, v.length = m)
    (wa : ∀ x ∈ a.flatten.flatten, -2147483648 ≤ x ∧ x ≤ 2147483647) (wb : ∀ x ∈ b.flatten.flatten, -2147483648 ≤ x ∧ x ≤ 2147483647) (h : bytesB a = bytesB b) : a = b := by
  have h1 : a.flatten.flatten = b.flatten.flatten := bytes4_inj _ _ wa wb h
  have hla : ∀ L : List (List (List Int)), (∀ l ∈ L, l.length = n) → L.flatten.length = L.length * n := fun L => by
    induction L with
    | nil => intro _; simp
    | cons l L ih => intro h; rw [List.flatten_cons, List.length_append, ih (fun x hx => h x (by simp [hx])), h l (by simp), List.length_cons, Nat.add_mul, Nat.one_mul, Nat.add_comm]
  have h2 : a.flatten = b.flatten := flat_inj (m := m) _ _ (by rw [hla a ha.2.1, hla b hb.2.1, ha.1, hb.1])
    (fun v hv => by obtain ⟨l, hl, hv⟩ := List.mem_flatten.1 hv; exact ha.2.2 l hl v hv) (fun v hv => by obtain ⟨l, hl, hv⟩ := List.mem_flatten.1 hv; exact hb.2.2 l hl v hv) h1
  exact flat_inj (m := n) _ _ (by rw [ha.1, hb.1]) ha.2.1 hb.2.1 h2
theorem BookOK.shape (hb : BookOK b n m) : b.length = b.length ∧ (∀ l ∈ b, l.length = n) ∧ ∀ l ∈ b, ∀ v ∈ l, v.length = m := ⟨rfl, hb.parts, fun l hl v hv => (hb.words l hl v hv).1⟩
theorem readB_bytes (hb : BookOK b n m) : readB (bytesB b) b.length n m = b := by
  refine bytesB_inj (shape_readB _ _ _ _) hb.shape (readB_wrap _ _ _ _) (fun x hx => by have := hb.small x hx; omega) ?_
  exact bytes_readB _ _ _ _ (bytes4_byte _) hb.bytes_length
/-- What Read answers to bytes of the right number. -/
theorem readF_is (hb : BookOK b n m) (X : List Int) (hl : X.length = 4 * (b.length * n * m)) :
    readF X ((m * b.length : Nat) : Int) (b.length : Int) (n : Int) = if bookE (readB X b.length n m) = 0 then (readB X b.length n m, 0) else ([], 4) := by
  have p1 := hb.p1
  have n1 := hb.n1
  have n2 := hb.n2
  have m1 := hb.m1
  have mo := hb.most
  have hmP := Nat.le_mul_of_pos_left b.length m1
  unfold readF
  have hpe : partE ((m * b.length : Nat) : Int) (b.length : Int) = 0 := by
    unfold partE
    have h1 : (((m * b.length : Nat) : Int) % (b.length : Int)) = ((m * b.length % b.length : Nat) : Int) := rfl
    rw [h1, Nat.mul_mod_left, if_neg (by omega)]
  rw [if_neg (by rw [hpe]; omega)]
  have hq : (X.length : Int) = 4 * ((m * b.length : Nat) : Int) * (n : Int) := by
    have : X.length = 4 * (m * b.length) * n := by rw [hl, Nat.mul_assoc 4, Nat.mul_comm m b.length, Nat.mul_assoc b.length m n, Nat.mul_comm m n, Nat.mul_assoc b.length n m]
    rw [this]
    simp
  rw [if_neg (by simpa using hq)]
  have e1 : (((m * b.length : Nat) : Int) / (b.length : Int)).toNat = m * b.length / b.length := rfl
  rw [e1, Nat.mul_div_cancel _ (by omega)]
  rfl
theorem readF_short (hb : BookOK b n m) (X : List Int) (hl : X.length ≠ 4 * (b.length * n * m)) :
    readF X ((m * b.length : Nat) : Int) (b.length : Int) (n : Int) = ([], 4) := by
  have p1 := hb.p1
  have n1 := hb.n1
  have n2 := hb.n2
  have m1 := hb.m1
  have mo := hb.most
  have hmP := Nat.le_mul_of_pos_left b.length m1
  unfold readF
  have hpe : partE ((m * b.length : Nat) : Int) (b.length : Int) = 0 := by
    unfold partE
    have h1 : (((m * b.length : Nat) : Int) % (b.length : Int)) = ((m * b.length % b.length : Nat) : Int) := rfl
    rw [h1, Nat.mul_mod_left, if_neg (by omega)]
  rw [if_neg (by rw [hpe]; omega)]
  have hq : ((4 * (b.length * n * m) : Nat) : Int) = 4 * ((m * b.length : Nat) : Int) * (n : Int) := by
    have : 4 * (b.length * n * m) = 4 * (m * b.length) * n := by rw [Nat.mul_assoc 4, Nat.mul_comm m b.length, Nat.mul_assoc b.length m n, Nat.mul_comm m n, Nat.mul_assoc b.length n m]
    rw [this]
    simp
  rw [← hq, if_pos (by omega)]
end
end Go.Proofs.Yteickelddnhdiaa.Bk

namespace Go.Proofs.Yteickelddnhdiaa.Bk
open Go.RowKit Go.Proofs.YteickelddnhdiaaW.PrintWords Go.Proofs.YteickelddnhdiaaW.PrintLast Go.Proofs.Yteickelddnhdiaa.G
set_option linter.unusedVariables false
theorem Same_byte_self (a : List Int) (ha : a.length ≤ 140737488351232) : Ev (fun k => wayfinderkit_Same_byte.f k a a) true := by
  unfold wayfinderkit_Same_byte.f
  refine Ev.pos rfl ?_
  exact Ev.for_ (l := fun i k => wayfinderkit_Same_byte.l0 k a a (i : Int)) (g := fun _ => some true) (Nat.zero_le a.length) (fun i _ hi k => by
      simp only [wayfinderkit_Same_byte.l0]
      rw [if_pos (by omega), if_pos (by omega), if_pos (by omega), if_pos trivial, wrap_succ (by omega)])
    (fun k => by simp only [wayfinderkit_Same_byte.l0]; rw [if_neg (by omega)]) (Ev.some_ _)
theorem Same_self32 (a : List Int) (ha : a.length ≤ 1024) : Ev (fun k => wayfinderkit_Same_int32.f k a a) true := by
  unfold wayfinderkit_Same_int32.f
  refine Ev.pos rfl ?_
  exact Ev.for_ (l := fun i k => wayfinderkit_Same_int32.l0 k a a (i : Int)) (g := fun _ => some true) (Nat.zero_le a.length) (fun i _ hi k => by
      simp only [wayfinderkit_Same_int32.l0]
      rw [if_pos (by omega), if_pos (by omega), if_pos (by omega), if_pos trivial, wrap_succ (by omega)])
    (fun k => by simp only [wayfinderkit_Same_int32.l0]; rw [if_neg (by omega)]) (Ev.some_ _)
theorem Ev.shift {α : Type} {f g : Nat → Option α} {r : α} (hm : ∀ k, f (k + 1) = g k) (h : Ev g r) : Ev f r := by
  obtain ⟨n, h⟩ := h
  exact ⟨n + 1, fun k hk => by obtain ⟨j, rfl⟩ : ∃ j, k = j + 1 := ⟨k - 1, by omega⟩; rw [hm]; exact h j (by omega)⟩
theorem Lists_self (l : List (List Int)) (hl : l.length ≤ 1024) (ha : ∀ v ∈ l, v.length ≤ 1024) : Ev (fun k => wayfinderkit_Lists_int32.f k l l) true := by
  unfold wayfinderkit_Lists_int32.f
  refine Ev.pos rfl ?_
  refine Ev.forE (l := fun i k => wayfinderkit_Lists_int32.l0 k l l (i : Int)) (Nat.zero_le l.length) (fun i _ hi h => ?_) ?_
  · refine Ev.shift (fun k => by simp only [wayfinderkit_Lists_int32.l0]; rw [if_pos (by omega), if_pos (by omega), if_pos (by omega), wrap_succ (by omega)]) ?_
    exact Ev.bind (Same_self32 (rd_L2 l (i : Int)) (ha _ (getD_mem (z := []) hi))) (Ev.pos rfl h)
  · exact Ev.shift (fun k => by simp only [wayfinderkit_Lists_int32.l0]; rw [if_neg (by omega)]) (Ev.some_ _)
theorem Book_self (b : List (List (List Int))) (hb : b.length ≤ 1024) (hl : ∀ l ∈ b, l.length ≤ 1024) (ha : ∀ l ∈ b, ∀ v ∈ l, v.length ≤ 1024) : Ev (fun k => wayfinderkit_Book.f k b b) true := by
  unfold wayfinderkit_Book.f
  refine Ev.pos rfl ?_
  refine Ev.forE (l := fun i k => wayfinderkit_Book.l0 k (i : Int) b b) (Nat.zero_le b.length) (fun i _ hi h => ?_) ?_
  · refine Ev.shift (fun k => by simp only [wayfinderkit_Book.l0]; rw [if_pos (by omega), if_pos (by omega), if_pos (by omega), wrap_succ (by omega)]) ?_
    have hm := getD_mem (z := []) hi
    exact Ev.bind (Lists_self (rd_L3 b (i : Int)) (hl _ hm) (ha _ hm)) (Ev.pos rfl h)
  · exact Ev.shift (fun k => by simp only [wayfinderkit_Book.l0]; rw [if_neg (by omega)]) (Ev.some_ _)
end Go.Proofs.Yteickelddnhdiaa.Bk
namespace Go.Proofs.Yteickelddnhdiaa.G
open Go.RowKit Go.Proofs.Yteickelddnhdiaa.Bk Go.Proofs.YteickelddnhdiaaW.PrintWords
set_option linter.unusedVariables false
set_option linter.unusedSimpArgs false
set_option maxRecDepth 100000
set_option maxHeartbeats 4000000
theorem wrapI (x : Int) : IntKind.i64.wrap x = wrap64 x := by rw [IntKind.wrap_i64]; unfold wrap64; rfl
theorem Pick_nat (a : Int) (P : Nat) (h1 : 1 ≤ P) (h2 : P ≤ 2000000) : ∃ p : Nat, p < P ∧ wayfinderkit_Pick.f a (P : Int) = some (p : Int) := by
  have h3 := tmod_pick (a := a) (m := (P : Int)) (by omega)
  have h4 := Int.emod_nonneg a (show (P : Int) ≠ 0 by omega)
  have h5 := Int.emod_lt_of_pos a (show 0 < (P : Int) by omega)
  refine ⟨(a % (P : Int)).toNat, by omega, ?_⟩
  unfold wayfinderkit_Pick.f
  rw [if_neg (by omega), if_neg (by omega)]
  by_cases h : Int.tmod a P < 0
  · rw [if_pos h] at h3 ⊢
    rw [wrap_in (by omega) (by omega), h3]
    congr 1
    omega
  · rw [if_neg h] at h3 ⊢
    rw [h3]
    congr 1
    omega
theorem put_int {k : IntKind} {e base g n cap i : Nat} {ok : Nat → Prop} {W : World} {xs : List Int} (h : (Kd.int k).R e W base ok (.slice (some ⟨g, 0, none⟩) n cap) xs) (x : Int) : (Kd.int k).R e (W.setCell ⟨g, i, none⟩ (.int k x)) base ok (.slice (some ⟨g, 0, none⟩) n cap) (xs.set i x) := by
  have := Kd.R_putn (enc := Value.int k) (h1 := fun _ => rfl) h (i : Int) x
  rw [Int.toNat_natCast] at this
  exact this
theorem cell_int {k : IntKind} {e base g n cap i : Nat} {ok : Nat → Prop} {W : World} {xs : List Int} (h : (Kd.int k).R e W base ok (.slice (some ⟨g, 0, none⟩) n cap) xs) (hi : i < n) : W.cell? ⟨g, i, none⟩ = some (.int k (xs.getD i 0)) ∧ W.frozen? ⟨g, i, none⟩ = false := by
  have := Kd.R_celln (enc := Value.int k) (h1 := fun _ => rfl) 0 h (i : Int) (Int.natCast_nonneg _) (Int.ofNat_lt.2 hi)
  unfold rdOf at this
  rw [Int.toNat_natCast] at this
  exact this
end Go.Proofs.Yteickelddnhdiaa.G

namespace Go.Proofs.Yteickelddnhdiaa.G
open Go.RowKit Go.Proofs.Yteickelddnhdiaa.Bk Go.Proofs.YteickelddnhdiaaW.PrintWords
set_option linter.unusedVariables false
set_option linter.unusedSimpArgs false
set_option maxRecDepth 100000
set_option maxHeartbeats 4000000
theorem back_early (A0 : Option Addr) (c0 : Nat) (b : List (List (List Int))) (at' by' : Int) (W : World) (hr0 : Kd.C (Kd.slice 39 (Kd.slice 21 (Kd.int .i32))) W A0 b.length b) (q0 : b.length ≤ c0) (r : Bool) (hr : Ev (fun k => wayfinderlaw15_light.f k b) r) (h0 : r = false ∨ bookE b ≠ 0) :
    Calls Try.prog 7 #[.agg #[.slice A0 b.length c0], .int .i64 at', .int .u8 by'] W fun e W' => e = .returned (.bool true) ∧ Below W.heap.size W W' := by
  have HB0 := Aside0.mk ((Below.refl W.heap.size W).alloc (Nat.le_refl _) (.cells #[.slice A0 b.length c0] 53))
  have hc0 : (W.alloc (.cells #[.slice A0 b.length c0] 53)).cell? ⟨W.heap.size, 0, none⟩ = some (.slice A0 b.length c0) := by simp
  obtain ⟨k, hk⟩ := Ev.rounds hr
  have HLv := Aside0.mk (fun X => wayfinderlaw15_lives.calls true X rfl)
  have HLt := Aside0.mk (fun X (hX : Below W.heap.size W X) => wayfinderlaw15_light.calls k A0 c0 b r X (Kd.C_below hr0 hX) q0 hk)
  cases r with
  | false =>
    clear hr hk hr0 h0
    go_enter Try.func7, Try.ntmps7
    go_wp2_with (first | (go_at_call 34; ((with_reducible refine (HLv.out _).mono ?_); rintro e w1 ⟨rfl, hb⟩; have HB1 := Aside0.mk (below_then HB0.out HB0.out.size hb); have hc1' := pw_cell_below hb hc0; clear hb)) | (go_at_call 35; ((with_reducible refine (HLt.out _ HB1.out).mono ?_); rintro e w2 ⟨rfl, hb⟩; have HB2 := Aside0.mk (below_then HB1.out HB1.out.size hb); have hc2' := pw_cell_below hb hc1'; clear hb)))
    go_ret
    exact ⟨rfl, HB2.out⟩
  | true =>
    have h0 : bookE b ≠ 0 := by rcases h0 with h | h; cases h; exact h
    have HBy := Aside0.mk (fun X (hX : Below W.heap.size W X) => book_Bytes.calls A0 c0 b [] X (Kd.C_below hr0 hX) q0 (by unfold book_Bytes.f; rw [if_pos (fun h => absurd h h0), if_neg h0]))
    have HCk := Aside0.mk (fun X (hX : Below W.heap.size W X) => book_Check.calls A0 c0 b (bookE b) X (Kd.C_below hr0 hX) q0 rfl)
    have hd : (bookE b != 0) = true := by simpa using h0
    clear hr hk hr0 h0
    generalize bookE b = q at *
    go_enter Try.func7, Try.ntmps7
    go_wp2_with (first | (go_at_call 34; ((with_reducible refine (HLv.out _).mono ?_); rintro e w1 ⟨rfl, hb⟩; have HB1 := Aside0.mk (below_then HB0.out HB0.out.size hb); have hc1' := pw_cell_below hb hc0; clear hb)) | (go_at_call 35; ((with_reducible refine (HLt.out _ HB1.out).mono ?_); rintro e w2 ⟨rfl, hb⟩; have HB2 := Aside0.mk (below_then HB1.out HB1.out.size hb); have hc2' := pw_cell_below hb hc1'; clear hb)) | (go_at_call 36; ((with_reducible refine (HBy.out _ HB2.out).mono ?_); rintro e w3 ⟨v, rfl, ho, hb⟩; obtain ⟨Ax, cx, rfl⟩ := Kd.R_slice ho; have HB3 := Aside0.mk (below_then HB2.out HB2.out.size hb); have hc3' := pw_cell_below hb hc2'; clear hb ho)) | (go_at_call 37; ((with_reducible refine (HCk.out _ HB3.out).mono ?_); rintro e w4 ⟨rfl, hb⟩; have HB4 := Aside0.mk (below_then HB3.out HB3.out.size hb); clear hb)))
    go_ret
    exact ⟨rfl, HB4.out⟩
theorem back_main (A0 : Option Addr) (c0 : Nat) (b : List (List (List Int))) (at' by' : Int) (W : World) (hr0 : Kd.C (Kd.slice 39 (Kd.slice 21 (Kd.int .i32))) W A0 b.length b) (q0 : b.length ≤ c0) (hr : Ev (fun k => wayfinderlaw15_light.f k b) true) (h0 : bookE b = 0) (n m : Nat) (hb : BookOK b n m) (hby : 0 ≤ by' ∧ by' ≤ 255) :
    Calls Try.prog 7 #[.agg #[.slice A0 b.length c0], .int .i64 at', .int .u8 by'] W fun e W' => e = .returned (.bool true) ∧ Below W.heap.size W W' := by
  have p1 := hb.p1
  have n1 := hb.n1
  have n2 := hb.n2
  have m1 := hb.m1
  have mo := hb.most
  have hmP : b.length ≤ m * b.length := Nat.le_mul_of_pos_left b.length m1
  have hmm : m ≤ m * b.length := Nat.le_mul_of_pos_right m p1
  -- numbers
  obtain ⟨D, hD⟩ : ∃ D, m * b.length = D := ⟨_, rfl⟩
  obtain ⟨N, hN⟩ : ∃ N, 4 * (b.length * n * m) = N := ⟨_, rfl⟩
  have hN2 : N = 4 * D * n := by rw [← hN, ← hD, Nat.mul_assoc 4, Nat.mul_comm m b.length, Nat.mul_assoc b.length m n, Nat.mul_comm m n, Nat.mul_assoc b.length n m]
  have hqn := Nat.mul_le_mul (show 4 * D ≤ 4096 by omega) n2
  have hN4 : 4 ≤ N := by
    have := Nat.mul_le_mul (show 1 ≤ b.length * n from Nat.mul_pos p1 n1) m1
    omega
  -- bytes
  obtain ⟨X, hX⟩ : ∃ X, bytesB b = X := ⟨_, rfl⟩
  have hXl : X.length = N := by rw [← hX, hb.bytes_length, hN]
  have hXb : ∀ t ∈ X, isByte t := by rw [← hX]; exact bytes4_byte _
  obtain ⟨p, hp, hpk⟩ := Pick_nat at' N (by omega) (by omega)
  obtain ⟨y, hy⟩ : ∃ y, (X.getD p 0 + by') % 256 = y := ⟨_, rfl⟩
  obtain ⟨X2, hX2⟩ : ∃ X2, X.set p y = X2 := ⟨_, rfl⟩
  have hX2l : X2.length = N := by rw [← hX2, List.length_set]; exact hXl
  have hX2b : ∀ t ∈ X2, isByte t := by
    intro t ht
    rw [← hX2] at ht
    rcases List.mem_or_eq_of_mem_set ht with h | h
    · exact hXb t h
    · rw [h, ← hy]; unfold isByte; omega
  have hrd1 : readF X (D : Int) (b.length : Int) (n : Int) = (b, 0) := by
    rw [← hD, readF_is hb X (by rw [hXl, hN]), ← hX, readB_bytes hb, if_pos h0]
  obtain ⟨Z, hZ⟩ : ∃ Z, readB X2 b.length n m = Z := ⟨_, rfl⟩
  have hrd2 : readF X2 (D : Int) (b.length : Int) (n : Int) = if bookE Z = 0 then (Z, 0) else ([], 4) := by
    rw [← hD, readF_is hb X2 (by rw [hX2l, hN]), hZ]
  have hrd3 : readF (X2.take p) (D : Int) (b.length : Int) (n : Int) = ([], 4) := by
    rw [← hD, readF_short hb (X2.take p) (by rw [List.length_take, hN]; omega)]
  have hbyte2 : bytesB Z = X2 := by rw [← hZ]; exact bytes_readB X2 _ _ _ hX2b (by rw [hX2l, hN])
  have heq : decide (Z = b) = (by' == 0) := by
    rw [Bool.eq_iff_iff, decide_eq_true_iff, beq_iff_eq]
    have hxp : X[p]? = some (X.getD p 0) := by rw [List.getD_eq_getElem?_getD, List.getElem?_eq_getElem (by omega)]; rfl
    have hxb := hXb (X.getD p 0) (List.mem_of_getElem? hxp)
    unfold isByte at hxb
    have hs : X2[p]? = some y := by rw [← hX2]; simp [hXl, hp]
    constructor
    · intro hZb
      have hXX : X2 = X := by rw [← hbyte2, hZb, hX]
      rw [hXX, hxp] at hs
      have := Option.some.inj hs
      omega
    · intro hb0
      have hyx : y = X.getD p 0 := by rw [← hy, hb0]; omega
      have hXX : X2 = X := by
        rw [← hX2, hyx]
        apply List.ext_getElem?
        intro i
        by_cases hi : i = p
        · subst hi
          rw [hxp]
          simp [hXl, hp]
        · rw [List.getElem?_set_ne (Ne.symm hi)]
      rw [← hZ, hXX, ← hX, readB_bytes hb]
  -- calls
  have HB0 := Aside0.mk ((Below.refl W.heap.size W).alloc (Nat.le_refl _) (.cells #[.slice A0 b.length c0] 53))
  have hc0 : (W.alloc (.cells #[.slice A0 b.length c0] 53)).cell? ⟨W.heap.size, 0, none⟩ = some (.slice A0 b.length c0) := by simp
  obtain ⟨k, hk⟩ := Ev.rounds hr
  obtain ⟨kb, hkb⟩ := Ev.rounds (Book_self b (by omega) (fun l hl => by rw [hb.parts l hl]; omega) (fun l hl v hv => by rw [(hb.words l hl v hv).1]; omega))
  obtain ⟨ks, hks⟩ := Ev.rounds (Same_byte_self X2 (by omega))
  have HLv := Aside0.mk (fun Z => wayfinderlaw15_lives.calls true Z rfl)
  have HLt := Aside0.mk (fun Z (hZ : Below W.heap.size W Z) => wayfinderlaw15_light.calls k A0 c0 b true Z (Kd.C_below hr0 hZ) q0 hk)
  have hbl := hb.flat1
  have hbl2 := hb.flat2
  have HBy := Aside0.mk (fun Z (hZ : Below W.heap.size W Z) => book_Bytes.calls A0 c0 b X Z (Kd.C_below hr0 hZ) q0 (by
    unfold book_Bytes.f
    rw [if_pos (fun _ => ⟨by rw [hbl]; have := Nat.mul_le_mul (show b.length ≤ 1024 by omega) n2; omega, by rw [hbl2]; omega⟩), if_pos h0, hX]))
  have HCk := Aside0.mk (fun Z (hZ : Below W.heap.size W Z) => book_Check.calls A0 c0 b 0 Z (Kd.C_below hr0 hZ) q0 (by show some (bookE b) = _; rw [h0]))
  have HDm := Aside0.mk (fun Z (hZ : Below W.heap.size W Z) => book_Dim.calls A0 c0 b (D : Int) Z (Kd.C_below hr0 hZ) q0 (by rw [dim_is hb h0, hD]))
  have HPk := Aside0.mk (fun Z => wayfinderkit_Pick.calls at' (X.length : Int) (p : Int) Z (by rw [hXl]; exact hpk))
  have HR1 := Aside0.mk (fun A c Z (hC : Kd.C (Kd.int .u8) Z A X.length X) (hc : X.length ≤ c) => book_Read.calls A c X (D : Int) (b.length : Int) (n : Int) b 0 Z hC hc (by unfold book_Read.f; rw [if_pos hXb, hrd1]))
  have HR3 := Aside0.mk (fun A c Z (hC : Kd.C (Kd.int .u8) Z A p (X2.take p)) (hc : p ≤ c) => show Calls Try.prog 39 #[.slice A p c, .int .i64 D, .int .i64 b.length, .int .i64 n] Z _ from by
    have hl : (X2.take p).length = p := by rw [List.length_take]; omega
    have := book_Read.calls A c (X2.take p) (D : Int) (b.length : Int) (n : Int) [] 4 Z (by rw [hl]; exact hC) (by rw [hl]; exact hc) (by unfold book_Read.f; rw [if_pos (fun t ht => hX2b t (List.mem_of_mem_take ht)), hrd3])
    rw [hl] at this
    exact this)
  have HKb := Aside0.mk (fun A c Z (hZ : Below W.heap.size W Z) (hC : Kd.C (Kd.slice 39 (Kd.slice 21 (Kd.int .i32))) Z A b.length b) (hc : b.length ≤ c) => wayfinderkit_Book.calls kb A c b A0 c0 b true Z hC hc (Kd.C_below hr0 hZ) q0 hkb)
  obtain ⟨ad, A', c', rfl, hxw, hxc, hC⟩ := rows3_get2 hr0 0 (by omega)
  have hn := hb.parts _ (getD_mem (z := []) (show 0 < b.length by omega))
  rw [hn] at hxw hxc
  have ha0 : ad.add 0 = ad := by simp [Addr.add]
  rw [ha0] at hxw
  have HXa := Aside0.mk (fun Z (hZ : Below W.heap.size W Z) => pw_cell_below hZ hxw)
  have hg0 : 0 < b.length := by omega
  have hwq : Value.int .i64 (IntKind.i64.wrap (4 * (D : Int) * (n : Int))) = Value.int .i64 (X.length : Int) := by
    rw [wrapI, show (4 : Int) * (D : Int) * (n : Int) = ((4 * D * n : Nat) : Int) by simp, ← hN2, hXl, wrap_nat (by omega)]
  have hD1 : D ≤ 1024 := by omega
  have hq1 : Value.int .i64 (IntKind.i64.wrap (4 * (D : Int))) = Value.int .i64 (4 * (D : Int)) := by rw [wrapI, wrap_in (by omega) (by omega)]
  obtain ⟨xp, hxp⟩ : ∃ xp, X.getD p 0 = xp := ⟨_, rfl⟩
  have hyv : Value.int .u8 ((xp + by') % 256) = Value.int .u8 y := by rw [← hxp, hy]
  have HXP := Aside0.mk hxp
  clear hxp
  obtain ⟨z1, e1, hz1⟩ : ∃ z1 e1, (if bookE Z = 0 then (Z, (0 : Int)) else ([], 4)) = (z1, e1) := ⟨_, _, rfl⟩
  rw [hz1] at hrd2
  have HR2 := Aside0.mk (fun A c Z' (hC : Kd.C (Kd.int .u8) Z' A X.length X2) (hc : X.length ≤ c) => show Calls Try.prog 39 #[.slice A X.length c, .int .i64 D, .int .i64 b.length, .int .i64 n] Z' _ from by
    have hl : X2.length = X.length := by rw [hX2l, hXl]
    have := book_Read.calls A c X2 (D : Int) (b.length : Int) (n : Int) z1 e1 Z' (by rw [hl]; exact hC) (by rw [hl]; exact hc) (by unfold book_Read.f; rw [if_pos hX2b, hrd2])
    rw [hl] at this
    exact this)
  have HE := Aside0.mk (show (e1 = 0 ∧ z1 = Z ∧ bookE Z = 0) ∨ e1 = 4 by
    by_cases h : bookE Z = 0
    · rw [if_pos h] at hz1; cases hz1; exact .inl ⟨rfl, rfl, h⟩
    · rw [if_neg h] at hz1; cases hz1; exact .inr rfl)
  have hZs := shape_readB X2 b.length n m
  rw [hZ] at hZs
  have HZf := Aside0.mk (show Z.flatten.length ≤ 1000000 ∧ Z.flatten.flatten.length ≤ 1000000 by
    have h1 : ∀ L : List (List (List Int)), (∀ l ∈ L, l.length = n) → L.flatten.length = L.length * n := fun L => by
      induction L with
      | nil => intro _; simp
      | cons l L ih => intro h; rw [List.flatten_cons, List.length_append, ih (fun x hx => h x (by simp [hx])), h l (by simp), List.length_cons, Nat.add_mul, Nat.one_mul, Nat.add_comm]
    have h2 := h1 Z hZs.2.1
    rw [hZs.1] at h2
    have h3 := Nat.mul_le_mul (show b.length ≤ 1024 by omega) n2
    have h4 : 4 * Z.flatten.flatten.length = N := by rw [← hX2l, ← hbyte2]; unfold bytesB; rw [b4_len]
    exact ⟨by omega, by omega⟩)
  have HSm := Aside0.mk (fun A c Z' (hZ' : Below W.heap.size W Z') (hC : Kd.C (Kd.slice 39 (Kd.slice 21 (Kd.int .i32))) Z' A Z.length Z) (hc : Z.length ≤ c) => book_Same.calls A c Z (some ad) c0 b (by' == 0) Z' hC hc (Kd.C_below hr0 hZ') q0 (by unfold book_Same.f; rw [heq]))
  have HBz := Aside0.mk (fun A c Z' (h : bookE Z = 0) (hC : Kd.C (Kd.slice 39 (Kd.slice 21 (Kd.int .i32))) Z' A Z.length Z) (hc : Z.length ≤ c) => book_Bytes.calls A c Z X2 Z' hC hc (by unfold book_Bytes.f; rw [if_pos (fun _ => HZf.out), if_pos h, hbyte2]))
  have HSb := Aside0.mk (fun A c A' c' Z' (hC : Kd.C (Kd.int .u8) Z' A X2.length X2) (hc : X2.length ≤ c) (hC' : Kd.C (Kd.int .u8) Z' A' X.length X2) (hc' : X.length ≤ c') => show Calls Try.prog 42 #[.slice A X2.length c, .slice A' X.length c'] Z' _ from by
    have hl : X2.length = X.length := by rw [hX2l, hXl]
    have := wayfinderkit_Same_byte.calls ks A c X2 A' c' X2 true Z' hC hc (by rw [hl]; exact hC') (by rw [hl]; exact hc') hks
    rw [hl] at this ⊢
    exact this)
  have HXl := Aside0.mk hXl
  have HX2l := Aside0.mk hX2l
  have HX2 := Aside0.mk hX2
  have HY := Aside0.mk hy
  have HpX := Aside0.mk (show p < X.length by rw [hXl]; exact hp)
  have hpX : p < X.length := HpX.out
  have hd1 : ((X.length : Int) != (X.length : Int)) = false := by simp
  have hXp : 0 < X.length := by rw [hXl]; omega
  have Hbk := Aside0.mk hX2b
  clear hr hr0 hk hkb hks hbl hbl2 hC hxw hn hXb hX2b hrd1 hrd3 hpk hX hy hX2 hXl hX2l hN hD hN2 hqn hN4 hp hmP hmm hrd2 hz1 hZ hZs hbyte2 heq
  go_enter Try.func7, Try.ntmps7
  go_wp2_with (first
    | (go_at_call 34; ((with_reducible refine (HLv.out _).mono ?_); rintro e w1 ⟨rfl, hb⟩; have HB1 := Aside0.mk (below_then HB0.out HB0.out.size hb); have hc1' := pw_cell_below hb hc0; clear hb))
    | (go_at_call 35; ((with_reducible refine (HLt.out _ HB1.out).mono ?_); rintro e w2 ⟨rfl, hb⟩; have HB2 := Aside0.mk (below_then HB1.out HB1.out.size hb); have hc2' := pw_cell_below hb hc1'; clear hb))
    | (go_at_call 36; ((with_reducible refine (HBy.out _ HB2.out).mono ?_); rintro e w3 ⟨v, rfl, ho, hb⟩; obtain ⟨gx, cx, rfl, hgx, hgx2, _⟩ := Kd.R_form ho hXp; have HX3 := Aside0.mk ho; have HA3 := Aside0.mk hb; have HB3 := Aside0.mk (below_then HB2.out HB2.out.size hb); have hc3' := pw_cell_below hb hc2'; clear hb ho))
    | (go_at_call 37; ((with_reducible refine (HCk.out _ HB3.out).mono ?_); rintro e w4 ⟨rfl, hb⟩; have HA4 := Aside0.mk (below_then HA3.out HA3.out.size hb); have HR4 := Aside0.mk hb; have HB4 := Aside0.mk (below_then HB3.out HB3.out.size hb); have hc4' := pw_cell_below hb hc3'; clear hb)))
  have hx4 := HXa.out _ HB4.out
  go_region_held3 (fun Z => Z.cell? ⟨W.heap.size, 0, none⟩ = some (.slice (some ad) b.length c0) ∧ Z.cell? ad = some (.slice A' n c') ∧ Aside0 (Below w4.heap.size w4 Z)) (first | exact ⟨hc4', hx4, ⟨Below.refl _ _⟩⟩ | exact ⟨by simpa using hc4', by simpa using hx4, ⟨(Below.refl w4.heap.size w4).drew⟩⟩ | exact ⟨hc5', hx5, HR5⟩) (first | (go_at_call 38; (((with_reducible refine (HDm.out _ (by first | exact HB4.out.drew | exact HB4.out)).mono ?_); rintro e w5 ⟨rfl, hb⟩; have HR5 := Aside0.mk (below_then ((Below.refl w4.heap.size w4).drew) (Nat.le_refl _) hb); have hc5' := pw_cell_below hb (show w4.drew.cell? _ = _ from by simpa using hc4'); have hx5 := pw_cell_below hb (show w4.drew.cell? _ = _ from by simpa using hx4); clear hb))))
  have HA5 := Aside0.mk (below_then HA4.out HA4.out.size HR5.out)
  have HQ5 := Aside0.mk (below_then HR4.out HR4.out.size HR5.out)
  have HX5 := Aside0.mk (Kd.R_below HX3.out HQ5.out)
  obtain ⟨hCx5, -, hcx5⟩ := R_C HX5.out
  have HCx5 := Aside0.mk hCx5
  clear hCx5
  go_wp2_with (first
    | (go_at_call 39; (((with_reducible refine (HR1.out _ _ _ HCx5.out hcx5).mono ?_); rintro e w6 ⟨vy, rfl, ho, hb⟩; obtain ⟨Ay, cy, rfl⟩ := Kd.R_slice ho; have HCy := Aside0.mk (Kd.R_reads' ho).2.2; have hcy := (Kd.R_reads' ho).2.1; have HBa := Aside0.mk ((Below.refl w6.heap.size w6).alloc (Nat.le_refl _) (.cells #[.slice Ay b.length cy] 53)); have hc6' := pw_cell_below HBa.out (pw_cell_below hb hc5'); have HA6 := Aside0.mk ((below_then HA5.out HA5.out.size hb).trans (HBa.out.mono (below_then HA5.out HA5.out.size hb).size)); have HQ6 := Aside0.mk ((below_then HQ5.out HQ5.out.size hb).trans (HBa.out.mono (below_then HQ5.out HQ5.out.size hb).size)); clear ho hb)))
    | (go_at_call 40; (((with_reducible refine (HKb.out _ _ _ (below_then HB2.out HB2.out.size HA6.out) (Kd.C_below HCy.out HBa.out) hcy).mono ?_); rintro e w7 ⟨rfl, hb⟩; have HA7 := Aside0.mk (below_then HA6.out HA6.out.size hb); have HQ7 := Aside0.mk (below_then HQ6.out HQ6.out.size hb); have hc7' := pw_cell_below hb hc6'; clear hb))))
  rcases HE.out with ⟨he, hz, hbz⟩ | he
  · subst he
    subst hz
    have HZ0 := Aside0.mk hbz
    clear hbz HE
    go_wp2_with (first
      | (go_at_call 12; (((with_reducible refine (HPk.out _).mono ?_); rintro e w' ⟨rfl, ⟨nd, rfl⟩⟩; have HX7 := Aside0.mk (Kd.R_below HX3.out HQ7.out); obtain ⟨hcx, hfx⟩ := cell_int HX7.out hpX; rw [HXP.out] at hcx; have hcx8 : (w7.drewN nd).cell? ⟨gx, p, none⟩ = some (.int .u8 xp) := hcx; have hfx8 : (w7.drewN nd).frozen? ⟨gx, p, none⟩ = false := hfx; have HA8 := Aside0.mk (pw_below_drewN HA7.out nd); have hc8' : (w7.drewN nd).cell? ⟨W.heap.size, 0, none⟩ = some (.slice (some ad) b.length c0) := hc7'; have hx2 := put_int (i := p) (show (Kd.int .u8).R 5 (w7.drewN nd) w2.heap.size (fun _ => True) (.slice (some ⟨gx, 0, none⟩) X.length cx) X from HX7.out) y; rw [HX2.out] at hx2; have HX9 := Aside0.mk hx2; have HA9 := Aside0.mk (HA8.out.setCell (p := ⟨gx, p, none⟩) hgx (Value.int .u8 y)); have hc9' := pw_cell_below (HA9.out) hc2'; clear hcx hfx hx2)))
      | (go_at_call 39; (((with_reducible refine (HR2.out _ _ _ (by have h := (R_C HX9.out).1; rw [HX2l.out, ← HXl.out] at h; exact h) hcx5).mono ?_); rintro e w9 ⟨vz, rfl, ho, hb⟩; obtain ⟨Az, cz, rfl⟩ := Kd.R_slice ho; have HCz := Aside0.mk (Kd.R_reads' ho).2.2; have hcz := (Kd.R_reads' ho).2.1; have HBb := Aside0.mk ((Below.refl w9.heap.size w9).alloc (Nat.le_refl _) (.cells #[.slice Az z1.length cz] 53)); have hc10' := pw_cell_below HBb.out (pw_cell_below hb hc9'); have HA10 := Aside0.mk ((below_then HA9.out HA9.out.size hb).trans (HBb.out.mono (below_then HA9.out HA9.out.size hb).size)); have HCf := Aside0.mk (Kd.C_below (Kd.C_below (by have h := (R_C HX9.out).1; rw [HX2l.out, ← HXl.out] at h; exact h) hb) HBb.out); have HPz := Aside0.mk (by have h := C_piece HCf.out 0 p (by have := HpX.out; omega); rw [show (⟨gx, 0, none⟩ : Addr).add 0 = ⟨gx, 0, none⟩ by simp [Addr.add], List.drop_zero] at h; exact h); have hpc : p ≤ cx := Nat.le_trans (Nat.le_of_lt HpX.out) hcx5; clear ho hb)))
      | (go_at_call 39; (((with_reducible refine (HR3.out _ _ _ HPz.out hpc).mono ?_); rintro e w11 ⟨v3, rfl, ho, hb⟩; obtain ⟨A3, c3, rfl⟩ := Kd.R_slice ho; have HBc := Aside0.mk ((Below.refl w11.heap.size w11).alloc (Nat.le_refl _) (.cells #[.slice A3 0 c3] 53)); have hcz11 := pw_cell_below HBc.out (pw_cell_below hb (show (w9.alloc (.cells #[.slice Az z1.length cz] 53)).cell? ⟨w9.heap.size, 0, none⟩ = some (.slice Az z1.length cz) by simp)); have hc11' := pw_cell_below HBc.out (pw_cell_below hb hc10'); have HCz11 := Aside0.mk (Kd.C_below (Kd.C_below (Kd.C_below HCz.out HBb.out) hb) HBc.out); have HCf11 := Aside0.mk (Kd.C_below (Kd.C_below HCf.out hb) HBc.out); have HA11 := Aside0.mk ((below_then HA10.out HA10.out.size hb).trans (HBc.out.mono (below_then HA10.out HA10.out.size hb).size)); clear ho hb)))
      | (go_at_call 41; (((with_reducible refine (HSm.out _ _ _ (below_then HB2.out HB2.out.size HA11.out) HCz11.out hcz).mono ?_); rintro e w12 ⟨rfl, hb⟩; have hcz12 := pw_cell_below hb hcz11; have HCz12 := Aside0.mk (Kd.C_below HCz11.out hb); have HCf12 := Aside0.mk (Kd.C_below HCf11.out hb); have HA12 := Aside0.mk (below_then HA11.out HA11.out.size hb); clear hb)))
      | (go_at_call 36; (((with_reducible refine (HBz.out _ _ _ HZ0.out HCz12.out hcz).mono ?_); rintro e w13 ⟨vb, rfl, ho, hb⟩; obtain ⟨Ab, cb, rfl⟩ := Kd.R_slice ho; have HCb := Aside0.mk (R_C ho).1; have hcb := (R_C ho).2.2; have HCf13 := Aside0.mk (Kd.C_below HCf12.out hb); have HA13 := Aside0.mk (below_then HA12.out HA12.out.size hb); clear ho hb)))
      | (go_at_call 42; (((with_reducible refine (HSb.out _ _ _ _ _ HCb.out hcb HCf13.out hcx5).mono ?_); rintro e w' ⟨rfl, ⟨nd2, rfl⟩⟩; have HA14 := Aside0.mk (pw_below_drewN HA13.out nd2)))))
    go_ret
    exact ⟨rfl, below_then HB2.out HB2.out.size HA14.out⟩
  · subst he
    clear HE
    go_wp2_with (first
      | (go_at_call 12; (((with_reducible refine (HPk.out _).mono ?_); rintro e w' ⟨rfl, ⟨nd, rfl⟩⟩; have HX7 := Aside0.mk (Kd.R_below HX3.out HQ7.out); obtain ⟨hcx, hfx⟩ := cell_int HX7.out hpX; rw [HXP.out] at hcx; have hcx8 : (w7.drewN nd).cell? ⟨gx, p, none⟩ = some (.int .u8 xp) := hcx; have hfx8 : (w7.drewN nd).frozen? ⟨gx, p, none⟩ = false := hfx; have HA8 := Aside0.mk (pw_below_drewN HA7.out nd); have hc8' : (w7.drewN nd).cell? ⟨W.heap.size, 0, none⟩ = some (.slice (some ad) b.length c0) := hc7'; have hx2 := put_int (i := p) (show (Kd.int .u8).R 5 (w7.drewN nd) w2.heap.size (fun _ => True) (.slice (some ⟨gx, 0, none⟩) X.length cx) X from HX7.out) y; rw [HX2.out] at hx2; have HX9 := Aside0.mk hx2; have HA9 := Aside0.mk (HA8.out.setCell (p := ⟨gx, p, none⟩) hgx (Value.int .u8 y)); have hc9' := pw_cell_below (HA9.out) hc2'; clear hcx hfx hx2)))
      | (go_at_call 39; (((with_reducible refine (HR2.out _ _ _ (by have h := (R_C HX9.out).1; rw [HX2l.out, ← HXl.out] at h; exact h) hcx5).mono ?_); rintro e w9 ⟨vz, rfl, ho, hb⟩; obtain ⟨Az, cz, rfl⟩ := Kd.R_slice ho; have HCz := Aside0.mk (Kd.R_reads' ho).2.2; have hcz := (Kd.R_reads' ho).2.1; have HBb := Aside0.mk ((Below.refl w9.heap.size w9).alloc (Nat.le_refl _) (.cells #[.slice Az z1.length cz] 53)); have hc10' := pw_cell_below HBb.out (pw_cell_below hb hc9'); have HA10 := Aside0.mk ((below_then HA9.out HA9.out.size hb).trans (HBb.out.mono (below_then HA9.out HA9.out.size hb).size)); have HCf := Aside0.mk (Kd.C_below (Kd.C_below (by have h := (R_C HX9.out).1; rw [HX2l.out, ← HXl.out] at h; exact h) hb) HBb.out); have HPz := Aside0.mk (by have h := C_piece HCf.out 0 p (by have := HpX.out; omega); rw [show (⟨gx, 0, none⟩ : Addr).add 0 = ⟨gx, 0, none⟩ by simp [Addr.add], List.drop_zero] at h; exact h); have hpc : p ≤ cx := Nat.le_trans (Nat.le_of_lt HpX.out) hcx5; clear ho hb)))
      | (go_at_call 39; (((with_reducible refine (HR3.out _ _ _ HPz.out hpc).mono ?_); rintro e w11 ⟨v3, rfl, ho, hb⟩; obtain ⟨A3, c3, rfl⟩ := Kd.R_slice ho; have HBc := Aside0.mk ((Below.refl w11.heap.size w11).alloc (Nat.le_refl _) (.cells #[.slice A3 0 c3] 53)); have HA11 := Aside0.mk ((below_then HA10.out HA10.out.size hb).trans (HBc.out.mono (below_then HA10.out HA10.out.size hb).size)); clear ho hb))))
    go_ret
    exact ⟨rfl, below_then HB2.out HB2.out.size HA11.out⟩
theorem BookBack_c (A0 : Option Addr) (c0 : Nat) (b : List (List (List Int))) (at' by' : Int) (W : World) (hr0 : Kd.C (Kd.slice 39 (Kd.slice 21 (Kd.int .i32))) W A0 b.length b)
    (w1 : (Lit.int .i64 at').wf = true) (w2 : (Lit.int .u8 by').wf = true) (q0 : b.length ≤ c0) :
    Calls Try.prog 7 #[.agg #[.slice A0 b.length c0], .int .i64 at', .int .u8 by'] W fun e W' => e = .returned (.bool true) ∧ Below W.heap.size W W' := by
  obtain ⟨r, hr⟩ := light_ev b
  by_cases h : r = false ∨ bookE b ≠ 0
  · exact back_early A0 c0 b at' by' W hr0 q0 r hr h
  · have h1 : r = true := by cases r; exact absurd (.inl rfl) h; rfl
    have h0 : bookE b = 0 := by omega
    subst h1
    obtain ⟨n, m, hb⟩ := bookE_ok h0
    exact back_main A0 c0 b at' by' W hr0 q0 hr h0 n m hb (wf_u8 w2)
end Go.Proofs.Yteickelddnhdiaa.G
