/- What all contracts of this seat stand on. -/
import Derived.Test.YtcgpkfpfpjclkaaProg
import Derived.Test.YtcgpkfpfpjclkaaWWords
import Derived.Shelf.Abstract
import Derived.Deep.RegionWith
import Derived.Outline
import Derived.Maps.AppendAt
import Derived.RangeFuncBox
import Derived.Laws.BitsAllLaws
import Derived.Laws.BitsLemmas
import Derived.Laws.Bits64
namespace Go.Proofs.Ytcgpkfpfpjclkaa.G
open Go.RowKit Go.Shelf Go.Proofs.YtcgpkfpfpjclkaaW.PrintWords
set_option linter.unusedVariables false
set_option linter.unusedSimpArgs false

theorem info_u8 : (Try.prog.info? 5).map (fun i => (i.zero, i.size, i.bytes)) = some (some (.int .u8 0), 1, 1) := by kernel_rfl
theorem info_i32 : (Try.prog.info? 21).map (fun i => (i.zero, i.size, i.bytes)) = some (some (.int .i32 0), 1, 4) := by kernel_rfl
theorem info_i64 : (Try.prog.info? 2).map (fun i => (i.zero, i.size, i.bytes)) = some (some (.int .i64 0), 1, 8) := by kernel_rfl

/-! ### what a walk wants of a slice that is read -/
theorem bcomp {w w1 w2 : World} (h : Below w.heap.size w w1) (k : Below w1.heap.size w1 w2) : Below w.heap.size w w2 := below_then h h.size k
theorem bcompN {n : Nat} {w w1 w2 : World} (h : Below w.heap.size w w1) (hn : w1.heap.size = n) (k : Below n w1 w2) : Below w.heap.size w w2 := by
  subst hn
  exact bcomp h k
theorem C_max {α : Type} {d : Kd α} {w : World} {A : Option Addr} {n : Nat} {xs : List α} (h : Kd.C d w A n xs) : n ≤ 9223372036854775807 := h.2.1
/-- One element of one cell. -/
theorem C_get1 {α : Type} {d : Kd α} {w : World} {A : Option Addr} {n : Nat} {xs : List α} (h : Kd.C d w A n xs) (hz : d.sz = 1) (j : Nat) (hj : j < n) (z : α) :
    ∃ ad v, A = some ad ∧ w.cell? (ad.add j) = some v ∧ Aside0 (d.K w (xs.getD j z) [v]) := by
  obtain ⟨ad, c, e, hl, hK, hc⟩ := Kd.C_get h z (j : Int) (by omega) (by omega)
  rw [hz] at hl hc
  match c, hl with
  | [v], _ =>
    refine ⟨ad, v, e, ?_, ⟨by simpa using hK⟩⟩
    have := hc 0 v rfl
    simpa using this
theorem C_ints {k : IntKind} {w : World} {A : Option Addr} {n : Nat} {xs : List Int} (h : Kd.C (Kd.int k) w A n xs) : ∀ j, j < n → ∃ ad, A = some ad ∧ w.cell? (ad.add j) = some (.int k (xs.getD j 0)) := by
  intro j hj
  obtain ⟨ad, v, e, hc, hk⟩ := C_get1 h rfl j hj 0
  refine ⟨ad, e, ?_⟩
  have := hk.out
  simp only [Kd.int, Kd.scalar, List.cons.injEq, and_true] at this
  rw [hc, this]
theorem R_nums {k : IntKind} {e : Nat} {w : World} {base n : Nat} {v : Value} {xs : List Int} (ho : w.ownsRow base e 1 v n (nums k xs)) (hl : xs.length = n) : (Kd.int k).R e w base (fun _ => True) v xs := by
  subst hl
  exact Kd.R_of_own ho (fun _ _ => trivial)
theorem R_C {α : Type} {d : Kd α} {e : Nat} {w : World} {base : Nat} {ok : Nat → Prop} {A : Option Addr} {n c : Nat} {xs : List α} (h : d.R e w base ok (.slice A n c) xs) : d.C w A xs.length xs ∧ n = xs.length ∧ xs.length ≤ c := by
  obtain ⟨A', c', e', hl, hC⟩ := Kd.R_reads h
  cases e'
  exact ⟨hC, rfl, hl⟩
/-- The nil slice reads as the empty list. -/
theorem C_nil {α : Type} (d : Kd α) (w : World) : d.C w none 0 [] := ⟨rfl, by omega, fun h => absurd h (Nat.not_lt_zero _)⟩
theorem C_reads {k : IntKind} {w : World} {A : Option Addr} {n : Nat} {xs : List Int} (h : Kd.C (Kd.int k) w A n xs) : ReadsInt w k A n xs := by
  have hm := C_max h
  have hl : xs.length = n := h.1
  refine ⟨hl, hm, fun hn => ?_⟩
  obtain ⟨ad, e, _⟩ := C_ints h 0 hn
  refine ⟨ad, e, fun j hj => ?_⟩
  obtain ⟨ad', e', hc⟩ := C_ints h j hj
  rw [e] at e'
  cases e'
  exact hc
theorem run_max (k : IntKind) (x y : Int) (ats : Array TypeId) (ty : TypeId) (W : World) : (Builtin.max_ ats ty #[.int k x, .int k y]).run Try.prog W = .ok (.int k (max x y)) W := by
  have e : Builtin.max_ ats ty #[.int k x, .int k y] = (Builtin.max2 (.int k x) (.int k y) >>= fun s => pure s) := by simp only [Builtin.max_, List.foldlM_cons, List.foldlM_nil]
  have e2 : (if x < y then y else x) = max x y := by split <;> omega
  rw [e]
  simp only [Builtin.max2, gt_iff_lt, e2]
  rfl
theorem run_min (k : IntKind) (x y : Int) (ats : Array TypeId) (ty : TypeId) (W : World) : (Builtin.min_ ats ty #[.int k x, .int k y]).run Try.prog W = .ok (.int k (min x y)) W := by
  have e : Builtin.min_ ats ty #[.int k x, .int k y] = (Builtin.min2 (.int k x) (.int k y) >>= fun s => pure s) := by simp only [Builtin.min_, List.foldlM_cons, List.foldlM_nil]
  have e2 : (if y < x then y else x) = min x y := by split <;> omega
  rw [e]
  simp only [Builtin.min2, e2]
  rfl
/-- make([]T, 0, c). -/
theorem make_cap (t e : TypeId) (k : IntKind) (bytes : Nat) (ht : Try.prog.underlying t = some (.slice e)) (hinfo : (Try.prog.info? e).map (fun i => (i.zero, i.size, i.bytes)) = some (some (.int k 0), 1, bytes)) (hb0 : 0 < bytes)
    (c : Int) (m : Nat) (hm : c = (m : Int)) (hn : m * bytes ≤ 281474976710656) :
    ∀ W : World, (Instr.makeSlice t (.int .i64 0) (.int .i64 c)).run Try.prog W = .ok (.slice (some ⟨W.heap.size, 0, none⟩) 0 m) (W.alloc (.cells (madeCells #[.int k 0] m) e)) := by
  intro W
  subst hm
  obtain ⟨i0, hi, hzz⟩ := Option.map_eq_some_iff.1 hinfo
  simp only [Prod.mk.injEq] at hzz
  obtain ⟨hz0, hz1, hz2⟩ := hzz
  have hm : m ≤ 281474976710656 := Nat.le_trans (Nat.le_mul_of_pos_right _ hb0) hn
  have hb : (i0.bytes : Int) * (m : Int) ≤ 281474976710656 := by
    have h : ((i0.bytes * m : Nat) : Int) ≤ 281474976710656 := by
      rw [hz2, Nat.mul_comm]
      omega
    rwa [Int.natCast_mul] at h
  have hr := run_make (P := Try.prog) W t e i0 (.int k 0) ht hi hz0 .i64 .i64 0 (m : Int) (Int.le_refl _) (by omega) hb (by omega)
  simp only [Int.toNat_zero, Int.toNat_natCast, hz1, Nat.mul_one] at hr
  exact hr
theorem own_made0 (W : World) (base : Nat) (e : TypeId) (k : IntKind) (m : Nat) (hb : base ≤ W.heap.size) (hm : m ≤ 9223372036854775807) :
    (W.alloc (.cells (madeCells #[.int k 0] m) e)).ownsRow base e 1 (.slice (some ⟨W.heap.size, 0, none⟩) 0 m) 0 (nums k []) := by
  have h := World.ownsRow_made (size := 1) (base := base) (e := e) W (madeCells #[.int k 0] m) m hb (by simpa [maxLen] using hm) (by rw [size_madeCells, Nat.mul_one])
  exact h
theorem C_of_cells {k : IntKind} {w : World} {A : Option Addr} {n : Nat} {xs : List Int} (hl : xs.length = n) (hm : n ≤ 9223372036854775807) (h : 0 < n → ∃ ad, A = some ad ∧ ∀ j, j < n → w.cell? (ad.add j) = some (.int k (xs.getD j 0))) : Kd.C (Kd.int k) w A n xs := by
  refine ⟨hl, hm, fun hn => ?_⟩
  obtain ⟨ad, e, hc⟩ := h hn
  refine ⟨ad, e, fun j p hj => ⟨[.int k p], rfl, rfl, fun i u hu => ?_⟩⟩
  match i, hu with
  | 0, hu =>
    have hjl := (List.getElem?_eq_some_iff.1 hj).1
    cases hu
    have := hc j (by omega)
    rw [List.getD_eq_getElem?_getD, hj] at this
    simpa [Kd.int, Kd.scalar] using this
/-- A slice that came in, opened by the kit. -/
theorem C_open {k : IntKind} {W : World} {x : Addr} {len cap : Nat} {zs : List Int} (hl : len ≤ cap) (hm : cap ≤ maxLen) (hz : zs.length = cap) (hc : ∀ i, i < zs.length → W.cell? (x.add i) = some (.int k (zs.getD i 0))) (hw : ∀ n ∈ zs, (Lit.int k n).wf = true) :
    ∃ l : List Int, l.length = len ∧ Kd.C (Kd.int k) W (some x) l.length l ∧ ∀ x ∈ l, (Lit.int k x).wf = true := by
  unfold maxLen at hm
  have hlen : (zs.take len).length = len := by rw [List.length_take]; omega
  refine ⟨zs.take len, hlen, C_of_cells rfl (by omega) (fun _ => ⟨x, rfl, fun j hj => ?_⟩), fun y hy => hw y (List.mem_of_mem_take hy)⟩
  rw [hlen] at hj
  rw [hc j (by omega), List.getD_eq_getElem?_getD, List.getD_eq_getElem?_getD, List.getElem?_take_of_lt hj]
theorem add_add (ad : Addr) (i j : Nat) : (ad.add i).add j = ad.add (i + j) := by
  unfold Addr.add
  by_cases hi : i = 0
  · subst hi; simp
  · by_cases hj : j = 0
    · subst hj; simp
    · simp [hi, hj, Nat.add_assoc]
/-- A piece of a slice. -/
theorem C_piece {k : IntKind} {w : World} {ad : Addr} {n : Nat} {xs : List Int} (h : Kd.C (Kd.int k) w (some ad) n xs) (i m : Nat) (him : i + m ≤ n) : Kd.C (Kd.int k) w (some (ad.add i)) m ((xs.drop i).take m) := by
  have hm := C_max h
  have hl : xs.length = n := h.1
  refine C_of_cells (by rw [List.length_take, List.length_drop]; omega) (by omega) (fun _ => ⟨_, rfl, fun j hj => ?_⟩)
  obtain ⟨ad', e, hc⟩ := C_ints h (i + j) (by omega)
  cases e
  rw [add_add, hc, List.getD_eq_getElem?_getD, List.getD_eq_getElem?_getD, List.getElem?_take_of_lt hj, List.getElem?_drop]
/-- append(v, y), as an equation. -/
theorem app1_run (t e : TypeId) (k : IntKind) (bytes : Nat) (ht : Try.prog.underlying t = some (.slice e)) (hinfo : (Try.prog.info? e).map (fun i => (i.zero, i.size, i.bytes)) = some (some (.int k 0), 1, bytes))
    (base : Nat) (W : World) (v : Value) (xs : List Int) (y : Int) (hown : W.ownsRow base e 1 v xs.length (nums k xs)) (hl : (xs.length + 1) * bytes ≤ 140737488355328) (h63 : xs.length + 1 ≤ 9223372036854775807) (hbase : base ≤ W.heap.size) :
    ∃ v1 w1, (Builtin.append_ #[t, t] t #[v, .slice (some ⟨W.heap.size, 0, none⟩) 1 1]).run Try.prog (W.alloc (.cells #[.int k y] e)) = .ok v1 w1 ∧ w1.ownsRow base e 1 v1 (xs.length + 1) (nums k (xs ++ [y])) ∧ (W.alloc (.cells #[.int k y] e)).grownBy w1 v.ownBlock := by
  obtain ⟨i0, hi, hzz⟩ := Option.map_eq_some_iff.1 hinfo
  simp only [Prod.mk.injEq] at hzz
  obtain ⟨hz0, hz1, hz2⟩ := hzz
  obtain ⟨v1, w1, hr, ho, hg, _, _⟩ := run_append_own_at (P := Try.prog) (W.alloc (.cells #[.int k y] e)) base t t e i0 (.int k 0) 1 bytes ht hi hz0 hz1 hz2 rfl (by decide) v xs.length (nums k xs) (hown.alloc _) ⟨W.heap.size, 0, none⟩ 1 1 [.int k y] rfl (cell_one_new _ _ _) (by simp [Value.oneCell']) (by simpa [maxLen] using h63) hl (by simp; omega)
  exact ⟨v1, w1, hr, by rw [nums_append]; exact ho, hg⟩
/-- A literal's elements. -/
theorem C_lit (W : World) (e : TypeId) (k : IntKind) (xs : List Int) (hm : xs.length ≤ 9223372036854775807) : Kd.C (Kd.int k) (W.alloc (.cells (nums k xs).toArray e)) (some ⟨W.heap.size, 0, none⟩) xs.length xs :=
  (R_C (R_nums (own_lit W W.heap.size e k xs (Nat.le_refl _) hm) rfl)).1
theorem mul_self_nonneg' (d : Int) : 0 ≤ d * d := by
  rcases Int.le_total 0 d with h | h
  · exact Int.mul_nonneg h h
  · exact Int.mul_nonneg_of_nonpos_of_nonpos h h

end Go.Proofs.Ytcgpkfpfpjclkaa.G
