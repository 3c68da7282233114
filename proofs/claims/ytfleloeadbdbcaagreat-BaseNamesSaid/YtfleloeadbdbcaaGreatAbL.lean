/- append, copy, clear, simulated. -/
import Derived.Test.YtfleloeadbdbcaaGreatAbK
import Derived.Laws.Append
namespace Go.Ab
open Go.RowKit
section
variable {P : Program} {m : Inj} {base : Nat} {h : Heap} {w : World}
theorem cell_of_heap {w W : World} (hw : W.heap = w.heap) (a : Addr) : W.cell? a = w.cell? a := by simp [World.cell?, hw]
theorem first_sim (hs : Sim m base h w) {size k : Nat} {x x' : Value} {vs : List Value} {c : Nat} {lg : Log} {c2 : Nat} {h2 : Heap} {lg2 : Log} (hr : run (firstT size k x) c h lg = .ok vs c2 h2 lg2) (hx : VRel m x x') :
    c = c2 ∧ h = h2 ∧ vs.length = k * size ∧ ∃ vs' : Array Value, LRel m vs vs'.toList ∧ ∀ W : World, W.heap = w.heap → (Builtin.firstCells size k x').run P W = .ok vs' W := by
  unfold firstT at hr
  split at hr
  · next b o n cap =>
    obtain ⟨hb, e1⟩ := run_whenT_inv hr
    rw [Nat.ble_eq] at hb
    cases hx with
    | @sl _ _ i _ _ cap' hi hcap hl =>
      obtain ⟨rfl, rfl, hlen, _, _, vs', hv, hk⟩ := loadN_sim hs e1 hi
      refine ⟨rfl, rfl, hlen, vs'.toArray, by simpa using hv, fun W hW => ?_⟩
      simp only [Builtin.firstCells]
      exact run_loadCells_of (w := W) (fun j v hj => by rw [cell_of_heap hW]; exact hk j v hj) (hv.length.trans hlen)
    | slEnd a a' =>
      have h0 : k = 0 := by omega
      subst h0
      obtain ⟨bi, c1, h1, lg1, e2, e3⟩ := run_bind_inv e1
      obtain ⟨_, _, rfl, rfl⟩ := run_blkAt_inv e2
      obtain ⟨_, e4⟩ := run_whenT_inv e3
      rw [show Nat.mul 0 size = 0 from Nat.zero_mul _] at e4
      obtain ⟨hl, _, rfl, rfl⟩ := run_getVals_inv e4
      have : vs = [] := List.length_eq_zero_iff.1 hl
      subst this
      refine ⟨rfl, rfl, by simp, #[], .nil, fun W _ => ?_⟩
      simp only [Builtin.firstCells, Nat.zero_mul]
      rfl
  · next n cap =>
    obtain ⟨hb, e1⟩ := run_whenT_inv hr
    rw [Nat.beq_eq] at hb
    subst hb
    obtain ⟨rfl, rfl, rfl, _⟩ := run_ret_inv e1
    cases hx
    exact ⟨rfl, rfl, by simp, #[], .nil, fun W _ => rfl⟩
  · next s =>
    obtain ⟨hb, e1⟩ := run_whenT_inv hr
    simp only [Bool.and_eq_true, Nat.beq_eq, Nat.ble_eq] at hb
    obtain ⟨rfl, rfl, rfl, _⟩ := run_ret_inv e1
    cases hx
    refine ⟨rfl, rfl, by rw [hb.1, List.length_map, List.length_take]; have := hb.2; omega, (s.extract 0 k).data.map fun b => .int .u8 b.toNat, ?_, fun W _ => rfl⟩
    have e : ((s.extract 0 k).data.map fun b => Value.int .u8 (b.toNat : Int)).toList = (s.data.toList.take k).map fun b => Value.int .u8 (.ofNat b.toNat) := by
      simp [ByteArray.data_extract, List.extract]
    rw [e]
    clear e e1 hr hb
    generalize s.data.toList.take k = l
    induction l with
    | nil => exact .nil
    | cons a l ih => exact .cons (.int _ _) ih
  · cases hr
theorem Sim.drew (hs : Sim m base h w) : Sim m base h w.drew := hs.heap_eq rfl
theorem Go1.drew (m : Inj) (base : Nat) (w : World) : Go1 m base w m w.drew := ⟨m.le_refl, fun _ _ h => .inl h, rfl, rfl, rfl, Nat.le_refl _, fun _ _ _ => rfl⟩
theorem lenOf_run {x : Value} {n : Nat} (hn : lenOf' x = some n) : (Builtin.lenOf x).run P w = .ok n w := by
  unfold lenOf' at hn; split at hn <;> simp at hn <;> subst hn <;> rfl
/-- The items of an append: a slice's or a string's, or zeros. -/
inductive Items (P : Program) (w : World) (argTypes : Array TypeId) (it : TypeInfo) (z x : Value) (n : Nat) (news : Array Value) : Prop where
  | plain (hx : ∀ t, argTypes[1]? = some t → ∃ d, P.underlying t = some d ∧ ∀ k, d ≠ .int k) (hn : lenOf' x = some n)
      (hf : ∀ W : World, W.heap = w.heap → (Builtin.firstCells it.size n x).run P W = .ok news W)
  | zeros (t : TypeId) (k kx : IntKind) (ht : argTypes[1]? = some t) (hu : P.underlying t = some (.int k)) (hx : x = .int kx (.ofNat n)) (hn : n ≤ 1099511627776)
      (hf : news = if n * it.size = 0 then #[] else Builtin.zeroCells z.cells n)
theorem conc_in {argTypes : Array TypeId} {st e ty : TypeId} {it : TypeInfo} {z : Value} {b : Option Addr} {len cap n : Nat} {x : Value} {news : Array Value} (hst : argTypes[0]? = some st) (hu : P.underlying st = some (.slice e)) (hi : P.info? e = some it) (hz : it.zero = some z)
    (hI : Items P w argTypes it z x n news) (hle : len + n ≤ cap) (hb : (len + n) * it.bytes ≤ 1099511627776) :
    (Builtin.append_ argTypes ty #[.slice b len cap, x]).run P w = match b with
      | some a => ((storeCells (a.add (len * it.size)) news.toList).run P w).andThen fun _ w' => .ok (.slice b (len + n) cap) w'
      | none => .ok (.slice b (len + n) cap) w := by
  cases hI with
  | plain hx hn hf =>
    have hl := lenOf_run (P := P) (w := w) hn
    have hf := hf w rfl
    cases h1 : argTypes[1]? with
    | none => cases b <;> simp [Builtin.append_, hst, h1, run_underlying hu, sizeOf, typeInfo, hi, hl, hle, hf]
    | some t =>
      obtain ⟨d, hd, hk⟩ := hx t h1
      cases b <;> simp [Builtin.append_, hst, h1, run_underlying hu, run_underlying hd, sizeOf, typeInfo, hi, hl, hle, hf]
  | zeros t k kx ht hut hx hn hf =>
    subst hx
    have hw : IntKind.i64.wrap (n : Int) = (n : Int) := by rw [wrap_i64]; split <;> omega
    have h1 : ¬ ((n : Int) < 0) := by omega
    have h2 : ¬ ((281474976710656 : Int) < (n : Int) * (it.bytes : Int)) := by
      have : n * it.bytes ≤ (len + n) * it.bytes := Nat.mul_le_mul_right _ (by omega)
      have e : (n : Int) * (it.bytes : Int) = ((n * it.bytes : Nat) : Int) := by rw [Int.natCast_mul]
      rw [e]; omega
    subst hf
    by_cases h0 : n * it.size = 0
    · cases b <;> simp [Builtin.append_, hst, ht, run_underlying hu, run_underlying hut, sizeOf, typeInfo, hi, asInt, asIntOf, hw, h1, h2, hle, h0]
    · cases b <;> simp [Builtin.append_, hst, ht, run_underlying hu, run_underlying hut, sizeOf, typeInfo, zeroValue, hi, hz, asInt, asIntOf, hw, h1, h2, hle, h0]
theorem conc_grow {argTypes : Array TypeId} {st e ty : TypeId} {it : TypeInfo} {z : Value} {b : Option Addr} {len cap n : Nat} {x : Value} {olds news : Array Value} (hst : argTypes[0]? = some st) (hu : P.underlying st = some (.slice e)) (hi : P.info? e = some it) (hz : it.zero = some z)
    (hI : Items P w argTypes it z x n news) (hle : cap < len + n) (hb : (len + n) * it.bytes ≤ 1099511627776) (hb' : len + n ≤ 1099511627776)
    (ho : ∀ W : World, W.heap = w.heap → (Builtin.firstCells it.size len (.slice b len cap)).run P W = .ok olds W) :
    ∃ newCap, len + n ≤ newCap ∧ (Builtin.append_ argTypes ty #[.slice b len cap, x]).run P w =
      .ok (.slice (some ⟨w.heap.size, 0, none⟩) (len + n) newCap) (w.drew.alloc (.cells (olds ++ news ++ Builtin.zeroCells z.cells (newCap - (len + n))) e)) := by
  have hn' : ¬ (len + n ≤ cap) := by omega
  have h63' : ¬ (9223372036854775807 < ((len : Int) + (n : Int))) := by omega
  have h48' : ¬ (281474976710656 < Builtin.nextslicecap (len + n) cap * it.bytes) := by have := growslice_fits (bytes := it.bytes) hle (by omega); omega
  refine ⟨(Question.appendCap (len + n) cap e).cut (w.tape w.drawn (.appendCap (len + n) cap e)), Nat.le_add_right _ _, ?_⟩
  have ho' := ho w.drew rfl
  cases hI with
  | plain hx hn hf =>
    have hl := lenOf_run (P := P) (w := w) hn
    have hf := hf w.drew rfl
    cases h1 : argTypes[1]? with
    | none => simp [Builtin.append_, hst, h1, run_underlying hu, sizeOf, typeInfo, zeroValue, hi, hz, hl, hn', h63', h48', hf, ho', Question.forced, newRow]
    | some t =>
      obtain ⟨d, hd, hk⟩ := hx t h1
      simp [Builtin.append_, hst, h1, run_underlying hu, run_underlying hd, sizeOf, typeInfo, zeroValue, hi, hz, hl, hn', h63', h48', hf, ho', Question.forced, newRow]
  | zeros t k kx ht hut hx hn hf =>
    subst hx
    have hw : IntKind.i64.wrap (n : Int) = (n : Int) := by rw [wrap_i64]; split <;> omega
    have h1 : ¬ ((n : Int) < 0) := by omega
    have h2 : ¬ ((281474976710656 : Int) < (n : Int) * (it.bytes : Int)) := by
      have : n * it.bytes ≤ (len + n) * it.bytes := Nat.mul_le_mul_right _ (by omega)
      have e : (n : Int) * (it.bytes : Int) = ((n * it.bytes : Nat) : Int) := by rw [Int.natCast_mul]
      rw [e]; omega
    subst hf
    by_cases h0 : n * it.size = 0
    · simp [Builtin.append_, hst, ht, run_underlying hu, run_underlying hut, sizeOf, typeInfo, zeroValue, hi, hz, asInt, asIntOf, hw, h1, h2, hn', h0, h63', h48', ho', Question.forced, newRow]
    · simp [Builtin.append_, hst, ht, run_underlying hu, run_underlying hut, sizeOf, typeInfo, zeroValue, hi, hz, asInt, asIntOf, hw, h1, h2, hn', h0, h63', h48', ho', Question.forced, newRow]
end
end Go.Ab
