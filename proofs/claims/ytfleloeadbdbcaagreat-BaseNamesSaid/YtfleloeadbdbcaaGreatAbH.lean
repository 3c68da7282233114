/- Operations that read, build and move values, simulated. -/
import Derived.Test.YtfleloeadbdbcaaGreatAbG2
import Derived.Laws.Cells
namespace Go.Ab
open Go.RowKit
variable {P : Program} {m : Inj} {base : Nat} {h : Heap} {w : World}

theorem pureRun_run {α : Type} (P : Program) : ∀ (s : Sem α) (a : α), pureRun P s = some a → ∀ w, s.run P w = .ok a w := by
  intro s
  induction s with
  | pure a => intro b h w; simp only [pureRun, Option.some.injEq] at h; subst h; rfl
  | program k ih => intro b h w; simp only [pureRun] at h; simp only [Sem.run]; exact ih _ _ h w
  | mark x k ih => intro b h w; simp only [pureRun] at h; simp only [Sem.run]; exact ih _ h w
  | _ => intro b h w; simp [pureRun] at h
theorem run_underlying {t : TypeId} {d : TypeDesc} (ht : P.underlying t = some d) : (underlying t).run P w = .ok d w := by
  simp [Go.underlying, ht]
theorem run_typeInfo {t : TypeId} {i : TypeInfo} (ht : P.info? t = some i) : (typeInfo t).run P w = .ok i w := by
  simp [typeInfo, ht]
theorem szOf_some {t : TypeId} {k : Nat} (ht : szOf P t = some k) : ∃ i, P.info? t = some i ∧ i.size = k := by
  unfold szOf at ht; cases hi : P.info? t with
  | none => rw [hi] at ht; cases ht
  | some i => rw [hi] at ht; injection ht with ht; exact ⟨i, rfl, ht⟩
theorem bytesOf_some {t : TypeId} {k : Nat} (ht : bytesOf' P t = some k) : ∃ i, P.info? t = some i ∧ i.bytes = k := by
  unfold bytesOf' at ht; cases hi : P.info? t with
  | none => rw [hi] at ht; cases ht
  | some i => rw [hi] at ht; injection ht with ht; exact ⟨i, rfl, ht⟩
theorem zeroOf_some {t : TypeId} {z : Value} (ht : zeroOf P t = some z) : (∃ i, P.info? t = some i ∧ i.zero = some z) ∧ flat z = true := by
  unfold zeroOf at ht; cases hi : P.info? t with
  | none => rw [hi] at ht; cases ht
  | some i =>
    rw [hi] at ht
    simp only [Option.bind_some] at ht
    cases hz : i.zero with
    | none => rw [hz] at ht; cases ht
    | some z' =>
      rw [hz] at ht
      simp only at ht
      cases hf : flat z' with
      | false => rw [hf] at ht; cases ht
      | true => rw [hf] at ht; injection ht with ht; subst ht; exact ⟨⟨i, rfl, hz⟩, hf⟩
theorem run_sizeOf {t : TypeId} {k : Nat} (ht : szOf P t = some k) : (sizeOf t).run P w = .ok k w := by
  obtain ⟨i, h1, h2⟩ := szOf_some ht
  simp [sizeOf, run_typeInfo h1, h2]
theorem run_zeroValue {t : TypeId} {z : Value} (ht : zeroOf P t = some z) : (zeroValue t).run P w = .ok z w := by
  obtain ⟨⟨i, h1, h2⟩, _⟩ := zeroOf_some ht
  simp [zeroValue, run_typeInfo h1, h2]
theorem isAgg_some {t : TypeId} {g : Bool} (ht : isAgg' P t = some g) : ∃ d, P.underlying t = some d ∧ (g = true ↔ (∃ f, d = .struct f) ∨ ∃ n e, d = .array n e) := by
  unfold isAgg' at ht
  cases hu : P.underlying t with
  | none => rw [hu] at ht; cases ht
  | some d =>
    rw [hu] at ht
    refine ⟨d, rfl, ?_⟩
    cases d <;> simp at ht <;> subst ht <;> simp
theorem run_isAgg {t : TypeId} {g : Bool} (ht : isAgg' P t = some g) : (isAgg t).run P w = .ok g w := by
  obtain ⟨d, h1, h2⟩ := isAgg_some ht
  unfold isAgg
  simp only [Sem.run_bind, run_underlying h1, Result.andThen_ok]
  cases d <;> simp at h2 <;> subst h2 <;> rfl
theorem elemOfSlice_some {t e : TypeId} (ht : elemOfSlice P t = some e) : P.underlying t = some (.slice e) := by
  unfold elemOfSlice at ht
  cases hu : P.underlying t with
  | none => rw [hu] at ht; cases ht
  | some d => rw [hu] at ht; cases d <;> simp at ht; subst ht; rfl
theorem cellsL_eq (v : Value) : cellsL v = v.cells.toList := by cases v <;> rfl
theorem run_load1_inv {b o : Nat} {v : Value} {c : Nat} {lg : Log} {c2 : Nat} {h2 : Heap} {lg2 : Log} (hr : run (load1 b o) c h lg = .ok v c2 h2 lg2) :
    ∃ bi, h.at (b, 0) = some (.blk bi) ∧ bi.st ≠ .dead ∧ o < bi.size ∧ h.at (b, o + 1) = some (.val v) ∧ c = c2 ∧ h = h2 := by
  obtain ⟨bi, c1, h1, lg1, e1, e2⟩ := run_bind_inv hr
  obtain ⟨hb, hd, rfl, rfl⟩ := run_blkAt_inv e1
  obtain ⟨ho, e3⟩ := run_whenT_inv e2
  obtain ⟨hv, rfl, rfl⟩ := run_getVal_inv e3
  exact ⟨bi, hb, hd, Nat.le_of_ble_eq_true ho, hv, rfl, rfl⟩
theorem load1_sim (hs : Sim m base h w) {b o : Nat} {v : Value} {c : Nat} {lg : Log} {c2 : Nat} {h2 : Heap} {lg2 : Log} (hr : run (load1 b o) c h lg = .ok v c2 h2 lg2) {i : Img} (hi : m b = some i) :
    c = c2 ∧ h = h2 ∧ ∃ v', w.cell? ⟨i.blk, o + i.del, none⟩ = some v' ∧ VRel m v v' := by
  obtain ⟨bi, hb, hd, ho, hv, rfl, rfl⟩ := run_load1_inv hr
  obtain ⟨i', v', h1, h2, h3⟩ := hs.load hb hd ho hv
  rw [hi] at h1; injection h1 with h1; subst h1
  exact ⟨rfl, rfl, v', h2, h3⟩
theorem loadN_sim (hs : Sim m base h w) {b o k : Nat} {vs : List Value} {c : Nat} {lg : Log} {c2 : Nat} {h2 : Heap} {lg2 : Log} (hr : run (loadN b o k) c h lg = .ok vs c2 h2 lg2) {i : Img} (hi : m b = some i) :
    c = c2 ∧ h = h2 ∧ vs.length = k ∧ (∃ bi, h.at (b, 0) = some (.blk bi) ∧ bi.st ≠ .dead ∧ o + k ≤ bi.size) ∧ (∀ (j : Nat) (v : Value), vs[j]? = some v → h.at (b, o + j + 1) = some (.val v)) ∧
      ∃ vs', LRel m vs vs' ∧ ∀ (j : Nat) (v : Value), vs'[j]? = some v → w.cell? ⟨i.blk, o + i.del + j, none⟩ = some v := by
  obtain ⟨bi, c1, h1, lg1, e1, e2⟩ := run_bind_inv hr
  obtain ⟨hb, hd, rfl, rfl⟩ := run_blkAt_inv e1
  obtain ⟨ho, e3⟩ := run_whenT_inv e2
  have ho : o + k ≤ bi.size := Nat.le_of_ble_eq_true ho
  obtain ⟨hl, hg, rfl, rfl⟩ := run_getVals_inv e3
  refine ⟨rfl, rfl, hl, ⟨bi, hb, hd, ho⟩, hg, ?_⟩
  have key : ∀ j v, vs[j]? = some v → ∃ v', w.cell? ⟨i.blk, o + i.del + j, none⟩ = some v' ∧ VRel m v v' := fun j v hj => by
    have hjl : j < vs.length := by
      rcases Nat.lt_or_ge j vs.length with q | q
      · exact q
      · rw [List.getElem?_eq_none q] at hj; cases hj
    obtain ⟨i', v', h1, h2, h3⟩ := hs.load hb hd (o := o + j) (by omega) (hg j v hj)
    rw [hi] at h1; injection h1 with h1; subst h1
    exact ⟨v', by rw [show o + i.del + j = o + j + i.del by omega]; exact h2, h3⟩
  refine ⟨(List.range vs.length).map fun j => (w.cell? ⟨i.blk, o + i.del + j, none⟩).getD undef, LRel.of_get _ _ (by simp) fun j v hj => ?_, fun j v hj => ?_⟩
  · have hjl : j < vs.length := by
      rcases Nat.lt_or_ge j vs.length with q | q
      · exact q
      · rw [List.getElem?_eq_none q] at hj; cases hj
    obtain ⟨v', h1, h2⟩ := key j v hj
    exact ⟨v', by simp [hjl, h1], h2⟩
  · have hjl : j < vs.length := by
      rcases Nat.lt_or_ge j vs.length with q | q
      · exact q
      · rw [List.getElem?_eq_none (by simpa using q)] at hj; cases hj
    obtain ⟨v', h1, h2⟩ := key j vs[j] (by simp [hjl])
    simp [hjl, h1] at hj
    rw [← hj]; exact h1
theorem add_at (b o j : Nat) : (⟨b, o, none⟩ : Addr).add j = ⟨b, o + j, none⟩ := by
  unfold Addr.add; split
  · next e => subst e; rfl
  · rfl
theorem run_loadCells_of {b o : Nat} {vs' : List Value} (hk : ∀ (j : Nat) (v : Value), vs'[j]? = some v → w.cell? ⟨b, o + j, none⟩ = some v) {k : Nat} (hl : vs'.length = k) : (loadCells ⟨b, o, none⟩ k).run P w = .ok vs'.toArray w := by
  subst hl
  exact run_loadCells_list w _ vs' fun j v hj => by rw [add_at]; exact hk j v hj
theorem run_load_of {a : Addr} {v : Value} (hv : w.cell? a = some v) : (load a).run P w = .ok v w := by simp [hv]
theorem loadVar_sim (hs : Sim m base h w) {t b o : Nat} {v : Value} {c : Nat} {lg : Log} {c2 : Nat} {h2 : Heap} {lg2 : Log} (hr : run (loadVarT P t b o) c h lg = .ok v c2 h2 lg2) {i : Img} (hi : m b = some i) :
    c = c2 ∧ h = h2 ∧ ∃ v', (loadVar t ⟨i.blk, o + i.del, none⟩).run P w = .ok v' w ∧ VRel m v v' := by
  unfold loadVarT at hr
  cases hg : isAgg' P t with
  | none => rw [hg] at hr; cases hr
  | some g =>
    rw [hg] at hr
    unfold loadVar
    simp only [Sem.run_bind, run_isAgg hg, Result.andThen_ok]
    cases g with
    | false =>
      obtain ⟨rfl, rfl, v', h1, h2⟩ := load1_sim hs hr hi
      exact ⟨rfl, rfl, v', by simpa using run_load_of h1, h2⟩
    | true =>
      simp only at hr
      cases hz : szOf P t with
      | none => rw [hz] at hr; cases hr
      | some k =>
        rw [hz] at hr
        obtain ⟨vs, c1, h1, lg1, e1, e2⟩ := run_bind_inv hr
        obtain ⟨rfl, rfl, hl, _, _, vs', hv, hk⟩ := loadN_sim hs e1 hi
        obtain ⟨rfl, rfl, rfl, _⟩ := run_ret_inv e2
        refine ⟨rfl, rfl, .agg vs'.toArray, ?_, .agg (by simpa using hv)⟩
        simp [run_sizeOf hz, run_loadCells_of hk (hv.length.trans hl)]
end Go.Ab
