/- A map of the call's own, told as a function from keys to values. -/
import Derived.Test.YtkippapoicdlhaaBase
import Derived.MapKept
import Derived.Maps.OwnOps
namespace Go.Proofs.Ytkippapoicdlhaa.G
open Go.RowKit Go.Shelf Go.MapKept Go.Proofs.YtkippapoicdlhaaW.PrintWords
set_option linter.unusedVariables false
set_option linter.unusedSimpArgs false

/-- Block b is a map (keys of kind d) that holds just what f tells. -/
def MapF (d : TypeDesc) (w : World) (b : Nat) (f : Value → Option Value) : Prop :=
  ∃ es clock, w.heap[b]? = some (.map es clock) ∧ Stamped es clock ∧ (∀ x ∈ es.toList, IsKey d x.key) ∧ ∀ k v, f k = some v ↔ ∃ x ∈ es.toList, x.key = k ∧ x.val = v
/-- .. and the entry at key k has the stamp st. -/
def MapE (d : TypeDesc) (w : World) (b : Nat) (f : Value → Option Value) (k : Value) (st : Int) : Prop :=
  ∃ es clock, w.heap[b]? = some (.map es clock) ∧ Stamped es clock ∧ (∀ x ∈ es.toList, IsKey d x.key) ∧ (∀ k v, f k = some v ↔ ∃ x ∈ es.toList, x.key = k ∧ x.val = v) ∧ ∃ x ∈ es.toList, x.key = k ∧ (x.born : Int) = st
open Classical in
noncomputable def updF (f : Value → Option Value) (k v : Value) : Value → Option Value := fun x => if x = k then some v else f x
theorem updF_same (f : Value → Option Value) (k v : Value) : updF f k v k = some v := by simp [updF]
theorem updF_other {f : Value → Option Value} {k v x : Value} (h : x ≠ k) : updF f k v x = f x := by simp [updF, h]

theorem isKey_int (k : IntKind) (x : Int) : IsKey (.int k) (.int k x) := rfl
theorem isKey_str (s : ByteArray) : IsKey .string (.string s) := trivial
theorem MapF.new (d : TypeDesc) (w : World) : MapF d (w.alloc (.map #[] 0)) w.heap.size (fun _ => none) :=
  ⟨#[], 0, (heap_alloc w _).1, stamped_empty 0, by simp, by simp⟩
theorem MapF.lt {d : TypeDesc} {w : World} {b : Nat} {f : Value → Option Value} (h : MapF d w b f) : b < w.heap.size := by
  obtain ⟨es, clock, hb, _⟩ := h
  exact (Array.getElem?_eq_some_iff.1 hb).1
theorem MapF.move {d : TypeDesc} {w w' : World} {b : Nat} {f : Value → Option Value} (h : MapF d w b f) (hh : w'.heap[b]? = w.heap[b]?) : MapF d w' b f := by
  obtain ⟨es, clock, hb, r⟩ := h
  exact ⟨es, clock, hh.trans hb, r⟩
theorem MapF.below {d : TypeDesc} {w w' : World} {b : Nat} {f : Value → Option Value} (h : MapF d w b f) (hb : Below w.heap.size w w') : MapF d w' b f := h.move (hb.block b h.lt)
theorem MapF.grown {d : TypeDesc} {w w' : World} {b : Nat} {f : Value → Option Value} {row : Option Nat} (h : MapF d w b f) (hg : w.grownBy w' row) (hne : some b ≠ row) : MapF d w' b f := h.move (hg.block b h.lt hne)
/-- It is no row of cells. -/
theorem MapF.notCells {d : TypeDesc} {w : World} {b : Nat} {f : Value → Option Value} (h : MapF d w b f) : ∃ o : Obj, w.heap[b]? = some o ∧ o.isCells = false := by
  obtain ⟨es, clock, hb, _⟩ := h
  exact ⟨_, hb, rfl⟩

/-- What is found at a key. -/
theorem find_F {d : TypeDesc} {es : Array MapEntry} {clock : Nat} {f : Value → Option Value} (hs : Stamped es clock) (hks : ∀ x ∈ es.toList, IsKey d x.key) (hf : ∀ k v, f k = some v ↔ ∃ x ∈ es.toList, x.key = k ∧ x.val = v) {k : Value} (hk : IsKey d k) :
    (Instr.findNow d k es.toList 0 = some none ∧ f k = none ∧ ∀ x ∈ es.toList, x.key ≠ k) ∨ ∃ j e, Instr.findNow d k es.toList 0 = some (some (j, e.val)) ∧ es[j]? = some e ∧ e.key = k ∧ f k = some e.val := by
  rcases findNow_spec hk es.toList 0 hks with ⟨h1, h2⟩ | ⟨j, e, h1, h2, h3⟩
  · refine .inl ⟨h1, ?_, h2⟩
    cases hv : f k with
    | none => rfl
    | some v =>
      obtain ⟨x, hx, hxk, _⟩ := (hf k v).1 hv
      exact absurd hxk (h2 x hx)
  · have hj : es[j]? = some e := by simpa using h2
    exact .inr ⟨j, e, by simpa using h1, hj, h3, (hf k e.val).2 ⟨e, Array.mem_toList_iff.2 (Array.mem_of_getElem? hj), h3, rfl⟩⟩
theorem nodup_inj {α : Type} {l : List α} (h : l.Nodup) {i j : Nat} {x : α} (hi : l[i]? = some x) (hj : l[j]? = some x) : i = j := by
  obtain ⟨l1, e1⟩ := List.getElem?_eq_some_iff.1 hi
  obtain ⟨l2, e2⟩ := List.getElem?_eq_some_iff.1 hj
  have hp := List.pairwise_iff_getElem.1 h
  rcases Nat.lt_trichotomy i j with h1 | h1 | h1
  · exact absurd (e1.trans e2.symm) (hp i j l1 l2 h1)
  · exact h1
  · exact absurd (e2.trans e1.symm) (hp j i l2 l1 h1)
/-- One key, one entry. -/
theorem one_key {es : Array MapEntry} {clock : Nat} (hs : Stamped es clock) {i j : Nat} {x y : MapEntry} (hi : es[i]? = some x) (hj : es[j]? = some y) (h : x.key = y.key) : i = j := by
  have hn := hs.2.2
  have h1 : (es.toList.map (·.key))[i]? = some x.key := by simp [hi]
  have h2 : (es.toList.map (·.key))[j]? = some x.key := by simp [hj, h]
  exact nodup_inj hn h1 h2
theorem mem_modify {es : Array MapEntry} {j : Nat} {g : MapEntry → MapEntry} {x : MapEntry} : x ∈ (es.modify j g).toList ↔ ∃ i y, es[i]? = some y ∧ x = (if j = i then g y else y) := by
  rw [Array.mem_toList_iff, Array.mem_iff_getElem?]
  constructor
  · rintro ⟨i, hi⟩
    rw [Array.getElem?_modify] at hi
    by_cases hij : j = i
    · subst hij
      rw [if_pos rfl] at hi
      obtain ⟨y, hy, rfl⟩ := Option.map_eq_some_iff.1 hi
      exact ⟨j, y, hy, by simp⟩
    · rw [if_neg hij] at hi
      exact ⟨i, x, hi, by simp [hij]⟩
  · rintro ⟨i, y, hy, rfl⟩
    refine ⟨i, ?_⟩
    rw [Array.getElem?_modify]
    by_cases hij : j = i
    · subst hij; simp [hy]
    · simp [hij, hy]
theorem upd_modify {d : TypeDesc} {es : Array MapEntry} {clock : Nat} {f : Value → Option Value} (hs : Stamped es clock) (hf : ∀ k v, f k = some v ↔ ∃ x ∈ es.toList, x.key = k ∧ x.val = v) {j : Nat} {e : MapEntry} (hj : es[j]? = some e) (g : MapEntry → MapEntry) (hgk : (g e).key = e.key) :
    ∀ k v, updF f e.key (g e).val k = some v ↔ ∃ x ∈ (es.modify j g).toList, x.key = k ∧ x.val = v := by
  intro k v
  by_cases hk : k = e.key
  · subst hk
    rw [updF_same]
    constructor
    · intro h
      cases h
      exact ⟨g e, mem_modify.2 ⟨j, e, hj, by simp⟩, hgk, rfl⟩
    · rintro ⟨x, hx, hxk, rfl⟩
      obtain ⟨i, y, hy, rfl⟩ := mem_modify.1 hx
      by_cases hij : j = i
      · subst hij
        rw [hj] at hy
        cases hy
        simp
      · rw [if_neg hij] at hxk
        exact absurd (one_key hs hj hy hxk.symm) hij
  · rw [updF_other hk, hf]
    constructor
    · rintro ⟨x, hx, hxk, rfl⟩
      obtain ⟨i, hi⟩ := Array.mem_iff_getElem?.1 (Array.mem_toList_iff.1 hx)
      have hij : j ≠ i := by
        rintro rfl
        rw [hj] at hi
        cases hi
        exact hk hxk.symm
      exact ⟨x, mem_modify.2 ⟨i, x, hi, by simp [hij]⟩, hxk, rfl⟩
    · rintro ⟨x, hx, hxk, rfl⟩
      obtain ⟨i, y, hy, rfl⟩ := mem_modify.1 hx
      by_cases hij : j = i
      · subst hij
        rw [hj] at hy
        cases hy
        rw [if_pos rfl] at hxk
        exact absurd (hxk.symm.trans hgk) hk
      · rw [if_neg hij] at hxk ⊢
        exact ⟨y, Array.mem_toList_iff.2 (Array.mem_iff_getElem?.2 ⟨i, hy⟩), hxk, rfl⟩
theorem upd_push {es : Array MapEntry} {f : Value → Option Value} (hf : ∀ k v, f k = some v ↔ ∃ x ∈ es.toList, x.key = k ∧ x.val = v) {key val : Value} {born : Nat} (hn : ∀ x ∈ es.toList, x.key ≠ key) :
    ∀ k v, updF f key val k = some v ↔ ∃ x ∈ (es.push { key, val, born }).toList, x.key = k ∧ x.val = v := by
  intro k v
  by_cases hk : k = key
  · subst hk
    rw [updF_same]
    constructor
    · intro h; cases h; exact ⟨{ key := k, val, born }, by simp, rfl, rfl⟩
    · rintro ⟨x, hx, hxk, rfl⟩
      simp only [Array.toList_push, List.mem_append, List.mem_singleton] at hx
      rcases hx with hx | rfl
      · exact absurd hxk (hn x hx)
      · rfl
  · rw [updF_other hk, hf]
    constructor
    · rintro ⟨x, hx, hxk, rfl⟩
      exact ⟨x, by simp [Array.mem_toList_iff.1 hx], hxk, rfl⟩
    · rintro ⟨x, hx, hxk, rfl⟩
      simp only [Array.toList_push, List.mem_append, List.mem_singleton] at hx
      rcases hx with hx | rfl
      · exact ⟨x, hx, hxk, rfl⟩
      · exact absurd hxk.symm hk

section
variable {P : Program} {w : World} {mty kt et : TypeId} {d : TypeDesc} {b : Nat} {f : Value → Option Value} {k : Value}
theorem grown_set {o : Obj} (hb : w.heap[b]? = some o) (o' : Obj) : w.grownBy { w with heap := w.heap.setIfInBounds b o' } (some b) :=
  ⟨rfl, rfl, rfl, by simp, fun i _ hi => (heap_set hb).2 i (fun e => hi (by rw [e]))⟩
theorem MapF.look (h : MapF d w b f) (hm : P.underlying mty = some (.map kt et)) (hd : P.underlying kt = some d) (hk : IsKey d k) {z : Value} (hz : (zeroValue et).run P w = .ok z w) (c : Bool) :
    (Instr.lookup mty (.map (some b)) k c).run P w = .ok (if c then .tuple #[(f k).getD z, .bool (f k).isSome] else (f k).getD z) w := by
  obtain ⟨es, clock, hb, hs, hks, hf⟩ := h
  have hchk : ∀ e : Bool, (Instr.checkKey e 10000 kt k).run P w = .ok () w := fun e => run_checkKey hd hk e 9999
  rcases find_F hs hks hf hk with ⟨h1, h2, _⟩ | ⟨j, e, h1, _, _, h2⟩
  · simp only [Instr.lookup, Sem.run_bind, run_underlying hm, MapKept.run_getObj_map hb, Sem.run_pure, Result.andThen_ok, hchk, run_findKey hd h1, hz, h2]
    rfl
  · simp only [Instr.lookup, Sem.run_bind, run_underlying hm, MapKept.run_getObj_map hb, Sem.run_pure, Result.andThen_ok, hchk, run_findKey hd h1, h2]
    rfl
theorem MapF.update (h : MapF d w b f) (hm : P.underlying mty = some (.map kt et)) (hd : P.underlying kt = some d) (hk : IsKey d k) (v : Value) :
    ∃ w', (Instr.mapUpdate mty (.map (some b)) k v).run P w = .ok () w' ∧ MapF d w' b (updF f k v) ∧ w.grownBy w' (some b) := by
  obtain ⟨es, clock, hb, hs, hks, hf⟩ := h
  rcases find_F hs hks hf hk with ⟨h1, h2, h3⟩ | ⟨j, e, h1, hj, h3, h2⟩
  · refine ⟨{ w with heap := w.heap.setIfInBounds b (.map (es.push { key := k, val := v, born := clock }) (clock + 1)) }, by simp [Instr.mapUpdate, run_underlying hm, MapKept.run_getObj_map hb, run_checkKey hd hk, run_findKey hd h1, run_setObj_map _ hb, Result.andThen], ⟨_, _, (heap_set hb).1, stamped_push hs h3, ?_, upd_push hf h3⟩, grown_set hb _⟩
    intro x hx
    simp only [Array.toList_push, List.mem_append, List.mem_singleton] at hx
    rcases hx with hx | rfl
    · exact hks x hx
    · exact hk
  · subst h3
    have hkey : ∀ e', es[j]? = some e' → ({ e' with key := e.key, val := v } : MapEntry).key = e'.key := fun e' he' => by rw [hj] at he'; cases he'; rfl
    exact ⟨{ w with heap := w.heap.setIfInBounds b (.map (es.modify j fun e' => { e' with key := e.key, val := v }) clock) }, by simp [Instr.mapUpdate, run_underlying hm, MapKept.run_getObj_map hb, run_checkKey hd hk, run_findKey hd h1, hj, run_keyThatStays hk, run_setObj_map _ hb, Result.andThen], ⟨_, _, (heap_set hb).1, stamped_modify hs _ _ (fun _ _ => rfl) (fun e' _ he' => hkey e' he'), isKey_modify hks _ _ hkey, upd_modify (d := d) hs hf hj (fun e' => { e' with key := e.key, val := v }) rfl⟩, grown_set hb _⟩
theorem MapF.entry (h : MapF d w b f) (hm : P.underlying mty = some (.map kt et)) (hd : P.underlying kt = some d) (hk : IsKey d k) {z : Value} (hz : (zeroValue et).run P w = .ok z w) :
    ∃ st w', (Instr.mapEntry mty (.map (some b)) k).run P w = .ok (.tuple #[(f k).getD z, .int .i64 st]) w' ∧ MapE d w' b (updF f k ((f k).getD z)) k st ∧ w.grownBy w' (some b) := by
  obtain ⟨es, clock, hb, hs, hks, hf⟩ := h
  rcases find_F hs hks hf hk with ⟨h1, h2, h3⟩ | ⟨j, e, h1, hj, h3, h2⟩
  · rw [h2]
    refine ⟨clock, { w with heap := w.heap.setIfInBounds b (.map (es.push { key := k, val := z, born := clock }) (clock + 1)) }, by simp [Instr.mapEntry, run_underlying hm, MapKept.run_getObj_map hb, run_checkKey hd hk, run_findKey hd h1, hz, run_setObj_map _ hb, Result.andThen, goInt], ⟨_, _, (heap_set hb).1, stamped_push hs h3, ?_, upd_push hf h3, ⟨{ key := k, val := z, born := clock }, by simp, rfl, rfl⟩⟩, grown_set hb _⟩
    intro x hx
    simp only [Array.toList_push, List.mem_append, List.mem_singleton] at hx
    rcases hx with hx | rfl
    · exact hks x hx
    · exact hk
  · subst h3
    rw [h2]
    have hkey : ∀ e', es[j]? = some e' → ({ e' with key := e.key } : MapEntry).key = e'.key := fun e' he' => by rw [hj] at he'; cases he'; rfl
    exact ⟨(e.born : Int), { w with heap := w.heap.setIfInBounds b (.map (es.modify j fun e' => { e' with key := e.key }) clock) }, by simp [Instr.mapEntry, run_underlying hm, MapKept.run_getObj_map hb, run_checkKey hd hk, run_findKey hd h1, hj, run_keyThatStays hk, run_setObj_map _ hb, Result.andThen, goInt], ⟨_, _, (heap_set hb).1, stamped_modify hs _ _ (fun _ _ => rfl) (fun e' _ he' => hkey e' he'), isKey_modify hks _ _ hkey, upd_modify (d := d) hs hf hj (fun e' => { e' with key := e.key }) rfl, ⟨{ e with key := e.key }, mem_modify.2 ⟨j, e, hj, by simp⟩, rfl, rfl⟩⟩, grown_set hb _⟩
theorem MapE.store {st : Int} (h : MapE d w b f k st) (v : Value) :
    ∃ w', (Instr.entryStore mty (.map (some b)) (.int .i64 st) v).run P w = .ok () w' ∧ MapF d w' b (updF f k v) ∧ w.grownBy w' (some b) := by
  obtain ⟨es, clock, hb, hs, hks, hf, x, hx, rfl, rfl⟩ := h
  obtain ⟨j, hj⟩ := Array.mem_iff_getElem?.1 (Array.mem_toList_iff.1 hx)
  have hfi : ∃ i, es.findIdx? (fun e => (e.born : Int) == (x.born : Int)) = some i := by
    cases hq : es.findIdx? (fun e => (e.born : Int) == (x.born : Int)) with
    | some i => exact ⟨i, rfl⟩
    | none =>
      rw [Array.findIdx?_eq_none_iff] at hq
      have := hq x (Array.mem_toList_iff.1 hx)
      simp at this
  obtain ⟨i, hi⟩ := hfi
  have hij : i = j := by
    rw [Array.findIdx?_eq_some_iff_getElem] at hi
    obtain ⟨hlt, hb1, _⟩ := hi
    have hn := hs.2.1
    have h1 : (es.toList.map (·.born))[i]? = some (es[i]).born := by simp [hlt]
    have h2 : (es.toList.map (·.born))[j]? = some (es[i]).born := by
      simp only [List.getElem?_map, Array.getElem?_toList, hj, Option.map_some]
      have : (es[i]).born = x.born := by have h3 : ((es[i]).born : Int) = (x.born : Int) := by simpa using hb1
                                         omega
      rw [this]
    exact nodup_inj hn h1 h2
  subst hij
  exact ⟨{ w with heap := w.heap.setIfInBounds b (.map (es.modify i fun e' => { e' with val := v }) clock) }, by simp [Instr.entryStore, MapKept.run_getObj_map hb, asInt, asIntOf, hi, run_setObj_map _ hb, Result.andThen], ⟨_, _, (heap_set hb).1, stamped_modify hs _ _ (fun _ _ => rfl) (fun _ _ _ => rfl), isKey_modify hks _ _ (fun _ _ => rfl), upd_modify (d := d) hs hf hj (fun e' => { e' with val := v }) rfl⟩, grown_set hb _⟩
theorem MapE.F {st : Int} (h : MapE d w b f k st) : MapF d w b f := by
  obtain ⟨es, clock, hb, hs, hks, hf, _⟩ := h
  exact ⟨es, clock, hb, hs, hks, hf⟩
theorem MapE.move {st : Int} {w' : World} (h : MapE d w b f k st) (hh : w'.heap[b]? = w.heap[b]?) : MapE d w' b f k st := by
  obtain ⟨es, clock, hb, r⟩ := h
  exact ⟨es, clock, hh.trans hb, r⟩
end

section
variable {P : Program} {w : World} {ops : Array Oper} {rest : List Oper} {o : Oper} {a : Act} {Q : Exit → Act → World → Prop} {mty kt et : TypeId} {d : TypeDesc} {b : Nat} {f : Value → Option Value}
theorem wpList_update_F (hg : o.guard = none) (m x v : Operand) (hop : o.op = Op.mapUpdate mty m x v) (hm : a.eval m = .map (some b)) (key val : Value) (hx : a.eval x = key) (hv : a.eval v = val)
    (ht : P.underlying mty = some (.map kt et)) (hd : P.underlying kt = some d) (hk : IsKey d key) (h : MapF d w b f)
    (hK : ∀ w', MapF d w' b (updF f key val) → w.grownBy w' (some b) → wpList P ops Q rest (a.put o.dst undef) w') : wpList P ops Q (o :: rest) a w := by
  refine wpList_plain hg fun K' hK' => ?_
  obtain ⟨w', hrun, r1, r2⟩ := h.update (mty := mty) ht hd hk val
  unfold Oper.wp
  simp [execOp, hop, hm, hx, hv, hrun, Result.andThen]
  exact hK' _ _ (hK w' r1 r2)
theorem wpList_entry_F (hg : o.guard = none) (m x : Operand) (hop : o.op = Op.mapEntry mty m x) (hm : a.eval m = .map (some b)) (key : Value) (hx : a.eval x = key)
    (ht : P.underlying mty = some (.map kt et)) (hd : P.underlying kt = some d) (hk : IsKey d key) (h : MapF d w b f) (z : Value) (hz : (zeroValue et).run P w = .ok z w)
    (hK : ∀ st w', MapE d w' b (updF f key ((f key).getD z)) key st → w.grownBy w' (some b) → wpList P ops Q rest (a.put o.dst (.tuple #[(f key).getD z, .int .i64 st])) w') : wpList P ops Q (o :: rest) a w := by
  refine wpList_plain hg fun K' hK' => ?_
  obtain ⟨st, w', hrun, r1, r2⟩ := h.entry (mty := mty) ht hd hk hz
  unfold Oper.wp
  simp [execOp, hop, hm, hx, hrun, Result.andThen]
  exact hK' _ _ (hK st w' r1 r2)
theorem wpList_store_F (hg : o.guard = none) (m s v : Operand) (hop : o.op = Op.entryStore mty m s v) (hm : a.eval m = .map (some b)) (key val : Value) (st : Int) (hs : a.eval s = .int .i64 st) (hv : a.eval v = val)
    (h : MapE d w b f key st)
    (hK : ∀ w', MapF d w' b (updF f key val) → w.grownBy w' (some b) → wpList P ops Q rest (a.put o.dst undef) w') : wpList P ops Q (o :: rest) a w := by
  refine wpList_plain hg fun K' hK' => ?_
  obtain ⟨w', hrun, r1, r2⟩ := h.store (P := P) (mty := mty) val
  unfold Oper.wp
  simp [execOp, hop, hm, hs, hv, hrun, Result.andThen]
  exact hK' _ _ (hK w' r1 r2)
theorem wpList_look_F (hg : o.guard = none) (m x : Operand) (c : Bool) (hop : o.op = Op.lookup mty m x c) (hm : a.eval m = .map (some b)) (key : Value) (hx : a.eval x = key)
    (ht : P.underlying mty = some (.map kt et)) (hd : P.underlying kt = some d) (hk : IsKey d key) (h : MapF d w b f) (z : Value) (hz : (zeroValue et).run P w = .ok z w)
    (hK : wpList P ops Q rest (a.put o.dst (if c then .tuple #[(f key).getD z, .bool (f key).isSome] else (f key).getD z)) w) : wpList P ops Q (o :: rest) a w := by
  refine wpList_plain hg fun K' hK' => ?_
  have hrun := h.look (mty := mty) ht hd hk hz c
  unfold Oper.wp
  simp only [execOp, hop, hm, hx, hrun, Result.andThen, Sem.run_bind, Sem.run_pure]
  exact hK' _ _ hK
/-- m[k], a value or the zero value. -/
theorem wpList_look0_F (hg : o.guard = none) (m x : Operand) (hop : o.op = Op.lookup mty m x false) (hm : a.eval m = .map (some b)) (key : Value) (hx : a.eval x = key)
    (ht : P.underlying mty = some (.map kt et)) (hd : P.underlying kt = some d) (hk : IsKey d key) (h : MapF d w b f) (z : Value) (hz : (zeroValue et).run P w = .ok z w) (val : Value) (hv : (f key).getD z = val)
    (hK : wpList P ops Q rest (a.put o.dst val) w) : wpList P ops Q (o :: rest) a w := by
  subst hv
  exact wpList_look_F hg m x false hop hm key hx ht hd hk h z hz hK
/-- m[k] at a key that is there. -/
theorem wpList_look1_F (hg : o.guard = none) (m x : Operand) (hop : o.op = Op.lookup mty m x false) (hm : a.eval m = .map (some b)) (key : Value) (hx : a.eval x = key)
    (ht : P.underlying mty = some (.map kt et)) (hd : P.underlying kt = some d) (hk : IsKey d key) (h : MapF d w b f) (val : Value) (hv : f key = some val)
    (hK : wpList P ops Q rest (a.put o.dst val) w) : wpList P ops Q (o :: rest) a w := by
  refine wpList_plain hg fun K' hK' => ?_
  obtain ⟨es, clock, hb, hs, hks, hf⟩ := h
  have hchk : ∀ e : Bool, (Instr.checkKey e 10000 kt key).run P w = .ok () w := fun e => run_checkKey hd hk e 9999
  rcases find_F hs hks hf hk with ⟨h1, h2, _⟩ | ⟨j, e, h1, _, _, h2⟩
  · rw [h2] at hv
    cases hv
  · rw [h2] at hv
    cases hv
    have hrun : (Instr.lookup mty (.map (some b)) key false).run P w = .ok e.val w := by
      simp only [Instr.lookup, Sem.run_bind, run_underlying ht, MapKept.run_getObj_map hb, Sem.run_pure, Result.andThen_ok, hchk, run_findKey hd h1]
      rfl
    unfold Oper.wp
    simp only [execOp, hop, hm, hx, hrun, Result.andThen, Sem.run_bind, Sem.run_pure]
    exact hK' _ _ hK
end

end Go.Proofs.Ytkippapoicdlhaa.G
