/- Which operations stand before which; any order that is drawn keeps to it. -/
import Derived.Test.YtfleloeadbdbcaaGreatAbS
namespace Go.Ab
open Go.RowKit

theorem fold_bits (acc : Array Nat) : ∀ (es : List Edge) (s k : Nat), Nat.testBit (es.foldl (fun s e => if Region.binds .any e then s ||| 2 ^ e.on ||| acc.getD e.on 0 else s) s) k = true →
    Nat.testBit s k = true ∨ ∃ e ∈ es, Region.binds .any e = true ∧ (k = e.on ∨ Nat.testBit (acc.getD e.on 0) k = true)
  | [], s, k, h => .inl h
  | e :: es, s, k, h => by
    rw [List.foldl_cons] at h
    rcases fold_bits acc es _ k h with h1 | ⟨e', he', h1⟩
    · by_cases hb : Region.binds .any e = true
      · rw [if_pos hb, Nat.testBit_or, Nat.testBit_or, Bool.or_eq_true, Bool.or_eq_true] at h1
        rcases h1 with (h1 | h1) | h1
        · exact .inl h1
        · rw [Nat.testBit_two_pow] at h1
          exact .inr ⟨e, List.mem_cons_self, hb, .inl (by have := of_decide_eq_true h1; exact this.symm)⟩
        · exact .inr ⟨e, List.mem_cons_self, hb, .inr h1⟩
      · rw [if_neg hb] at h1; exact .inl h1
    · exact .inr ⟨e', List.mem_cons_of_mem _ he', h1⟩
def bef1 (acc : Array Nat) (o : Oper) : Nat := o.after.foldl (fun s e => if Region.binds .any e then s ||| 2 ^ e.on ||| acc.getD e.on 0 else s) 0
theorem bef_list : ∀ (l : List Oper) (acc : Array Nat), let r := l.foldl (fun acc o => acc.push (bef1 acc o)) acc
    r.size = acc.size + l.length ∧ (∀ i, i < acc.size → r[i]? = acc[i]?) ∧ ∀ (k : Nat) (o : Oper), l[k]? = some o → ∃ p : Array Nat, p.size = acc.size + k ∧ (∀ i, i < p.size → p[i]? = r[i]?) ∧ r[acc.size + k]? = some (bef1 p o)
  | [], acc => ⟨rfl, fun _ _ => rfl, by simp⟩
  | o :: l, acc => by
    obtain ⟨h1, h2, h3⟩ := bef_list l (acc.push (bef1 acc o))
    simp only [List.foldl_cons] at h1 h2 h3 ⊢
    refine ⟨by rw [h1]; simp; omega, fun i hi => ?_, fun k ok hk => ?_⟩
    · rw [h2 i (by simp; omega), Array.getElem?_push, if_neg (by omega)]
    · cases k with
      | zero =>
        simp at hk; subst hk
        refine ⟨acc, rfl, fun i hi => ?_, ?_⟩
        · rw [h2 i (by simp; omega), Array.getElem?_push, if_neg (by omega)]
        · rw [Nat.add_zero, h2 _ (by simp), Array.getElem?_push, if_pos rfl]
      | succ k =>
        obtain ⟨p, q1, q2, q3⟩ := h3 k ok (by simpa using hk)
        refine ⟨p, by rw [q1]; simp; omega, q2, ?_⟩
        rw [show acc.size + (k + 1) = (acc.push (bef1 acc o)).size + k by simp; omega]; exact q3
theorem before_spec (ops : Array Oper) {i : Nat} {o : Oper} (ho : ops[i]? = some o) {k : Nat} (hk : Nat.testBit (((Region.before ops).toList[i]?).getD 0) k = true) :
    ∃ e ∈ o.after, Region.binds .any e = true ∧ (k = e.on ∨ Nat.testBit (((Region.before ops).toList[e.on]?).getD 0) k = true) := by
  have hb : Region.before ops = ops.toList.foldl (fun acc o => acc.push (bef1 acc o)) #[] := by
    unfold Region.before; rw [← Array.foldl_toList]; rfl
  obtain ⟨h1, _, h3⟩ := bef_list ops.toList #[]
  rw [← hb] at h1 h3
  obtain ⟨p, q1, q2, q3⟩ := h3 i o (by simpa using ho)
  simp only [List.size_toArray, List.length_nil, Nat.zero_add] at q1 q3
  rw [show (Region.before ops).toList[i]? = (Region.before ops)[i]? by simp, q3] at hk
  simp only [Option.getD_some, bef1] at hk
  rw [← Array.foldl_toList] at hk
  rcases fold_bits p o.after.toList 0 k hk with h | ⟨e, he, hbd, h⟩
  · simp at h
  · refine ⟨e, Array.mem_toList_iff.1 he, hbd, h.imp id fun h => ?_⟩
    by_cases hlt : e.on < p.size
    · have := q2 e.on hlt
      rw [show (Region.before ops).toList[e.on]? = (Region.before ops)[e.on]? by simp, ← this]
      simpa [hlt] using h
    · simp [hlt] at h
/-- What has come up holds all that stands before any of it. -/
def Closed (ops : Array Oper) (listed : Array Bool) : Prop := ∀ i k, listed.getD i false = true → Nat.testBit (((Region.before ops).toList[i]?).getD 0) k = true → listed.getD k false = true
theorem Closed.ready {ops : Array Oper} {listed : Array Bool} (hc : Closed ops listed) {i : Nat} (hi : i ∈ Region.ready .any ops listed) : ∀ k, Nat.testBit (((Region.before ops).toList[i]?).getD 0) k = true → listed.getD k false = true := by
  intro k hk
  obtain ⟨_, o, ho, hall⟩ := mem_ready.1 hi
  obtain ⟨e, he, hb, h⟩ := before_spec ops ho hk
  have hl := hall e he hb
  rcases h with rfl | h
  · exact hl
  · exact hc _ _ hl h
theorem getD_set (listed : Array Bool) (i j : Nat) : (listed.setIfInBounds i true).getD j false = true ↔ listed.getD j false = true ∨ (j = i ∧ i < listed.size) := by
  by_cases hij : i = j
  · subst hij
    by_cases hlt : i < listed.size <;> simp [hlt]
  · rw [getD_set_ne false hij]; simp [Ne.symm hij]
theorem Closed.step {ops : Array Oper} {listed : Array Bool} (hc : Closed ops listed) {i : Nat} (hi : i ∈ Region.ready .any ops listed) : Closed ops (listed.setIfInBounds i true) := by
  intro j k hj hk
  rw [getD_set] at hj ⊢
  rcases hj with hj | ⟨rfl, _⟩
  · exact .inl (hc j k hj hk)
  · exact .inl (hc.ready hi k hk)
end Go.Ab
