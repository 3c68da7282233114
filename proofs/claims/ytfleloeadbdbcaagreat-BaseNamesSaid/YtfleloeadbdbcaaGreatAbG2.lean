/- Objects that are no rows of cells: made and set, simulated. -/
import Derived.Test.YtfleloeadbdbcaaGreatAbG
namespace Go.Ab
open Go.RowKit
variable {P : Program} {m : Inj} {base : Nat} {h : Heap} {w : World}

theorem Sim.addObj (hs : Sim m base h w) {c : Nat} (hc : m c = none) {x : Cell} {o : Obj} (hx : x.isObj = true) (ho : ObjRel m x o) :
    Sim (upd m c ⟨w.heap.size, 0, 0, 0, 0⟩) base (h.put (c, 0) x) (w.alloc o) ∧ Go1 m base w (upd m c ⟨w.heap.size, 0, 0, 0, 0⟩) (w.alloc o) ∧ Names m (upd m c ⟨w.heap.size, 0, 0, 0, 0⟩) c (c + 1) := by
  have hle := upd_le hc ⟨w.heap.size, 0, 0, 0, 0⟩
  have hs1 := hs.alloc o
  have hat : ∀ n, (h.put (c, 0) x).at (n, 0) = if n = c then some x else h.at (n, 0) := fun n => by
    rw [Heap.at_put]; by_cases e : n = c <;> simp [e]
  have hat' : ∀ n k, (h.put (c, 0) x).at (n, k + 1) = h.at (n, k + 1) := fun n k => by
    rw [Heap.at_put, if_neg (by intro q; cases q)]
  refine ⟨⟨fun n b f1 f2 => ?_, fun n b n2 b2 i i2 f1 f2 f3 f4 f5 f6 f7 f8 => ?_, fun n y f1 hy => ?_, fun n y n2 y2 i i2 f1 q1 f2 q2 f3 f4 f5 => ?_, fun n i f1 => ?_, hs1.room⟩, Go1.alloc m base w _ hc _ (Nat.le_refl _), upd_names _ _ _⟩
  · rw [hat] at f1
    by_cases q : n = c
    · rw [if_pos q] at f1; injection f1 with f1; subst f1; cases hx
    · rw [if_neg q] at f1
      obtain ⟨i, C, t, fz, hk⟩ := hs1.lay n b f1 f2
      refine ⟨i, C, t, fz, hle _ _ hk.img, hk.size, hk.esz, hk.tot, hk.row, hk.fits, hk.new, hk.old, fun k v hkv hv => ?_⟩
      obtain ⟨v', g1, g2⟩ := hk.cell k v hkv (by rw [← hat' n k]; exact hv)
      exact ⟨v', g1, g2.mono hle⟩
  · rw [hat] at f1 f3
    by_cases q : n = c
    · rw [if_pos q] at f1; injection f1 with f1; subst f1; cases hx
    · by_cases q' : n2 = c
      · rw [if_pos q'] at f3; injection f3 with f3; subst f3; cases hx
      · rw [if_neg q] at f1; rw [if_neg q'] at f3
        rcases upd_inv f5 with ⟨z, _⟩ | ⟨_, z⟩
        · exact absurd z q
        · rcases upd_inv f6 with ⟨z', _⟩ | ⟨_, z'⟩
          · exact absurd z' q'
          · exact hs1.sole n b n2 b2 i i2 f1 f2 f3 f4 z z' f7 f8
  · rw [hat] at f1
    by_cases q : n = c
    · subst q
      rw [if_pos rfl] at f1; injection f1 with f1; subst f1
      exact ⟨_, o, upd_self _ _ _, ⟨hs.room, rfl⟩, alloc_new _ _, ho.mono hle⟩
    · rw [if_neg q] at f1
      obtain ⟨i, o', g1, g2, g3, g4⟩ := hs1.objs n y f1 hy
      exact ⟨i, o', hle _ _ g1, g2, g3, g4.mono hle⟩
  · rw [hat] at f1 f2
    have hold : ∀ {n i}, m n = some i → i.blk ≠ w.heap.size := fun {n i} g2 => by
      have := hs.dom _ _ g2; omega
    rcases upd_inv f3 with ⟨z, rfl⟩ | ⟨z, hz⟩
    · rcases upd_inv f4 with ⟨z', rfl⟩ | ⟨z', hz'⟩
      · rw [z, z']
      · exact absurd f5 (hold hz')
    · rcases upd_inv f4 with ⟨z', rfl⟩ | ⟨z', hz'⟩
      · exact absurd f5.symm (hold hz)
      · rw [if_neg z] at f1; rw [if_neg z'] at f2
        exact hs1.objOne n y n2 y2 i i2 f1 q1 f2 q2 hz hz' f5
  · rcases upd_inv f1 with ⟨_, rfl⟩ | ⟨_, z⟩
    · rw [alloc_size]; exact Nat.lt_succ_self _
    · exact hs1.dom n i z
def setO (w : World) (b : Nat) (o : Obj) : World := { w with heap := w.heap.setIfInBounds b o }
theorem setO_same {b : Nat} (hb : b < w.heap.size) (o : Obj) : (setO w b o).heap[b]? = some o := by
  show (w.heap.setIfInBounds b o)[b]? = some o
  rw [Array.getElem?_setIfInBounds, if_pos rfl, if_pos hb]
theorem setO_other {b k : Nat} (hk : k ≠ b) (o : Obj) : (setO w b o).heap[k]? = w.heap[k]? := by
  show (w.heap.setIfInBounds b o)[k]? = w.heap[k]?
  rw [Array.getElem?_setIfInBounds_ne hk.symm]
theorem setO_size (b : Nat) (o : Obj) : (setO w b o).heap.size = w.heap.size := Array.size_setIfInBounds ..
/-- An object of ours is set anew. -/
theorem Sim.setObj (hs : Sim m base h w) {n : Nat} {x x' : Cell} {o' : Obj} {i : Img} (hn : h.at (n, 0) = some x) (hx : x.isObj = true) (hi : m n = some i) (hx' : x'.isObj = true) (ho : ObjRel m x' o') :
    Sim m base (h.put (n, 0) x') (setO w i.blk o') ∧ Go1 m base w m (setO w i.blk o') := by
  obtain ⟨i', o0, g1, g2, g3, g4⟩ := hs.objs n x hn hx
  obtain rfl : i' = i := by rw [hi] at g1; injection g1 with g1; exact g1.symm
  have hlt := heap_lt g3
  have hat : ∀ k, (h.put (n, 0) x').at (k, 0) = if k = n then some x' else h.at (k, 0) := fun k => by
    rw [Heap.at_put]; by_cases e : k = n <;> simp [e]
  have hat' : ∀ j k, (h.put (n, 0) x').at (j, k + 1) = h.at (j, k + 1) := fun j k => by
    rw [Heap.at_put, if_neg (by intro q; cases q)]
  refine ⟨⟨fun k b f1 f2 => ?_, fun k b n2 b2 j i2 f1 f2 f3 f4 f5 f6 f7 f8 => ?_, fun k y f1 hy => ?_, fun k y n2 y2 j i2 f1 q1 f2 q2 f3 f4 f5 => ?_, fun k j f1 => by rw [setO_size]; exact hs.dom k j f1, by rw [setO_size]; exact hs.room⟩,
    ⟨m.le_refl, fun _ _ h => .inl h, rfl, rfl, rfl, by rw [setO_size]; exact Nat.le_refl _, fun k hk hm => setO_other (fun e => ?_) o'⟩⟩
  · rw [hat] at f1
    by_cases q : k = n
    · rw [if_pos q] at f1; injection f1 with f1; subst f1; cases hx'
    · rw [if_neg q] at f1
      obtain ⟨j, C, t, fz, hk⟩ := hs.lay k b f1 f2
      have hne : j.blk ≠ i'.blk := fun e => by have := hk.row; rw [e, g3] at this; injection this with this; subst this; cases g4
      exact ⟨j, C, t, fz, hk.img, hk.size, hk.esz, hk.tot, by rw [setO_other hne]; exact hk.row, hk.fits, hk.new, hk.old, fun z v hkv hv => hk.cell z v hkv (by rw [← hat' k z]; exact hv)⟩
  · rw [hat] at f1 f3
    by_cases q : k = n
    · rw [if_pos q] at f1; injection f1 with f1; subst f1; cases hx'
    · by_cases q' : n2 = n
      · rw [if_pos q'] at f3; injection f3 with f3; subst f3; cases hx'
      · rw [if_neg q] at f1; rw [if_neg q'] at f3
        exact hs.sole k b n2 b2 j i2 f1 f2 f3 f4 f5 f6 f7 f8
  · rw [hat] at f1
    by_cases q : k = n
    · subst q
      rw [if_pos rfl] at f1; injection f1 with f1; subst f1
      exact ⟨i', o', hi, g2, setO_same hlt _, ho⟩
    · rw [if_neg q] at f1
      obtain ⟨j, o1, k1, k2, k3, k4⟩ := hs.objs k y f1 hy
      have hne : j.blk ≠ i'.blk := fun e => q (hs.objOne n x k y i' j hn hx f1 hy hi k1 e)
      exact ⟨j, o1, k1, k2, by rw [setO_other hne]; exact k3, k4⟩
  · rw [hat] at f1 f2
    by_cases q : k = n
    · subst q
      by_cases q' : n2 = k
      · exact q'
      · rw [if_neg q'] at f2
        exact hs.objOne k x n2 y2 j i2 hn hx f2 q2 f3 f4 f5
    · rw [if_neg q] at f1
      by_cases q' : n2 = n
      · subst q'
        exact hs.objOne k y n2 x j i2 f1 q1 hn hx f3 f4 f5
      · rw [if_neg q'] at f2
        exact hs.objOne k y n2 y2 j i2 f1 q1 f2 q2 f3 f4 f5
  · rcases hm with hm | hm
    · omega
    · exact hm n i' hi e.symm
end Go.Ab
