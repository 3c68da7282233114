/- append, simulated. -/
import Derived.Test.YtfleloeadbdbcaaGreatAbL
namespace Go.Ab
open Go.RowKit
section
variable {P : Program} {m : Inj} {base : Nat} {h : Heap} {w : World}
/-- The new block lies where the old one lay. -/
theorem grow_in {h1 : Heap} (hs : Sim m base h1 w) {B q p : Nat} {C : Array Value} {e : TypeId} {el size : Nat} {old vs vs' : List Value} {olds : List Nat} {n c : Nat} {lg : Log} {c2 : Nat} {h2 : Heap} {lg2 : Log}
    (hr : run (newBlk el size (old ++ vs) olds) c h1 lg = .ok n c2 h2 lg2) (hc : m c = none) (hrow : w.heap[B]? = some (.cells C e (0, 0))) (hbase : base ≤ B) (hB : ∃ n i, m n = some i ∧ i.blk = B)
    (hlive : ∀ n2 b2 i2, h1.at (n2, 0) = some (.blk b2) → b2.st ≠ .dead → m n2 = some i2 → i2.blk = B → n2 ∈ olds ∧ b2.st ≠ .own ∧ i2.del + i2.size ≤ p)
    (hold : ∀ (k : Nat) (v : Value), old[k]? = some v → ∃ v', C[q + k]? = some v' ∧ VRel m v v') (hp : p = q + old.length) (hv : LRel m vs vs') (hfit : p + vs'.length ≤ C.size) :
    c = n ∧ c + 1 = c2 ∧ Sim (upd m c ⟨B, q, (old ++ vs).length, size, C.size⟩) base h2 (w.setRow B (over C p vs')) ∧ Go1 m base w (upd m c ⟨B, q, (old ++ vs).length, size, C.size⟩) (w.setRow B (over C p vs')) := by
  obtain ⟨_, rfl, rfl, hl⟩ := run_newBlk_inv hr
  have hlen := hv.length
  have hs1 := hs.beyond (vs' := vs') hrow hfit fun n b2 i f1 f2 f3 f4 => (hlive n b2 i f1 f2 f3 f4).2.2
  refine ⟨rfl, rfl, ?_, ?_⟩
  · refine hs1.add hc (C := over C p vs') (e := e) (.inl rfl) (fun _ => rfl) rfl rfl (by rw [over_size _ _ _ hfit]) rfl hl (setRow_heap w B C _ e _ hrow) ?_ hbase (fun k v hk => ?_) fun n2 b2 i2 f1 f2 f3 f4 => ?_
    · rw [over_size _ _ _ hfit]; simp only [List.length_append]; omega
    · by_cases hko : k < old.length
      · rw [List.getElem?_append_left hko] at hk
        obtain ⟨v', g1, g2⟩ := hold k v hk
        exact ⟨v', by rw [over_get_out _ _ _ hfit _ (by show q + k < p ∨ _; omega)]; exact g1, g2⟩
      · rw [List.getElem?_append_right (by omega)] at hk
        obtain ⟨v', g1, g2⟩ := hv.get hk
        have hlt : k - old.length < vs'.length := by
          rcases Nat.lt_or_ge (k - old.length) vs'.length with z | z
          · exact z
          · rw [List.getElem?_eq_none z] at g1; cases g1
        refine ⟨v', ?_, g2⟩
        show (over C p vs')[q + k]? = some v'
        rw [show q + k = p + (k - old.length) by omega, over_get_in _ _ _ hfit _ hlt]; exact g1
    · obtain ⟨k1, k2, k3⟩ := hlive n2 b2 i2 f1 f2 f3 f4
      exact ⟨k1, k2, by simp only [List.length_append]; omega⟩
  · obtain ⟨n0, i0, f1, f2⟩ := hB
    refine ⟨upd_le hc _, fun n j hn => (upd_inv hn).elim (fun z => .inr (.inr ⟨n0, i0, f1, z.2 ▸ f2⟩)) fun z => .inl z.2, rfl, rfl, rfl, by simp, fun k hk hm => setRow_other w B k _ ?_⟩
    rcases hm with hm | hm
    · omega
    · exact fun z => hm n0 i0 f1 (f2.trans z.symm)
theorem zeroCells_size (z : Array Value) (n : Nat) : (Builtin.zeroCells z n).size = n * z.size := by simp [Builtin.zeroCells]
/-- What 'growT' leaves of the heap, before the new block. -/
theorem growT_inv {e size b : Nat} {bi : BI} {front : Bool} {vs : List Value} {n c : Nat} {lg : Log} {c2 : Nat} {h2 : Heap} {lg2 : Log} (hs : Sim m base h w) (hb : h.at (b, 0) = some (.blk bi)) (hd : bi.st ≠ .dead) {i : Img} (hi : m b = some i)
    (hr : run (growT e size b bi front vs) c h lg = .ok n c2 h2 lg2) :
    bi.st = .own ∧ ∃ h1 lg1 olds, Sim m base h1 w ∧ run (newBlk e size vs olds) c h1 lg1 = .ok n c2 h2 lg2 ∧
      ∀ n2 b2 i2, h1.at (n2, 0) = some (.blk b2) → b2.st ≠ .dead → m n2 = some i2 → i2.blk = i.blk → n2 ∈ olds ∧ b2.st ≠ .own ∧ front = true ∧ i2.del + i2.size ≤ i.del + i.size := by
  unfold growT at hr
  cases hst : bi.st with
  | own =>
    rw [hst] at hr
    refine ⟨rfl, ?_⟩
    cases front with
    | true =>
      obtain ⟨_, c1, h1, lg1, e1, e2⟩ := run_bind_inv hr
      obtain ⟨rfl, rfl⟩ := run_put_inv e1
      have hs1 := hs.head (b' := { bi with st := .moved, olds := [] }) hb hd rfl rfl (by intro q; cases q) (by simp [hst]) (by intro q; cases q)
      refine ⟨_, _, _, hs1, e2, fun n2 b2 i2 f1 f2 f3 f4 => ?_⟩
      rw [Heap.at_put] at f1
      by_cases q : n2 = b
      · subst q
        rw [if_pos rfl] at f1; injection f1 with f1; injection f1 with f1; subst f1
        rw [hi] at f3; injection f3 with f3; subst f3
        exact ⟨List.mem_cons_self, by simp, rfl, Nat.le_refl _⟩
      · rw [if_neg (by simp [q])] at f1
        obtain ⟨k1, k2, k3⟩ := hs.sole b bi n2 b2 i i2 hb hst f1 f2 hi f3 f4 q
        exact ⟨List.mem_cons_of_mem _ k1, k2, rfl, k3⟩
    | false =>
      obtain ⟨_, c1, h1, lg1, e1, e2⟩ := run_bind_inv hr
      obtain ⟨rfl, k1, k2⟩ := run_killAll_inv e1
      refine ⟨_, _, _, hs.kill k1 k2, e2, fun n2 b2 i2 f1 f2 f3 f4 => ?_⟩
      exfalso
      have hn : n2 ∉ b :: bi.olds := fun hn => by
        obtain ⟨b3, g1, g2⟩ := k2 n2 hn
        rw [f1] at g1; injection g1 with g1; injection g1 with g1; subst g1; exact f2 g2
      rw [k1 (n2, 0) (.inr hn)] at f1
      obtain ⟨q1, _⟩ := hs.sole b bi n2 b2 i i2 hb hst f1 f2 hi f3 f4 (fun q => hn (by rw [q]; exact List.mem_cons_self))
      exact hn (List.mem_cons_of_mem _ q1)
  | init => rw [hst] at hr; cases hr
  | moved => rw [hst] at hr; cases hr
  | dead => exact absurd hst hd
theorem fresh_grow {h1 : Heap} (hs : Sim m base h1 w) {el size : Nat} {old vs : List Value} {olds : List Nat} {n c : Nat} {lg : Log} {c2 : Nat} {h2 : Heap} {lg2 : Log} (hr : run (newBlk el size (old ++ vs) olds) c h1 lg = .ok n c2 h2 lg2) (hc : m c = none)
    {old' vs' : Array Value} (ho : LRel m old old'.toList) (hv : LRel m vs vs'.toList) {need newCap : Nat} {z : Array Value} (hz : z.size = size) (hn : need ≤ newCap) (hlen : (old ++ vs).length = need * size) (e : TypeId) {r : Result Value}
    (hres : r = .ok (.slice (some ⟨w.heap.size, 0, none⟩) need newCap) (w.drew.alloc (.cells (old' ++ vs' ++ Builtin.zeroCells z (newCap - need)) e))) :
    Leaves1 m base w c c2 h2 (.slice (some ⟨n, 0, none⟩) need need) r := by
  have hov := ho.append hv
  obtain ⟨rfl, rfl, g1, g2⟩ := hs.drew.fresh (ex := (Builtin.zeroCells z (newCap - need)).toList) hr hc hov e
  have hw : w.drew.heap.size = w.heap.size := rfl
  have hcells : (old'.toList ++ vs'.toList ++ (Builtin.zeroCells z (newCap - need)).toList).toArray = old' ++ vs' ++ Builtin.zeroCells z (newCap - need) := by
    apply Array.ext'; simp
  rw [hcells] at g1 g2
  subst hres
  refine ⟨_, _, _, rfl, VRel.sl (n := c) (o := 0) (upd_self m c _) (.inr ⟨hn, ?_, ?_⟩) (Nat.le_refl _), g1, (Go1.drew m base w).trans g2, upd_names _ _ _⟩
  · simpa using hlen.symm
  · have h1 := hov.length
    simp only [List.length_append, Array.length_toList, zeroCells_size, hz] at h1 hlen ⊢
    have : (newCap - need) * size + need * size = newCap * size := by rw [← Nat.add_mul]; congr 1; omega
    omega
end
end Go.Ab
