/- New blocks and appends, simulated. -/
import Derived.Test.YtfleloeadbdbcaaGreatAbF
namespace Go.Ab
open Go.RowKit
variable {m : Inj} {base : Nat} {h : Heap} {w : World}

def upd (m : Inj) (n : Nat) (i : Img) : Inj := fun k => if k = n then some i else m k
theorem upd_le {c : Nat} (hc : m c = none) (i : Img) : m.le (upd m c i) := fun n j hn => by
  unfold upd; split
  · next e => subst e; rw [hc] at hn; cases hn
  · exact hn
theorem upd_self (m : Inj) (c : Nat) (i : Img) : upd m c i c = some i := by simp [upd]
theorem upd_names (m : Inj) (c : Nat) (i : Img) : Names m (upd m c i) c (c + 1) := fun n hn ho => by
  unfold upd; rw [if_neg (by omega)]; exact hn
theorem upd_inv {c n : Nat} {i j : Img} (h : upd m c i n = some j) : (n = c ∧ j = i) ∨ (n ≠ c ∧ m n = some j) := by
  unfold upd at h
  by_cases e : n = c
  · rw [if_pos e] at h; injection h with h; exact .inl ⟨e, h.symm⟩
  · rw [if_neg e] at h; exact .inr ⟨e, h⟩
theorem MsRel.mono {m m' : Inj} (hm : m.le m') {es es' : List MapEntry} (h : MsRel m es es') : MsRel m' es es' := by
  induction h with
  | nil => exact .nil
  | cons h _ ih => exact .cons ⟨h.key, h.flat, h.val.mono hm, h.born⟩ ih
theorem LRelO.mono {m m' : Inj} (hm : m.le m') {al : ALoop} {l : Loop} (h : LRelO m al l) : LRelO m' al l := ⟨h.state, h.pending, h.params, h.assign, h.body, h.size, fun k => (h.tmps k).mono hm⟩
theorem ObjRel.mono {m m' : Inj} (hm : m.le m') {x : Cell} {o : Obj} (h : ObjRel m x o) : ObjRel m' x o := by
  cases h with
  | map h => exact .map (h.mono hm)
  | loop h => exact .loop (h.mono hm)
  | iterNil a b c => exact .iterNil a b c
  | iter h a b c => exact .iter (hm _ _ h) a b c
theorem Sim.add (hs : Sim m base h w) {c : Nat} (hc : m c = none) {i0 : Img} {b0 : BI} {vs : List Value} {h2 : Heap} {C : Array Value} {e : TypeId} {fz : Nat × Nat} (hst : b0.st = .own ∨ b0.st = .moved) (hfz : b0.st = .own → fz = (0, 0)) (h1 : i0.size = b0.size) (h1' : i0.esz = b0.esz) (ht : i0.tot = C.size) (hsz : b0.size = vs.length)
    (hl : Laid (h.put (c, 0) (.blk b0)) c 0 vs h2) (hrow : w.heap[i0.blk]? = some (.cells C e fz)) (hfit : i0.del + i0.size ≤ C.size) (hbase : base ≤ i0.blk)
    (hcell : ∀ (k : Nat) (v : Value), vs[k]? = some v → ∃ v', C[i0.del + k]? = some v' ∧ VRel m v v')
    (hsole : ∀ n2 b2 i2, h.at (n2, 0) = some (.blk b2) → b2.st ≠ .dead → m n2 = some i2 → i2.blk = i0.blk → n2 ∈ b0.olds ∧ b2.st ≠ .own ∧ i2.del + i2.size ≤ i0.del + i0.size) :
    Sim (upd m c i0) base h2 w := by
  have hle := upd_le hc i0
  have hat : ∀ n, h2.at (n, 0) = if n = c then some (.blk b0) else h.at (n, 0) := fun n => by
    rw [hl.out _ (.inr (.inl (Nat.zero_le _))), Heap.at_put]; by_cases e : n = c <;> simp [e]
  have hat' : ∀ n k, n ≠ c → h2.at (n, k + 1) = h.at (n, k + 1) := fun n k hn => by
    rw [hl.out _ (.inl hn), Heap.at_put, if_neg (by intro q; cases q)]
  have hlt : i0.blk < w.heap.size := by
    rcases Nat.lt_or_ge i0.blk w.heap.size with q | q
    · exact q
    · rw [Array.getElem?_eq_none q] at hrow; cases hrow
  refine ⟨fun n b e1 e2 => ?_, fun n b n2 b2 i i2 e1 e2 e3 e4 e5 e6 e7 e8 => ?_, fun n x e1 hx => ?_, fun n x n2 x2 i i2 e1 q1 e2 q2 e3 e4 e5 => ?_, fun n i e1 => ?_, hs.room⟩
  · rw [hat] at e1
    by_cases q : n = c
    · subst q
      rw [if_pos rfl] at e1; injection e1 with e1; injection e1 with e1; subst e1
      refine ⟨i0, C, e, fz, upd_self _ _ _, h1, h1', ht, hrow, hfit, fun _ => ⟨hbase, hfz⟩, (fun q => by rcases hst with hst | hst <;> (rw [hst] at q; cases q)), fun k v hk hv => ?_⟩
      have hk' : k < vs.length := hsz ▸ hk
      have := hl.at_ k vs[k] (by simp [hk'])
      rw [Nat.zero_add, hv] at this
      injection this with this; injection this with this
      obtain ⟨v', g1, g2⟩ := hcell k v (by rw [this]; simp [hk'])
      exact ⟨v', g1, g2.mono hle⟩
    · rw [if_neg q] at e1
      obtain ⟨i, C1, t1, fz1, hk⟩ := hs.lay n b e1 e2
      refine ⟨i, C1, t1, fz1, hle _ _ hk.img, hk.size, hk.esz, hk.tot, hk.row, hk.fits, hk.new, hk.old, fun k v hkv hv => ?_⟩
      obtain ⟨v', g1, g2⟩ := hk.cell k v hkv (by rw [← hat' n k q]; exact hv)
      exact ⟨v', g1, g2.mono hle⟩
  · rw [hat] at e1 e3
    rcases upd_inv e5 with ⟨q, rfl⟩ | ⟨q, hm1⟩
    · subst q
      rw [if_pos rfl] at e1; injection e1 with e1; injection e1 with e1; subst e1
      rw [if_neg e8] at e3
      rcases upd_inv e6 with ⟨q, rfl⟩ | ⟨q, hm2⟩
      · exact absurd q e8
      · exact hsole n2 b2 i2 e3 e4 hm2 e7
    · rw [if_neg q] at e1
      rcases upd_inv e6 with ⟨q', rfl⟩ | ⟨q', hm2⟩
      · exact absurd e2 (hsole n b i e1 (by rw [e2]; decide) hm1 e7.symm).2.1
      · rw [if_neg q'] at e3
        exact hs.sole n b n2 b2 i i2 e1 e2 e3 e4 hm1 hm2 e7 e8
  · rw [hat] at e1
    by_cases q : n = c
    · rw [if_pos q] at e1; injection e1 with e1; subst e1; cases hx
    · rw [if_neg q] at e1
      obtain ⟨i, o, g1, g2, g3, g4⟩ := hs.objs n x e1 hx
      exact ⟨i, o, hle _ _ g1, g2, g3, g4.mono hle⟩
  · rw [hat] at e1 e2
    by_cases q : n = c
    · rw [if_pos q] at e1; injection e1 with e1; subst e1; cases q1
    · by_cases q' : n2 = c
      · rw [if_pos q'] at e2; injection e2 with e2; subst e2; cases q2
      · rw [if_neg q] at e1; rw [if_neg q'] at e2
        rcases upd_inv e3 with ⟨p, _⟩ | ⟨_, p⟩
        · exact absurd p q
        · rcases upd_inv e4 with ⟨p', _⟩ | ⟨_, p'⟩
          · exact absurd p' q'
          · exact hs.objOne n x n2 x2 i i2 e1 q1 e2 q2 p p' e5
  · rcases upd_inv e1 with ⟨_, rfl⟩ | ⟨_, p⟩
    · exact hlt
    · exact hs.dom n i p
theorem alloc_old (w : World) (o : Obj) (k : Nat) (hk : k < w.heap.size) : (w.alloc o).heap[k]? = w.heap[k]? := Below.heap_alloc w o k hk
theorem alloc_size (w : World) (o : Obj) : (w.alloc o).heap.size = w.heap.size + 1 := Array.size_push ..
theorem alloc_new (w : World) (o : Obj) : (w.alloc o).heap[w.heap.size]? = some o := by
  show (w.heap.push o)[w.heap.size]? = some o
  rw [Array.getElem?_push, if_pos rfl]
theorem heap_lt {x : Obj} {k : Nat} (hx : w.heap[k]? = some x) : k < w.heap.size := by
  rcases Nat.lt_or_ge k w.heap.size with q | q
  · exact q
  · rw [Array.getElem?_eq_none q] at hx; cases hx
/-- Memory that is not ours is made. -/
theorem Sim.alloc (hs : Sim m base h w) (o : Obj) : Sim m base h (w.alloc o) := by
  refine ⟨fun n b e1 e2 => ?_, hs.sole, fun n x e1 hx => ?_, hs.objOne, fun n i e1 => by have := hs.dom n i e1; rw [alloc_size]; omega, by have := hs.room; rw [alloc_size]; omega⟩
  · obtain ⟨i, C, e, fz, hk⟩ := hs.lay n b e1 e2
    exact ⟨i, C, e, fz, hk.img, hk.size, hk.esz, hk.tot, by rw [alloc_old _ _ _ (heap_lt hk.row)]; exact hk.row, hk.fits, hk.new, hk.old, hk.cell⟩
  · obtain ⟨i, o', g1, g2, g3, g4⟩ := hs.objs n x e1 hx
    exact ⟨i, o', g1, g2, by rw [alloc_old _ _ _ (heap_lt g3)]; exact g3, g4⟩
theorem Go1.alloc (m : Inj) (base : Nat) (w : World) (o : Obj) {c : Nat} (hc : m c = none) (i : Img) (hi : w.heap.size ≤ i.blk) : Go1 m base w (upd m c i) (w.alloc o) :=
  ⟨upd_le hc i, fun n j hn => (upd_inv hn).elim (fun q => .inr (.inl (q.2 ▸ hi))) fun q => .inl q.2, rfl, rfl, rfl, by rw [alloc_size]; omega, fun k hk _ => alloc_old w o k hk⟩
theorem Go1.alloc' (m : Inj) (base : Nat) (w : World) (o : Obj) : Go1 m base w m (w.alloc o) :=
  ⟨m.le_refl, fun _ _ hn => .inl hn, rfl, rfl, rfl, by rw [alloc_size]; omega, fun k hk _ => alloc_old w o k hk⟩
theorem run_newBlk_inv {elem esz : Nat} {vs : List Value} {olds : List Nat} {n c : Nat} {h : Heap} {lg : Log} {c2 : Nat} {h2 : Heap} {lg2 : Log} (hr : run (newBlk elem esz vs olds) c h lg = .ok n c2 h2 lg2) :
    flatL atomic vs = true ∧ c = n ∧ c + 1 = c2 ∧ Laid (h.put (c, 0) (.blk { elem := elem, esz := esz, size := vs.length, st := .own, olds := olds })) c 0 vs h2 := by
  obtain ⟨h1, e1⟩ := run_whenT_inv hr
  obtain ⟨n', c1, h1', lg1, e2, e3⟩ := run_bind_inv e1
  obtain ⟨rfl, rfl, rfl⟩ := run_fresh_inv e2
  obtain ⟨_, c3, h3, lg3, e4, e5⟩ := run_bind_inv e3
  obtain ⟨rfl, rfl⟩ := run_put_inv e4
  obtain ⟨_, c4, h4, lg4, e6, e7⟩ := run_bind_inv e5
  obtain ⟨rfl, hl⟩ := run_putVals_inv e6
  obtain ⟨rfl, rfl, rfl, _⟩ := run_ret_inv e7
  exact ⟨h1, rfl, rfl, hl⟩
theorem Sim.fresh (hs : Sim m base h w) {elem esz : Nat} {vs vs' ex : List Value} {olds : List Nat} {n c : Nat} {lg : Log} {c2 : Nat} {h2 : Heap} {lg2 : Log} (hr : run (newBlk elem esz vs olds) c h lg = .ok n c2 h2 lg2)
    (hc : m c = none) (hv : LRel m vs vs') (e : TypeId) :
    c = n ∧ c + 1 = c2 ∧ Sim (upd m c ⟨w.heap.size, 0, vs.length, esz, (vs' ++ ex).length⟩) base h2 (w.alloc (.cells (vs' ++ ex).toArray e)) ∧ Go1 m base w (upd m c ⟨w.heap.size, 0, vs.length, esz, (vs' ++ ex).length⟩) (w.alloc (.cells (vs' ++ ex).toArray e)) := by
  obtain ⟨_, rfl, rfl, hl⟩ := run_newBlk_inv hr
  refine ⟨rfl, rfl, ?_, Go1.alloc m base w _ hc _ (Nat.le_refl _)⟩
  have hlen := hv.length
  refine (hs.alloc (.cells (vs' ++ ex).toArray e)).add hc (C := (vs' ++ ex).toArray) (e := e) (.inl rfl) (fun _ => rfl) rfl rfl (by simp) rfl hl (alloc_new _ _) (by simp; omega) hs.room (fun k v hk => ?_) fun n2 b2 i2 e1 e2 e3 e4 => ?_
  · obtain ⟨v', g1, g2⟩ := hv.get hk
    have hk' : k < vs'.length := by
      rcases Nat.lt_or_ge k vs'.length with q | q
      · exact q
      · rw [List.getElem?_eq_none q] at g1; cases g1
    exact ⟨v', by simpa [List.getElem?_append_left hk'] using g1, g2⟩
  · have := hs.dom n2 i2 e3
    have h5 : i2.blk = w.heap.size := e4
    omega
/-- Values laid behind the end of our memory in a block of ours. -/
theorem Sim.beyond (hs : Sim m base h w) {b : Nat} {p : Nat} {C : Array Value} {e : TypeId} {vs' : List Value} (hrow : w.heap[b]? = some (.cells C e (0, 0))) (hC : p + vs'.length ≤ C.size)
    (hp : ∀ n b2 i, h.at (n, 0) = some (.blk b2) → b2.st ≠ .dead → m n = some i → i.blk = b → i.del + i.size ≤ p) : Sim m base h (w.setRow b (over C p vs')) := by
  refine ⟨fun n b1 e1 e2 => ?_, hs.sole, fun n x e1 hx => ?_, hs.objOne, fun n i e1 => by simpa using hs.dom n i e1, by simpa using hs.room⟩
  · obtain ⟨i, C1, t, fz, hk⟩ := hs.lay n b1 e1 e2
    by_cases q : i.blk = b
    · have hrow' := hk.row
      rw [q, hrow] at hrow'
      injection hrow' with hrow'; injection hrow' with q1 q2 q3
      subst q1 q2 q3
      have hend := hp n b1 i e1 e2 hk.img q
      refine ⟨i, over C p vs', e, (0, 0), hk.img, hk.size, hk.esz, (by rw [over_size _ _ _ hC]; exact hk.tot), by rw [q]; exact setRow_heap w b C _ e _ hrow, by rw [over_size _ _ _ hC]; exact hk.fits, hk.new, hk.old, fun k v hkv hv => ?_⟩
      obtain ⟨v', g1, g2⟩ := hk.cell k v hkv hv
      exact ⟨v', by rw [over_get_out _ _ _ hC _ (by have := hk.size; omega)]; exact g1, g2⟩
    · exact ⟨i, C1, t, fz, hk.img, hk.size, hk.esz, hk.tot, by rw [setRow_other _ _ _ _ q]; exact hk.row, hk.fits, hk.new, hk.old, hk.cell⟩
  · obtain ⟨i, o, g1, g2, g3, g4⟩ := hs.objs n x e1 hx
    refine ⟨i, o, g1, g2, ?_, g4⟩
    rw [setRow_other]
    · exact g3
    · intro q; rw [q, hrow] at g3; injection g3 with g3; subst g3; cases g4
end Go.Ab
