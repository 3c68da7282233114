/- Stores and new blocks, simulated. -/
import Derived.Test.YtfleloeadbdbcaaGreatAbE
namespace Go.Ab
open Go.RowKit
variable {m : Inj} {base : Nat} {h : Heap} {w : World}

def over (C : Array Value) (p : Nat) (vs : List Value) : Array Value := (C.toList.take p ++ vs ++ C.toList.drop (p + vs.length)).toArray
theorem over_size (C : Array Value) (p : Nat) (vs : List Value) (h : p + vs.length ≤ C.size) : (over C p vs).size = C.size := by
  simp [over]; omega
theorem over_get_in (C : Array Value) (p : Nat) (vs : List Value) (h : p + vs.length ≤ C.size) (k : Nat) (hk : k < vs.length) : (over C p vs)[p + k]? = vs[k]? := by
  have h1 : (C.toList.take p).length = p := by simp; omega
  simp only [over, List.getElem?_toArray]
  rw [List.append_assoc, List.getElem?_append_right (by omega), h1, List.getElem?_append_left (by omega)]
  congr 1; omega
theorem over_get_out (C : Array Value) (p : Nat) (vs : List Value) (h : p + vs.length ≤ C.size) (k : Nat) (hk : k < p ∨ p + vs.length ≤ k) : (over C p vs)[k]? = C[k]? := by
  have h1 : (C.toList.take p).length = p := by simp; omega
  simp only [over, List.getElem?_toArray]
  rcases hk with hk | hk
  · rw [List.append_assoc, List.getElem?_append_left (by omega), List.getElem?_take_of_lt hk]; simp
  · rw [List.getElem?_append_right (by simp; omega), List.getElem?_drop]
    simp only [List.length_append, h1]
    rw [show p + vs.length + (k - (p + vs.length)) = k by omega]; simp
theorem Go1.setRow {b : Nat} (hb : ∃ n i, m n = some i ∧ i.blk = b) (hbase : base ≤ b) (cs : Array Value) : Go1 m base w m (w.setRow b cs) := by
  refine ⟨m.le_refl, fun _ _ h => .inl h, rfl, rfl, rfl, by simp, fun k hk hm => setRow_other w b k cs ?_⟩
  obtain ⟨n, i, hn, rfl⟩ := hb
  rcases hm with hm | hm
  · omega
  · exact fun e => hm n i hn e.symm
/-- Values laid into a block that is owned and alone. -/
theorem Sim.write (hs : Sim m base h w) {n off : Nat} {b : BI} {i : Img} {C : Array Value} {e : TypeId} {fz : Nat × Nat} {vs vs' : List Value} {h' : Heap} (hb : h.at (n, 0) = some (.blk b)) (ho : b.st = .own)
    (hk : BOK m base h w n b i C e fz) (alone : ∀ n2 b2 i i2, h.at (n2, 0) = some (.blk b2) → b2.st ≠ .dead → m n = some i → m n2 = some i2 → i2.blk = i.blk → n2 = n)
    (hl : Laid h n off vs h') (hr : LRel m vs vs') (hfit : off + vs.length ≤ b.size) : Sim m base h' (w.setRow i.blk (over C (off + i.del) vs')) := by
  have hlen := hr.length
  have hfz : fz = (0, 0) := (hk.new (by rw [ho]; decide)).2 ho
  have hbase := (hk.new (by rw [ho]; decide)).1
  have hC : off + i.del + vs'.length ≤ C.size := by have := hk.fits; have := hk.size; omega
  have hhead : ∀ n', h'.at (n', 0) = h.at (n', 0) := fun n' => hl.out _ (.inr (.inl (Nat.zero_le _)))
  refine ⟨fun n1 b1 e1 e2 => ?_, fun n1 b1 n2 b2 i1 i2 e1 e2 e3 => hs.sole n1 b1 n2 b2 i1 i2 (hhead n1 ▸ e1) e2 (hhead n2 ▸ e3), fun n1 x e1 hx => ?_, fun n1 x n2 x2 i1 i2 e1 q1 e2 => hs.objOne n1 x n2 x2 i1 i2 (hhead n1 ▸ e1) q1 (hhead n2 ▸ e2), fun n1 i1 e1 => by simpa using hs.dom n1 i1 e1, by simpa using hs.room⟩
  · rw [hhead] at e1
    by_cases en : n1 = n
    · subst en
      rw [hb] at e1; injection e1 with e1; injection e1 with e1; subst e1
      refine ⟨i, over C (off + i.del) vs', e, fz, hk.img, hk.size, hk.esz, (by rw [over_size _ _ _ hC]; exact hk.tot), setRow_heap w i.blk C _ e fz hk.row, by rw [over_size _ _ _ hC]; exact hk.fits, hk.new, hk.old, fun k v hkv hv => ?_⟩
      by_cases hin : off ≤ k ∧ k < off + vs.length
      · obtain ⟨j, rfl⟩ : ∃ j, k = off + j := ⟨k - off, by omega⟩
        have hj : j < vs.length := by omega
        have h1 := hl.at_ j vs[j] (by simp [hj])
        rw [hv] at h1; injection h1 with h1; injection h1 with h1
        obtain ⟨v', h2, h3⟩ := hr.get (k := j) (v := v) (by rw [h1]; simp [hj])
        refine ⟨v', ?_, h3⟩
        rw [show i.del + (off + j) = off + i.del + j by omega, over_get_in _ _ _ hC _ (by omega)]; exact h2
      · rw [hl.out _ (.inr (by simp; omega))] at hv
        obtain ⟨v', h2, h3⟩ := hk.cell k v hkv hv
        exact ⟨v', by rw [over_get_out _ _ _ hC _ (by omega)]; exact h2, h3⟩
    · obtain ⟨i1, C1, t1, fz1, hk1⟩ := hs.lay n1 b1 e1 e2
      have hne : i1.blk ≠ i.blk := fun q => en (alone n1 b1 i i1 e1 e2 hk.img hk1.img q)
      exact ⟨i1, C1, t1, fz1, hk1.img, hk1.size, hk1.esz, hk1.tot, by rw [setRow_other _ _ _ _ hne]; exact hk1.row, hk1.fits, hk1.new, hk1.old, fun k v hkv hv => hk1.cell k v hkv (by rw [← hl.out _ (.inl en)]; exact hv)⟩
  · rw [hhead] at e1
    obtain ⟨i1, o, g1, g2, g3, g4⟩ := hs.objs n1 x e1 hx
    refine ⟨i1, o, g1, g2, ?_, g4⟩
    rw [setRow_other]
    · exact g3
    · intro q; rw [q, hk.row] at g3; injection g3 with g3; subst g3; cases g4
theorem run_storeN_inv {b o : Nat} {v : Value} {vs : List Value} {u : Unit} {c : Nat} {h : Heap} {lg : Log} {c2 : Nat} {h2 : Heap} {lg2 : Log} (hr : run (storeN b o (v :: vs)) c h lg = .ok u c2 h2 lg2) :
    flatL atomic (v :: vs) = true ∧ ∃ bi c1 h1 lg1, run (ownBlk b) c h lg = .ok bi c1 h1 lg1 ∧ o + (v :: vs).length ≤ bi.size ∧ run (putVals b (v :: vs) o) c1 h1 lg1 = .ok u c2 h2 lg2 := by
  obtain ⟨h1, e1⟩ := run_whenT_inv hr
  obtain ⟨bi, c1, h1', lg1, e2, e3⟩ := run_bind_inv e1
  obtain ⟨h3, e4⟩ := run_whenT_inv e3
  exact ⟨h1, bi, c1, h1', lg1, e2, Nat.le_of_ble_eq_true h3, e4⟩
theorem storeCells_sim {P : Program} (hs : Sim m base h w) {n off : Nat} {vs vs' : List Value} {u : Unit} {c : Nat} {lg : Log} {c2 : Nat} {h2 : Heap} {lg2 : Log} (hr : run (storeN n off vs) c h lg = .ok u c2 h2 lg2)
    {i : Img} (hi : m n = some i) (hv : LRel m vs vs') : c = c2 ∧ ∃ w', (storeCells ⟨i.blk, off + i.del, none⟩ vs').run P w = .ok () w' ∧ Sim m base h2 w' ∧ Go1 m base w m w' := by
  cases vs with
  | nil =>
    cases hv
    obtain ⟨_, rfl, rfl, _⟩ := run_ret_inv hr
    exact ⟨rfl, w, rfl, hs, .refl _ _ _⟩
  | cons v vs =>
    obtain ⟨ha, bi, c1, h1, lg1, e1, hfit, e2⟩ := run_storeN_inv hr
    obtain ⟨rfl, hs1, ⟨b2, hb2, hst, hsz⟩, alone⟩ := hs.own e1
    obtain ⟨rfl, hl⟩ := run_putVals_inv e2
    obtain ⟨i', C, e, fz, hk⟩ := hs1.lay n b2 hb2 (by rw [hst]; decide)
    obtain rfl : i' = i := by have := hk.img; rw [hi] at this; injection this with this; exact this.symm
    have hlen := hv.length
    have hfz : fz = (0, 0) := (hk.new (by rw [hst]; decide)).2 hst
    subst hfz
    have hfit' : off + (v :: vs).length ≤ b2.size := hsz ▸ hfit
    refine ⟨rfl, w.setRow i'.blk (over C (off + i'.del) vs'), ?_, hs1.write hb2 hst hk alone hl hv hfit', Go1.setRow ⟨n, i', hi, rfl⟩ (hk.new (by rw [hst]; decide)).1 _⟩
    have := run_storeCells_at (P := P) i'.blk (off + i'.del) e vs' 0 C w hk.row (by have := hk.fits; have := hk.size; omega) (hv.atomic ha)
    simpa [over] using this
theorem run_store1_inv {b o : Nat} {v : Value} {u : Unit} {c : Nat} {h : Heap} {lg : Log} {c2 : Nat} {h2 : Heap} {lg2 : Log} (hr : run (store1 b o v) c h lg = .ok u c2 h2 lg2) :
    run (storeN b o [v]) c h lg = .ok u c2 h2 lg2 := by
  obtain ⟨h1, e1⟩ := run_whenT_inv hr
  obtain ⟨bi, c1, h1', lg1, e2, e3⟩ := run_bind_inv e1
  obtain ⟨h3, e4⟩ := run_whenT_inv e3
  show run (bite (flatL atomic [v]) _ _) c h lg = _
  rw [show flatL atomic [v] = true from by rw [flatL_cons, h1]; rfl, bite_true, run_bind_of e2]
  show run (bite (Nat.ble (o + 1) bi.size) _ _) _ _ _ = _
  rw [show Nat.ble (o + 1) bi.size = true from h3, bite_true]
  exact (run_bind_of e4).trans rfl
end Go.Ab
