/- The steps of memory, simulated. -/
import Derived.Test.YtfleloeadbdbcaaGreatAbD
namespace Go.Ab
open Go.RowKit
variable {m : Inj} {base : Nat} {h : Heap} {w : World}

theorem BOK.cell? {n : Nat} {b : BI} {i : Img} {C : Array Value} {e : TypeId} {fz : Nat × Nat} (hb : BOK m base h w n b i C e fz) (k : Nat) :
    w.cell? ⟨i.blk, k, none⟩ = C[k]? := by simp [World.cell?, hb.row]
theorem Sim.load (hs : Sim m base h w) {n o : Nat} {b : BI} {v : Value} (hb : h.at (n, 0) = some (.blk b)) (hd : b.st ≠ .dead) (ho : o < b.size) (hv : h.at (n, o + 1) = some (.val v)) :
    ∃ i v', m n = some i ∧ w.cell? ⟨i.blk, o + i.del, none⟩ = some v' ∧ VRel m v v' := by
  obtain ⟨i, C, e, fz, hk⟩ := hs.lay n b hb hd
  obtain ⟨v', h1, h2⟩ := hk.cell o v ho hv
  exact ⟨i, v', hk.img, by rw [hk.cell?, Nat.add_comm]; exact h1, h2⟩
/-- A world that differs by draws alone. -/
theorem Sim.heap_eq (hs : Sim m base h w) {w' : World} (hw : w'.heap = w.heap) : Sim m base h w' := by
  refine ⟨fun n b hb hd => ?_, hs.sole, fun n x hm hx => ?_, hs.objOne, fun n i hn => hw ▸ hs.dom n i hn, hw ▸ hs.room⟩
  · obtain ⟨i, C, e, fz, hk⟩ := hs.lay n b hb hd
    exact ⟨i, C, e, fz, hk.img, hk.size, hk.esz, hk.tot, hw ▸ hk.row, hk.fits, hk.new, hk.old, hk.cell⟩
  · obtain ⟨i, o, h1, h2, h3, h4⟩ := hs.objs n x hm hx
    exact ⟨i, o, h1, h2, hw ▸ h3, h4⟩
theorem Sim.at_eq (hs : Sim m base h w) {h' : Heap} (hh : ∀ l, h'.at l = h.at l) : Sim m base h' w := by
  refine ⟨fun n b hb hd => ?_, fun n b n2 b2 i i2 h1 h2 h3 => hs.sole n b n2 b2 i i2 (hh _ ▸ h1) h2 (hh _ ▸ h3), fun n x hm hx => hs.objs n x (hh _ ▸ hm) hx, fun n x n2 x2 i i2 h1 q1 h2 => hs.objOne n x n2 x2 i i2 (hh _ ▸ h1) q1 (hh _ ▸ h2), hs.dom, hs.room⟩
  obtain ⟨i, C, e, fz, hk⟩ := hs.lay n b (hh _ ▸ hb) hd
  exact ⟨i, C, e, fz, hk.img, hk.size, hk.esz, hk.tot, hk.row, hk.fits, hk.new, hk.old, fun k v hkv hv => hk.cell k v hkv (hh _ ▸ hv)⟩
/-- Some blocks die. -/
theorem Sim.kill (hs : Sim m base h w) {ns : List Nat} {h1 : Heap} (ho : ∀ l : Loc, (l.2 ≠ 0 ∨ l.1 ∉ ns) → h1.at l = h.at l) (hd : ∀ n ∈ ns, ∃ b, h1.at (n, 0) = some (.blk b) ∧ b.st = .dead) : Sim m base h1 w := by
  have live : ∀ n b, h1.at (n, 0) = some (.blk b) → b.st ≠ .dead → n ∉ ns := fun n b hb hl hn => by
    obtain ⟨b', e1, e2⟩ := hd n hn
    rw [hb] at e1; injection e1 with e1; injection e1 with e1; subst e1; exact hl e2
  have back : ∀ n b, h1.at (n, 0) = some (.blk b) → b.st ≠ .dead → h.at (n, 0) = some (.blk b) := fun n b hb hl => by
    rw [← ho (n, 0) (.inr (live n b hb hl))]; exact hb
  have backm : ∀ n x, h1.at (n, 0) = some x → x.isObj = true → h.at (n, 0) = some x := fun n x hb hx => by
    by_cases hn : n ∈ ns
    · obtain ⟨b', e1, e2⟩ := hd n hn; rw [hb] at e1; injection e1 with e1; subst e1; cases hx
    · rw [← ho (n, 0) (.inr hn)]; exact hb
  refine ⟨fun n b hb hl => ?_, fun n b n2 b2 i i2 e1 e2 e3 e4 => hs.sole n b n2 b2 i i2 (back n b e1 (by rw [e2]; decide)) e2 (back n2 b2 e3 e4) e4, fun n x hm hx => hs.objs n x (backm n x hm hx) hx, fun n x n2 x2 i i2 e1 q1 e2 q2 => hs.objOne n x n2 x2 i i2 (backm _ _ e1 q1) q1 (backm _ _ e2 q2) q2, hs.dom, hs.room⟩
  obtain ⟨i, C, e, fz, hk⟩ := hs.lay n b (back n b hb hl) hl
  exact ⟨i, C, e, fz, hk.img, hk.size, hk.esz, hk.tot, hk.row, hk.fits, hk.new, hk.old, fun k v hkv hv => hk.cell k v hkv (by rw [← ho (n, k + 1) (.inl (by simp))]; exact hv)⟩
/-- A block's head is laid anew: its state turned, its elders dropped; no other block of its own memory alive if it is owned. -/
theorem Sim.head (hs : Sim m base h w) {n : Nat} {b b' : BI} (hb : h.at (n, 0) = some (.blk b)) (hd : b.st ≠ .dead) (h1 : b'.esz = b.esz) (h2 : b'.size = b.size) 
    (h5 : b'.st = .own → b.st = .own) (h6 : b'.st = .init ↔ b.st = .init) (h4 : b'.st = .own → ∀ n2 b2 i i2, h.at (n2, 0) = some (.blk b2) → b2.st ≠ .dead → m n = some i → m n2 = some i2 → i2.blk = i.blk → n2 ≠ n → n2 ∈ b'.olds ∧ b2.st ≠ .own ∧ i2.del + i2.size ≤ i.del + i.size) :
    Sim m base (h.put (n, 0) (.blk b')) w := by
  have hat : ∀ n', (h.put (n, 0) (.blk b')).at (n', 0) = if n' = n then some (.blk b') else h.at (n', 0) := fun n' => by
    rw [Heap.at_put]; by_cases e : n' = n <;> simp [e]
  have hat' : ∀ n' k, (h.put (n, 0) (.blk b')).at (n', k + 1) = h.at (n', k + 1) := fun n' k => by
    rw [Heap.at_put, if_neg]; intro e; cases e
  refine ⟨fun n1 b1 e1 e2 => ?_, fun n1 b1 n2 b2 i i2 e1 e2 e3 e4 e5 e6 e7 e8 => ?_, fun n1 x e1 hx => ?_, fun n1 x n2 x2 i i2 e1 q1 e2 q2 => ?_, hs.dom, hs.room⟩
  · rw [hat] at e1
    by_cases e : n1 = n
    · subst e
      rw [if_pos rfl] at e1; injection e1 with e1; injection e1 with e1; subst e1
      obtain ⟨i, C, e, fz, hk⟩ := hs.lay n1 b hb hd
      exact ⟨i, C, e, fz, hk.img, hk.size.trans h2.symm, hk.esz.trans h1.symm, hk.tot, hk.row, hk.fits, fun hn => ⟨(hk.new fun e => hn (h6.2 e)).1, fun q => (hk.new fun e => hn (h6.2 e)).2 (h5 q)⟩, fun hn => hk.old (h6.1 hn), fun k v hkv hv => hk.cell k v (h2 ▸ hkv) (by rw [← hat' n1 k]; exact hv)⟩
    · rw [if_neg e] at e1
      obtain ⟨i, C, e, fz, hk⟩ := hs.lay n1 b1 e1 e2
      exact ⟨i, C, e, fz, hk.img, hk.size, hk.esz, hk.tot, hk.row, hk.fits, hk.new, hk.old, fun k v hkv hv => hk.cell k v hkv (by rw [← hat' n1 k]; exact hv)⟩
  · rw [hat] at e1 e3
    by_cases e : n1 = n
    · subst e
      rw [if_pos rfl] at e1; injection e1 with e1; injection e1 with e1; subst e1
      rw [if_neg e8] at e3
      exact h4 e2 n2 b2 i i2 e3 e4 e5 e6 e7 e8
    · rw [if_neg e] at e1
      by_cases e' : n2 = n
      · subst e'
        rw [if_pos rfl] at e3; injection e3 with e3; injection e3 with e3; subst e3
        obtain ⟨g1, g2, g3⟩ := hs.sole n1 b1 n2 b i i2 e1 e2 hb hd e5 e6 e7 e8
        exact ⟨g1, fun e => g2 (h5 e), g3⟩
      · rw [if_neg e'] at e3
        exact hs.sole n1 b1 n2 b2 i i2 e1 e2 e3 e4 e5 e6 e7 e8
  · rw [hat] at e1
    by_cases e : n1 = n
    · rw [if_pos e] at e1; injection e1 with e1; subst e1; cases hx
    · rw [if_neg e] at e1; exact hs.objs n1 x e1 hx
  · rw [hat] at e1 e2
    by_cases e : n1 = n
    · rw [if_pos e] at e1; injection e1 with e1; subst e1; cases q1
    · by_cases e' : n2 = n
      · rw [if_pos e'] at e2; injection e2 with e2; subst e2; cases q2
      · rw [if_neg e] at e1; rw [if_neg e'] at e2; exact hs.objOne n1 x n2 x2 i i2 e1 q1 e2 q2
/-- A block that is owned and alone: what 'ownBlk' leaves. -/
theorem Sim.own (hs : Sim m base h w) {n c c2 : Nat} {b : BI} {lg lg2 : Log} {h2 : Heap} (hr : run (ownBlk n) c h lg = .ok b c2 h2 lg2) :
    c = c2 ∧ Sim m base h2 w ∧ (∃ b2, h2.at (n, 0) = some (.blk b2) ∧ b2.st = .own ∧ b2.size = b.size) ∧
      (∀ n2 b2 i i2, h2.at (n2, 0) = some (.blk b2) → b2.st ≠ .dead → m n = some i → m n2 = some i2 → i2.blk = i.blk → n2 = n) := by
  obtain ⟨b', c1, h1, lg1, e1, e2⟩ := run_bind_inv hr
  obtain ⟨hb, hd, rfl, rfl⟩ := run_blkAt_inv e1
  cases hst : b'.st with
  | own =>
    simp only [hst] at e2
    cases ho : b'.olds with
    | nil =>
      simp only [ho] at e2
      obtain ⟨rfl, rfl, rfl, _⟩ := run_ret_inv e2
      refine ⟨rfl, hs, ⟨b', hb, hst, rfl⟩, fun n2 b2 i i2 f1 f2 f3 f4 f5 => ?_⟩
      by_cases e : n2 = n
      · exact e
      · have := (hs.sole n b' n2 b2 i i2 hb hst f1 f2 f3 f4 f5 e).1
        rw [ho] at this; cases this
    | cons x xs =>
      simp only [ho] at e2
      obtain ⟨_, c3, h3, lg3, e3, e4⟩ := run_bind_inv e2
      obtain ⟨rfl, k1, k2⟩ := run_killAll_inv e3
      obtain ⟨_, c4, h4, lg4, e5, e6⟩ := run_bind_inv e4
      obtain ⟨rfl, rfl⟩ := run_put_inv e5
      obtain ⟨rfl, rfl, rfl, _⟩ := run_ret_inv e6
      have hs3 := hs.kill k1 k2
      have dead : ∀ n2 b2, h3.at (n2, 0) = some (.blk b2) → b2.st ≠ .dead → n2 ∉ x :: xs ∧ h.at (n2, 0) = some (.blk b2) := fun n2 b2 f1 f2 => by
        have hn : n2 ∉ x :: xs := fun hn => by
          obtain ⟨b3, g1, g2⟩ := k2 n2 hn
          rw [f1] at g1; injection g1 with g1; injection g1 with g1; subst g1; exact f2 g2
        exact ⟨hn, by rw [← k1 (n2, 0) (.inr hn)]; exact f1⟩
      obtain ⟨i0, C0, t0, fz0, hk0⟩ := hs.lay n b' hb hd
      have hat : ∀ n', (h3.put (n, 0) (.blk { b' with st := .own, olds := [] })).at (n', 0) = if n' = n then some (.blk { b' with st := .own, olds := [] }) else h3.at (n', 0) := fun n' => by
        rw [Heap.at_put]; by_cases e : n' = n <;> simp [e]
      have hat' : ∀ n' k, (h3.put (n, 0) (.blk { b' with st := .own, olds := [] })).at (n', k + 1) = h.at (n', k + 1) := fun n' k => by
        rw [Heap.at_put, if_neg (by intro e; cases e), k1 _ (.inl (by simp))]
      have alone : ∀ n2 b2 i i2, h3.at (n2, 0) = some (.blk b2) → b2.st ≠ .dead → m n = some i → m n2 = some i2 → i2.blk = i.blk → n2 = n := fun n2 b2 i i2 f1 f2 f3 f4 f5 => by
        obtain ⟨g1, g2⟩ := dead n2 b2 f1 f2
        by_cases e : n2 = n
        · exact e
        · have := (hs.sole n b' n2 b2 i i2 hb hst g2 f2 f3 f4 f5 e).1
          rw [ho] at this; exact absurd this g1
      refine ⟨rfl, ⟨fun n1 b1 f1 f2 => ?_, fun n1 b1 n2 b2 i i2 f1 f2 f3 f4 f5 f6 f7 f8 => ?_, fun n1 x f1 hx => ?_, fun n1 x n2 x2 i i2 f1 q1 f2 q2 => ?_, hs.dom, hs.room⟩, ⟨{ b' with st := .own, olds := [] }, by rw [hat, if_pos rfl], rfl, rfl⟩, fun n2 b2 i i2 f1 f2 f3 f4 f5 => ?_⟩
      · rw [hat] at f1
        by_cases e : n1 = n
        · subst e
          rw [if_pos rfl] at f1; injection f1 with f1; injection f1 with f1; subst f1
          exact ⟨i0, C0, t0, fz0, hk0.img, hk0.size, hk0.esz, hk0.tot, hk0.row, hk0.fits, fun _ => ⟨(hk0.new (by rw [hst]; decide)).1, fun _ => (hk0.new (by rw [hst]; decide)).2 hst⟩, (by intro e; cases e), fun k v hkv hv => hk0.cell k v hkv (by rw [← hat' n1 k]; exact hv)⟩
        · rw [if_neg e] at f1
          obtain ⟨i, C, t, fz, hk⟩ := hs3.lay n1 b1 f1 f2
          exact ⟨i, C, t, fz, hk.img, hk.size, hk.esz, hk.tot, hk.row, hk.fits, hk.new, hk.old, fun k v hkv hv => hk.cell k v hkv (by rw [k1 _ (.inl (by simp)), ← hat' n1 k]; exact hv)⟩
      · rw [hat] at f1 f3
        by_cases e : n1 = n
        · subst e
          rw [if_neg f8] at f3
          exact absurd (alone n2 b2 i i2 f3 f4 f5 f6 f7) f8
        · rw [if_neg e] at f1
          by_cases e' : n2 = n
          · subst e'
            have g := dead n1 b1 f1 (by rw [f2]; decide)
            exact absurd (alone n1 b1 i2 i f1 (by rw [f2]; decide) f6 f5 f7.symm) e
          · rw [if_neg e'] at f3
            exact hs3.sole n1 b1 n2 b2 i i2 f1 f2 f3 f4 f5 f6 f7 f8
      · rw [hat] at f1
        by_cases e : n1 = n
        · rw [if_pos e] at f1; injection f1 with f1; subst f1; cases hx
        · rw [if_neg e] at f1; exact hs3.objs n1 x f1 hx
      · rw [hat] at f1 f2
        by_cases e : n1 = n
        · rw [if_pos e] at f1; injection f1 with f1; subst f1; cases q1
        · by_cases e' : n2 = n
          · rw [if_pos e'] at f2; injection f2 with f2; subst f2; cases q2
          · rw [if_neg e] at f1; rw [if_neg e'] at f2; exact hs3.objOne n1 x n2 x2 i i2 f1 q1 f2 q2
      · rw [hat] at f1
        by_cases e : n2 = n
        · exact e
        · rw [if_neg e] at f1; exact alone n2 b2 i i2 f1 f2 f3 f4 f5
  | init => simp only [hst] at e2; cases e2
  | moved => simp only [hst] at e2; cases e2
  | dead => exact absurd hst hd
end Go.Ab
