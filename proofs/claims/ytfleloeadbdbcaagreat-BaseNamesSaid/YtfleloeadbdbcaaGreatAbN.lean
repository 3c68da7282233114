/- append as a whole; copy, clear, len, min, max, simulated. -/
import Derived.Test.YtfleloeadbdbcaaGreatAbM
namespace Go.Ab
open Go.RowKit
section
variable {P : Program} {m : Inj} {base : Nat} {h : Heap} {w : World}
theorem LRel.two {a b : Value} {args' : Array Value} (h : LRel m [a, b] args'.toList) : ∃ a' b', args' = #[a', b'] ∧ VRel m a a' ∧ VRel m b b' := by
  obtain ⟨l⟩ := args'
  cases h with
  | cons h1 hs => cases hs with
    | cons h2 hs => cases hs with
      | nil => exact ⟨_, _, rfl, h1, h2⟩
theorem LRel.one1 {a : Value} {args' : Array Value} (h : LRel m [a] args'.toList) : ∃ a', args' = #[a'] ∧ VRel m a a' := by
  obtain ⟨l⟩ := args'
  cases h with
  | cons h1 hs => cases hs with
    | nil => exact ⟨_, rfl, h1⟩
/-- What a program of items comes to: nothing but its values, whatever the memory's counter. -/
structure ItemsOf (P : Program) (m : Inj) (h : Heap) (w : World) (argTypes : Array TypeId) (it : TypeInfo) (z x' : Value) (n : Nat) (items : T (List Value)) : Prop where
  out : ∀ {vs : List Value} {c : Nat} {lg : Log} {c2 : Nat} {h2 : Heap} {lg2 : Log}, run items c h lg = .ok vs c2 h2 lg2 →
    c = c2 ∧ h = h2 ∧ vs.length = n * it.size ∧ ∃ vs' : Array Value, LRel m vs vs'.toList ∧ Items P w argTypes it z x' n vs'
theorem flatL_append (f : Value → Bool) : ∀ (a b : List Value), flatL f (a ++ b) = (flatL f a && flatL f b)
  | [], b => by simp [flatL_nil]
  | v :: a, b => by rw [List.cons_append, flatL_cons, flatL_cons, flatL_append f a b, Bool.and_assoc]
theorem run_newBlk_atomic {elem esz : Nat} {vs : List Value} {olds : List Nat} {n c : Nat} {h : Heap} {lg : Log} {c2 : Nat} {h2 : Heap} {lg2 : Log} (hr : run (newBlk elem esz vs olds) c h lg = .ok n c2 h2 lg2) : flatL atomic vs = true := (run_newBlk_inv hr).1
theorem append1_sim (hs : Sim m base h w) {argTypes : Array TypeId} {st e ty : TypeId} {it : TypeInfo} {z : Value} {b b' : Option Addr} {len cap cap' n : Nat} {x' v : Value} {items : T (List Value)} {c : Nat} {lg : Log} {c2 : Nat} {h2 : Heap} {lg2 : Log}
    (hst : argTypes[0]? = some st) (hu : P.underlying st = some (.slice e)) (hi : P.info? e = some it) (hz : it.zero = some z) (hzs : z.cells.size = it.size)
    (hI : ItemsOf P m h w argTypes it z x' n items) (hx : VRel m (.slice b len cap) (.slice b' len cap')) (hc : ∀ k, c ≤ k → k < c2 → m k = none)
    (hr : run (append1 e it.size it.bytes b len cap n items) c h lg = .ok v c2 h2 lg2) :
    Leaves1 m base w c c2 h2 v ((Builtin.append_ argTypes ty #[.slice b' len cap', x']).run P w) := by
  obtain ⟨hb, e1⟩ := run_whenT_inv hr
  simp only [Bool.and_eq_true, Nat.ble_eq] at hb
  obtain ⟨⟨b1, b2⟩, b3⟩ := hb
  have b1 : (len + n) * it.bytes ≤ 1099511627776 := b1
  have b2 : len + n ≤ 1099511627776 := b2
  cases hle : Nat.ble (Nat.add len n) cap with
  | true =>
    rw [hle, bite_true] at e1
    have hle : len + n ≤ cap := Nat.le_of_ble_eq_true hle
    obtain ⟨vs, c1, h1, lg1, e2, e3⟩ := run_bind_inv e1
    obtain ⟨rfl, rfl, hlen, vs', hv, hit⟩ := hI.out e2
    cases hx with
    | slNil =>
      obtain ⟨rfl, rfl, rfl, _⟩ := run_ret_inv e3
      obtain rfl : n = 0 := by omega
      refine ⟨_, m, w, conc_in hst hu hi hz hit (Nat.le_refl _) b1, .slNil, hs, .refl _ _ _, Names.refl _ _ _⟩
    | slEnd a a' =>
      obtain rfl : n = 0 := by omega
      have hvs : vs = [] := List.length_eq_zero_iff.1 (by rw [hlen]; simp)
      subst hvs
      have hvs' : vs'.toList = [] := by cases vs' with | mk l => cases hv; rfl
      have e3' : c = c2 ∧ h = h2 ∧ ∃ x, v = .slice (some x) 0 0 := by
        obtain ⟨bb, o, sp⟩ := a
        cases sp with
        | some _ => cases e3
        | none =>
          obtain ⟨_, c3, h3, lg3, e4, e5⟩ := run_bind_inv e3
          obtain ⟨_, rfl, rfl, _⟩ := run_ret_inv e4
          obtain ⟨rfl, rfl, rfl, _⟩ := run_ret_inv e5
          exact ⟨rfl, rfl, _, rfl⟩
      obtain ⟨rfl, rfl, x, rfl⟩ := e3'
      refine ⟨.slice (some a') 0 0, m, w, ?_, .slEnd x a', hs, .refl _ _ _, Names.refl _ _ _⟩
      rw [conc_in hst hu hi hz hit (Nat.le_refl _) b1]
      simp only [hvs']
      rfl
    | @sl bn o i _ _ _ him hcap hl =>
      obtain ⟨_, c3, h3, lg3, e4, e5⟩ := run_bind_inv e3
      obtain ⟨rfl, rfl, rfl, _⟩ := run_ret_inv e5
      obtain ⟨rfl, w', g1, g2, g3⟩ := storeCells_sim (P := P) hs e4 him hv
      refine ⟨.slice (some ⟨i.blk, o + i.del, none⟩) (len + n) cap', m, w', ?_, .sl him hcap hle, g2, g3, Names.refl _ _ _⟩
      rw [conc_in hst hu hi hz hit (by rcases hcap with q | q <;> omega) b1]
      simp only [add_at]
      rw [show o + i.del + len * it.size = Nat.add o (Nat.mul len it.size) + i.del by simp only [Nat.add_eq, Nat.mul_eq]; omega, g1]
      rfl
  | false =>
    rw [hle, bite_false] at e1
    unfold appendGrow at e1
    have hlt : cap < len + n := by
      rcases Nat.lt_or_ge cap (len + n) with q | q
      · exact q
      · rw [show Nat.ble (Nat.add len n) cap = true from Nat.ble_eq_true_of_le q] at hle; cases hle
    cases b with
    | none =>
      cases hx
      obtain ⟨hl0, e2⟩ := run_whenT_inv e1
      obtain ⟨vs, c1, h1, lg1, e3, e4⟩ := run_bind_inv e2
      obtain ⟨rfl, rfl, hlen, vs', hv, hit⟩ := hI.out e3
      obtain ⟨nb, c3, h3, lg3, e5, e6⟩ := run_bind_inv e4
      obtain ⟨rfl, rfl, rfl, _⟩ := run_ret_inv e6
      obtain ⟨newCap, k1, k2⟩ := conc_grow (olds := #[]) (b := none) (cap := 0) (ty := ty) hst hu hi hz hit hlt b1 b2 (fun W _ => rfl)
      have hcm : m c = none := hc c (Nat.le_refl _) (by have := (run_newBlk_inv e5).2.2.1; omega)
      have := fresh_grow (old := []) (old' := #[]) hs e5 hcm .nil hv hzs k1 (by simpa using hlen) e k2
      simpa using this
    | some a =>
      obtain ⟨bn, o, sp⟩ := a
      cases sp with
      | some _ => cases e1
      | none =>
        obtain ⟨old, c1, h1, lg1, e2, e3⟩ := run_bind_inv e1
        have e2' : run (firstT it.size len (.slice (some ⟨bn, o, none⟩) len cap)) c h lg = .ok old c1 h1 lg1 := by
          show run (bite (Nat.ble len len) _ _) c h lg = _
          rw [Nat.ble_eq_true_of_le (Nat.le_refl len), bite_true]; exact e2
        obtain ⟨rfl, rfl, holen, old', ho, hof⟩ := first_sim (P := P) hs e2' hx
        obtain ⟨vs, c3, h3, lg3, e4, e5⟩ := run_bind_inv e3
        obtain ⟨rfl, rfl, hlen, vs', hv, hit⟩ := hI.out e4
        obtain ⟨bi, c4, h4, lg4, e6, e7⟩ := run_bind_inv e5
        obtain ⟨hbk, hd, rfl, rfl⟩ := run_blkAt_inv e6
        obtain ⟨hcnd, e8⟩ := run_whenT_inv e7
        simp only [Bool.and_eq_true, Nat.beq_eq, Nat.ble_eq] at hcnd
        obtain ⟨k1, k2⟩ := hcnd
        have k2 : o + cap * it.size ≤ bi.size := k2
        obtain ⟨nb, c5, h5, lg5, e9, e10⟩ := run_bind_inv e8
        obtain ⟨rfl, rfl, rfl, _⟩ := run_ret_inv e10
        obtain ⟨i, C, t, fz, hk⟩ := hs.lay bn bi hbk hd
        have hll : (old ++ vs).length = (len + n) * it.size := by rw [List.length_append, holen, hlen, Nat.add_mul]
        cases hbl : Nat.blt (Nat.add o (Nat.mul cap it.size)) bi.size with
        | true =>
          rw [hbl, bite_true] at e9
          rw [blt_iff] at hbl
          have hbl : o + cap * it.size < bi.size := hbl
          have hcc : cap' = cap := by
            cases hx with
            | slEnd => rfl
            | @sl _ _ i' _ _ _ him hcap hl =>
              have : i' = i := by have := hk.img; rw [him] at this; injection this
              subst this
              rcases hcap with q | ⟨_, q, _⟩
              · exact q
              · exfalso; rw [hk.esz.trans k1, hk.size] at q; omega
          subst hcc
          obtain ⟨newCap, q1, q2⟩ := conc_grow (ty := ty) hst hu hi hz hit hlt b1 b2 hof
          have hcm : m c = none := hc c (Nat.le_refl _) (by have := (run_newBlk_inv e9).2.2.1; omega)
          exact fresh_grow hs e9 hcm ho hv hzs q1 hll e q2
        | false =>
          rw [hbl, bite_false] at e9
          have heq : o + cap * it.size = bi.size := by
            rcases Nat.lt_or_ge (o + cap * it.size) bi.size with q | q
            · have hbl' : Nat.blt (o + cap * it.size) bi.size = true := (blt_iff _ _).mpr q
              have hbl2 : Nat.blt (o + cap * it.size) bi.size = false := hbl
              rw [hbl'] at hbl2; cases hbl2
            · omega
          obtain ⟨hown, h1, lg1, olds, hs1, e11, hlive⟩ := growT_inv hs hbk hd hk.img e9
          have hcm : m c = none := hc c (Nat.le_refl _) (by have := (run_newBlk_inv e11).2.2.1; omega)
          by_cases hq : len + n ≤ cap'
          · cases hx with
            | slEnd => omega
            | @sl _ _ i' _ _ _ him hcap hl =>
              obtain rfl : i' = i := by have := hk.img; rw [him] at this; injection this
              obtain ⟨q1, q2, q3⟩ : cap ≤ cap' ∧ o + cap * i'.esz = i'.size ∧ o + i'.del + cap' * i'.esz ≤ i'.tot := by
                rcases hcap with q | q
                · omega
                · exact q
              have hesz : i'.esz = it.size := hk.esz.trans k1
              rw [hesz] at q2 q3
              have hfz := (hk.new (by rw [hown]; decide)).2 hown
              subst hfz
              have hvl : vs'.toList.length = n * it.size := by rw [hv.length, hlen]
              have hmul : len * it.size + n * it.size ≤ cap' * it.size := by rw [← Nat.add_mul]; exact Nat.mul_le_mul_right _ hq
              have hfit : o + i'.del + len * it.size + vs'.toList.length ≤ C.size := by have := hk.tot; omega
              have hat := run_newBlk_atomic e11
              rw [flatL_append, Bool.and_eq_true] at hat
              obtain ⟨rfl, rfl, g1, g2⟩ := grow_in (q := o + i'.del) (p := o + i'.del + len * it.size) hs1 e11 hcm hk.row (hk.new (by rw [hown]; decide)).1 ⟨bn, i', him, rfl⟩
                (fun n2 b2 i2 f1 f2 f3 f4 => by
                  obtain ⟨z1, z2, z3, z4⟩ := hlive n2 b2 i2 f1 f2 f3 f4
                  refine ⟨z1, z2, ?_⟩
                  rw [Nat.beq_eq] at z3
                  subst z3
                  omega)
                (fun k u hku => by
                  obtain ⟨_, _, _, _, hg, _⟩ := loadN_sim hs e2 him
                  have hkl : k < old.length := by
                    rcases Nat.lt_or_ge k old.length with z | z
                    · exact z
                    · rw [List.getElem?_eq_none z] at hku; cases hku
                  have hks : o + k < bi.size := by
                    have : len * it.size ≤ cap * it.size := Nat.mul_le_mul_right _ hl
                    omega
                  obtain ⟨v', y1, y2⟩ := hk.cell (o + k) u hks (hg k u hku)
                  exact ⟨v', by rw [show o + i'.del + k = i'.del + (o + k) by omega]; exact y1, y2⟩)
                (by rw [holen]) hv hfit
              refine ⟨.slice (some ⟨i'.blk, o + i'.del, none⟩) (len + n) cap', _, _, ?_, ?_, g1, g2, upd_names _ _ _⟩
              · rw [conc_in hst hu hi hz hit hq b1]
                simp only [add_at]
                have := run_storeCells_at (P := P) i'.blk (o + i'.del + len * it.size) t vs'.toList 0 C w hk.row (by omega) (hv.atomic hat.2)
                rw [this]
                simp [over]
              · have := VRel.sl (m := upd m c ⟨i'.blk, o + i'.del, (old ++ vs).length, it.size, C.size⟩) (n := c) (o := 0) (len := len + n) (cap := len + n) (cap' := cap') (upd_self _ _ _)
                  (.inr ⟨hq, by simp only; rw [hll]; omega, by simp only; have := hk.tot; omega⟩) (Nat.le_refl _)
                simpa using this
          · obtain ⟨newCap, q1, q2⟩ := conc_grow (ty := ty) hst hu hi hz hit (by omega) b1 b2 hof
            exact fresh_grow hs1 e11 hcm ho hv hzs q1 hll e q2
end
end Go.Ab
