/- Slices, addresses, lengths, simulated. -/
import Derived.Test.YtfleloeadbdbcaaGreatAbJ
namespace Go.Ab
open Go.RowKit
section
variable {P : Program} {m : Inj} {base : Nat} {h : Heap} {w : World}
theorem natOf_some {v : Value} {n : Nat} (hv : natOf v = some n) : ∃ k, v = .int k (.ofNat n) := by
  unfold natOf at hv; split at hv <;> simp at hv; subst hv; exact ⟨_, rfl⟩
theorem buildSlice_sim (hs : Sim m base h w) {t : TypeId} {len : Nat} {ps : List (Nat × Value)} {ps' : Array (Nat × Value)} {x : Value} {c : Nat} {lg : Log} {c2 : Nat} {h2 : Heap} {lg2 : Log} (hr : run (buildSliceT P t len ps) c h lg = .ok x c2 h2 lg2) (hc : m c = none) (hp : PRel m ps ps'.toList) :
    Leaves1 m base w c c2 h2 x ((Instr.buildSlice t len ps').run P w) := by
  unfold buildSliceT at hr
  split at hr
  · next e size cs hb =>
    unfold buildSliceL at hb
    cases he : elemOfSlice P t with
    | none => rw [he] at hb; cases hb
    | some e' =>
      rw [he] at hb
      simp only at hb
      split at hb
      · next size' z hz hzz =>
        rcases bite_or hb with ⟨hcnd, hb⟩ | ⟨_, hb⟩
        · simp only [Bool.and_eq_true, Nat.ble_eq, Nat.beq_eq] at hcnd
          obtain ⟨⟨b1, b2⟩, b3⟩ := hcnd
          simp only [Option.map_eq_some_iff, Prod.mk.injEq] at hb
          obtain ⟨cs', e1, rfl, rfl, rfl⟩ := hb
          have hf := (zeroOf_some hzz).2
          have hlen : z.cells.size = size' := by rw [cellsL_eq] at b3; simpa using b3
          have b1' : len * size' ≤ 16777216 := b1
          obtain ⟨n, c1, h1, lg1, e2, e3⟩ := run_bind_inv hr
          obtain ⟨rfl, rfl, rfl, _⟩ := run_ret_inv e3
          have hrep := rep_zero z.cells (by omega) len
          rw [hlen] at hrep
          have hzf := flat_cells hf m
          rw [cellsL_eq] at hzf e1
          obtain ⟨cs'', g1, g2⟩ := fill_sim e1 (cells' := (rep len z.cells.toList).toArray) (by simpa using LRel.rep hzf len) hp.1 hp.2
          obtain ⟨rfl, rfl, k1, k2⟩ := hs.fresh (ex := []) e2 hc g2 e'
          refine ⟨.slice (some ⟨w.heap.size, 0, none⟩) len len, _, _, ?_, VRel.sl (n := c) (o := 0) (upd_self m c _) (.inl rfl) (Nat.le_refl _), k1, k2, upd_names _ _ _⟩
          unfold Instr.buildSlice
          simp only [Sem.run_bind, run_underlying (elemOfSlice_some he), Result.andThen_ok, run_sizeOf hz]
          rw [if_neg (by omega)]
          by_cases h0 : len * size' = 0
          · simp only [h0, if_true]
            have hl0 : len = 0 := by rcases Nat.mul_eq_zero.1 h0 with q | q <;> omega
            subst hl0
            have hr0 : ∀ f : Nat → Value, (Array.range 0).map f = #[] := fun f => by simp
            have g1' : Instr.fill (fun i => some (i * size', size')) #[] ps'.toList = some cs'' := g1
            simp only [hr0, g1', Sem.run_bind, run_newRow, Result.andThen_ok, Sem.run_pure, List.append_nil, Array.toArray_toList]
          · simp only [h0, if_false, run_zeroValue hzz, Sem.run_bind, Sem.run_pure, Result.andThen_ok]
            have g1' : Instr.fill (fun i => some (i * size', size')) (rep len z.cells.toList).toArray ps'.toList = some cs'' := g1
            simp only [hlen, hrep, g1', Sem.run_bind, run_newRow, Result.andThen_ok, Sem.run_pure, List.append_nil, Array.toArray_toList]
        · cases hb
      · cases hb
  · cases hr
theorem run_sliceBound {k : IntKind} {n y : Nat} {code : BoundsCode} (hn : n ≤ y) : (Instr.sliceBound (.int k (.ofNat n)) y code).run P w = .ok n w := by
  unfold Instr.sliceBound
  simp only [asIntOf, Sem.run_bind, Sem.run_pure, Result.andThen_ok]
  rw [if_pos (by constructor; exact Int.natCast_nonneg n; exact Int.ofNat_le.2 hn)]
  rfl
theorem slice1_rel (hs : Sim m base h w) {size : Nat} {a a' : Option Addr} {len cap cap' l k mx mx' : Nat} {x : Value} {c : Nat} {lg : Log} {c2 : Nat} {h2 : Heap} {lg2 : Log} (hr : run (slice1 size a cap l k mx) c h lg = .ok x c2 h2 lg2)
    (hx : VRel m (.slice a len cap) (.slice a' len cap')) (hm : mx' = mx ∨ (mx = cap ∧ mx' = cap')) :
    c = c2 ∧ h = h2 ∧ l ≤ k ∧ k ≤ mx' ∧ mx' ≤ cap' ∧ VRel m x (.slice (if mx' = l then a' else a'.map (·.add (l * size))) (k - l) (mx' - l)) := by
  obtain ⟨hb, e1⟩ := run_whenT_inv hr
  simp only [Bool.and_eq_true, Nat.ble_eq] at hb
  obtain ⟨⟨⟨b1, b2⟩, b3⟩, b4⟩ := hb
  cases hx with
  | slNil =>
    obtain ⟨rfl, rfl, rfl, _⟩ := run_ret_inv e1
    have : mx = 0 := by omega
    subst this
    obtain rfl : k = 0 := by omega
    obtain rfl : l = 0 := by omega
    obtain rfl : mx' = 0 := by rcases hm with q | q <;> omega
    exact ⟨rfl, rfl, Nat.le_refl _, Nat.le_refl _, Nat.le_refl _, by simpa using VRel.slNil⟩
  | slEnd a a' =>
    obtain rfl : mx = 0 := by omega
    obtain rfl : k = 0 := by omega
    obtain rfl : l = 0 := by omega
    obtain rfl : mx' = 0 := by rcases hm with q | q <;> omega
    have e1' : ∃ x' lg0, run (T.ret (.slice (some x') 0 0)) c h lg0 = .ok x c2 h2 lg2 := by
      obtain ⟨b, o, sp⟩ := a
      cases sp with
      | some _ => cases e1
      | none =>
        obtain ⟨bi, c1, h1, lg1, e2, e3⟩ := run_bind_inv e1
        obtain ⟨_, _, rfl, rfl⟩ := run_blkAt_inv e2
        obtain ⟨_, e4⟩ := run_whenT_inv e3
        exact ⟨_, _, e4⟩
    obtain ⟨x', lg0, e2⟩ := e1'
    obtain ⟨rfl, rfl, rfl, _⟩ := run_ret_inv e2
    exact ⟨rfl, rfl, Nat.le_refl _, Nat.le_refl _, Nat.le_refl _, by simpa using VRel.slEnd x' a'⟩
  | @sl n o i _ _ _ hi hcap hl =>
    obtain ⟨bi, c1, h1, lg1, e2, e3⟩ := run_bind_inv e1
    obtain ⟨hbk, hd, rfl, rfl⟩ := run_blkAt_inv e2
    obtain ⟨hes, e4⟩ := run_whenT_inv e3
    obtain ⟨rfl, rfl, rfl, _⟩ := run_ret_inv e4
    rw [Nat.beq_eq] at hes
    obtain ⟨i', C, e, fz, hk⟩ := hs.lay n bi hbk hd
    obtain rfl : i' = i := by have := hk.img; rw [hi] at this; injection this with this; exact this.symm
    have hesz : i'.esz = size := hk.esz.trans hes
    have hcc : cap ≤ cap' := by rcases hcap with q | q <;> omega
    have hmx : mx ≤ mx' ∧ mx' ≤ cap' := by rcases hm with q | q <;> omega
    refine ⟨rfl, rfl, b1, by omega, hmx.2, ?_⟩
    by_cases hq : mx' = l
    · rw [if_pos hq]
      obtain rfl : k = l := by omega
      obtain rfl : mx = k := by omega
      subst hq
      simp only [Nat.sub_eq, Nat.sub_self]
      exact .slEnd _ _
    · rw [if_neg hq]
      simp only [Option.map_some, add_at]
      rw [show o + i'.del + l * size = (o + l * size) + i'.del by omega]
      refine VRel.sl hi ?_ (by simp only [Nat.sub_eq]; omega)
      simp only [Nat.sub_eq]
      rcases hm with rfl | ⟨rfl, rfl⟩
      · exact .inl rfl
      · rcases hcap with rfl | ⟨q1, q2, q5⟩
        · exact .inl rfl
        · refine .inr ⟨by omega, ?_, ?_⟩
          · show o + l * size + (mx - l) * i'.esz = i'.size
            rw [← q2, hesz, Nat.sub_mul]
            have := Nat.mul_le_mul_right size (show l ≤ mx by omega)
            omega
          · show o + l * size + i'.del + (mx' - l) * i'.esz ≤ i'.tot
            rw [hesz] at q5 ⊢
            rw [Nat.sub_mul]
            have := Nat.mul_le_mul_right size (show l ≤ mx' by omega)
            omega
theorem optNat_some {d n : Nat} {v : Option Value} (hv : optNat d v = some n) : (v = none ∧ n = d) ∨ ∃ k, v = some (.int k (.ofNat n)) := by
  cases v with
  | none => simp [optNat] at hv; exact .inl ⟨rfl, hv.symm⟩
  | some v => obtain ⟨k, rfl⟩ := natOf_some hv; exact .inr ⟨k, rfl⟩
inductive ORel (m : Inj) : Option Value → Option Value → Prop where
  | none : ORel m none none
  | some {v v' : Value} (h : VRel m v v') : ORel m (some v) (some v')
theorem ORel.flat {o o' : Option Value} (h : ORel m o o') (hf : optFlat o = true) : o' = o := by
  cases h with
  | none => rfl
  | some h => rw [flat_eq hf h]
theorem slice_sim (hs : Sim m base h w) {t : TypeId} {x x' : Value} {lo hi mx lo' hi' mx' : Option Value} {v : Value} {c : Nat} {lg : Log} {c2 : Nat} {h2 : Heap} {lg2 : Log} (hr : run (sliceT P t x lo hi mx) c h lg = .ok v c2 h2 lg2)
    (hx : VRel m x x') (hlo : ORel m lo lo') (hhi : ORel m hi hi') (hmx : ORel m mx mx') : c = c2 ∧ h = h2 ∧ ∃ v', (Instr.sliceAt t x' lo' hi' mx').run P w = .ok v' w ∧ VRel m v v' := by
  unfold sliceT at hr
  split at hr
  · next e hu =>
    split at hr
    · next a len cap =>
      obtain ⟨a', cap', rfl⟩ : ∃ a' cap', x' = .slice a' len cap' := by cases hx <;> exact ⟨_, _, rfl⟩
      split at hr
      · next size l hv mv hsz hl =>
        split at hr
        · next hN mN hh hmm =>
          obtain ⟨kh, rfl⟩ := natOf_some hh
          obtain ⟨km, rfl⟩ := natOf_some hmm
          cases hhi with
          | some hq => cases hq; cases hmx with
            | some hq =>
              cases hq
              obtain ⟨rfl, rfl, q1, q2, q3, q4⟩ := slice1_rel hs hr hx (.inl rfl)
              refine ⟨rfl, rfl, _, ?_, q4⟩
              unfold Instr.sliceAt Instr.slice Instr.sliceBounds
              rcases optNat_some hl with ⟨rfl, rfl⟩ | ⟨kl, rfl⟩
              · cases hlo
                simp only [Sem.run_bind, run_underlying hu, Result.andThen_ok, run_sliceBound q3, run_sliceBound q2, Sem.run_pure, run_sizeOf hsz]
              · cases hlo with
                | some hq =>
                  cases hq
                  simp only [Sem.run_bind, run_underlying hu, Result.andThen_ok, run_sliceBound q3, run_sliceBound q2, run_sliceBound q1, Sem.run_pure, run_sizeOf hsz]
        · cases hr
      · next size l hv hsz hl =>
        split at hr
        · next hN hh =>
          obtain ⟨kh, rfl⟩ := natOf_some hh
          cases hhi with
          | some hq =>
            cases hq
            cases hmx
            obtain ⟨rfl, rfl, q1, q2, q3, q4⟩ := slice1_rel (mx' := cap') hs hr hx (.inr ⟨rfl, rfl⟩)
            refine ⟨rfl, rfl, _, ?_, q4⟩
            unfold Instr.sliceAt Instr.slice Instr.sliceBounds
            rcases optNat_some hl with ⟨rfl, rfl⟩ | ⟨kl, rfl⟩
            · cases hlo
              simp only [Sem.run_bind, run_underlying hu, Result.andThen_ok, run_sliceBound q2, Sem.run_pure, run_sizeOf hsz]
            · cases hlo with
              | some hq =>
                cases hq
                simp only [Sem.run_bind, run_underlying hu, Result.andThen_ok, run_sliceBound q2, run_sliceBound q1, Sem.run_pure, run_sizeOf hsz]
        · cases hr
      · next size l hsz hl =>
        cases hhi; cases hmx
        obtain ⟨rfl, rfl, q1, q2, q3, q4⟩ := slice1_rel (mx' := cap') hs hr hx (.inr ⟨rfl, rfl⟩)
        refine ⟨rfl, rfl, _, ?_, q4⟩
        unfold Instr.sliceAt Instr.slice Instr.sliceBounds
        rcases optNat_some hl with ⟨rfl, rfl⟩ | ⟨kl, rfl⟩
        · cases hlo
          simp only [Sem.run_bind, run_underlying hu, Result.andThen_ok, Sem.run_pure, run_sizeOf hsz]
        · cases hlo with
          | some hq =>
            cases hq
            simp only [Sem.run_bind, run_underlying hu, Result.andThen_ok, run_sliceBound q1, Sem.run_pure, run_sizeOf hsz]
      · cases hr
    · cases hr
  · next hu =>
    split at hr
    · next s =>
      cases hx
      rcases bite_or (z := run (T.fail : T Value) c h lg) (b := optFlat lo && optFlat hi && optFlat mx) (x := run (T.fail : T Value) c h lg) (y := run (T.fail : T Value) c h lg) (by cases (optFlat lo && optFlat hi && optFlat mx) <;> rfl) with ⟨hb, _⟩ | ⟨hb, _⟩
      · rw [hb, bite_true] at hr
        simp only [Bool.and_eq_true] at hb
        obtain ⟨e, hv, rfl, rfl⟩ := run_ofFlat_inv hr
        obtain rfl := hlo.flat hb.1.1
        obtain rfl := hhi.flat hb.1.2
        obtain rfl := hmx.flat hb.2
        refine ⟨rfl, rfl, v, ?_, flat_refl m hv⟩
        unfold Instr.sliceAt
        simp only [Sem.run_bind, run_underlying hu, Result.andThen_ok]
        exact pureRun_run P _ _ e w
      · rw [hb] at hr; cases hr
    · cases hr
  · cases hr
theorem fieldAddr_sim {s : TypeId} {x x' : Value} {f : Nat} {v : Value} {c : Nat} {lg : Log} {c2 : Nat} {h2 : Heap} {lg2 : Log} (hr : run (fieldAddrT P s x f) c h lg = .ok v c2 h2 lg2) (hx : VRel m x x') :
    c = c2 ∧ h = h2 ∧ ∃ v', (Instr.fieldAt s x' f).run P w = .ok v' w ∧ VRel m v v' := by
  unfold fieldAddrT at hr
  split at hr
  · next b o =>
    cases hx with
    | @ptr _ _ i hi =>
      split at hr
      · next fields hu =>
        split at hr
        · next fd hfd =>
          split at hr
          · next k hk =>
            obtain ⟨hb, e1⟩ := run_whenT_inv hr
            obtain ⟨rfl, rfl, rfl, _⟩ := run_ret_inv e1
            rw [Nat.ble_eq] at hb
            refine ⟨rfl, rfl, .pointer (some ⟨i.blk, (o + fd.offset) + i.del, none⟩), ?_, .ptr hi⟩
            unfold Instr.fieldAt
            simp only [Sem.run_bind, run_underlying hu, Result.andThen_ok, hfd, Instr.sureAddr, Sem.run_pure, fieldPlace, run_sizeOf hk]
            rw [if_neg (by omega)]
            simp only [Sem.run_pure, Result.andThen_ok, add_at, show o + i.del + fd.offset = o + fd.offset + i.del by omega]
          · cases hr
        · cases hr
      · cases hr
  · cases hr
theorem indexAddr_sim {t : TypeId} {x x' i i' : Value} {v : Value} {c : Nat} {lg : Log} {c2 : Nat} {h2 : Heap} {lg2 : Log} (hr : run (indexAddrT P t x i) c h lg = .ok v c2 h2 lg2) (hx : VRel m x x') (hi : VRel m i i') :
    c = c2 ∧ h = h2 ∧ ∃ v', (Instr.indexAt t x' i').run P w = .ok v' w ∧ VRel m v v' := by
  unfold indexAddrT at hr
  split at hr
  · next n hn =>
    obtain ⟨k, rfl⟩ := natOf_some hn
    cases hi
    have hin : ∀ len : Nat, n < len → (0 ≤ Int.ofNat n ∧ Int.ofNat n < (len : Int)) := fun len q => ⟨Int.natCast_nonneg n, Int.ofNat_lt.2 q⟩
    split at hr
    · next e hu =>
      split at hr
      · next b o len cap =>
        split at hr
        · next size hsz =>
          obtain ⟨hb, e1⟩ := run_whenT_inv hr
          obtain ⟨rfl, rfl, rfl, _⟩ := run_ret_inv e1
          rw [blt_iff] at hb
          cases hx with
          | @sl _ _ im _ _ cap' him hcap hl =>
            refine ⟨rfl, rfl, .pointer (some ⟨im.blk, (o + n * size) + im.del, none⟩), ?_, .ptr him⟩
            unfold Instr.indexAt
            simp only [asIntOf, Sem.run_bind, run_underlying hu, Result.andThen_ok, Sem.run_pure]
            rw [if_pos (hin len hb)]
            simp only [run_sizeOf hsz, Sem.run_bind, Result.andThen_ok, Sem.run_pure, add_at, Int.ofNat_eq_natCast, Int.toNat_natCast, show o + im.del + n * size = o + n * size + im.del by omega]
          | slEnd a a' => exact absurd hb (Nat.not_lt_zero _)
        · cases hr
      · cases hr
    · next len e hu =>
      split at hr
      · next b o =>
        split at hr
        · next size hsz =>
          obtain ⟨hb, e1⟩ := run_whenT_inv hr
          obtain ⟨rfl, rfl, rfl, _⟩ := run_ret_inv e1
          rw [blt_iff] at hb
          cases hx with
          | @ptr _ _ im him =>
            refine ⟨rfl, rfl, .pointer (some ⟨im.blk, (o + n * size) + im.del, none⟩), ?_, .ptr him⟩
            unfold Instr.indexAt
            simp only [asIntOf, Sem.run_bind, run_underlying hu, Result.andThen_ok, Sem.run_pure, Instr.sureAddr]
            rw [if_pos (hin len hb)]
            simp only [run_sizeOf hsz, Sem.run_bind, Result.andThen_ok, Sem.run_pure, add_at, Int.ofNat_eq_natCast, Int.toNat_natCast, show o + im.del + n * size = o + n * size + im.del by omega]
        · cases hr
      · cases hr
    · cases hr
  · cases hr
end
end Go.Ab
