/- cell.Nearest, (words).nearest, where all is right. -/
import Derived.Test.YtpcacklmelokiaaBookE
namespace Go.Proofs.Ytpcacklmelokiaa.G
open Go.RowKit Go.Shelf Go.Proofs.YtpcacklmelokiaaW.PrintWords
attribute [local go_sem] Oper.semAt_some
set_option linter.unusedVariables false
set_option linter.unusedSimpArgs false

/-- How far each cent is. -/
def distsOf (cs : List (List Int)) (v : List Int) (j : Nat) : Int := distV (cs.getD j []) v
theorem pairE_zero {a b : List Int} (ha : checkWide a = 0) (hb : checkWide b = 0) (hl : a.length = b.length) : pairE a b = 0 := by simp [pairE, ha, hb, hl]
theorem distOf_of {A0 : Option Addr} {cs : List (List Int)} {A1 : Option Addr} {c1 : Nat} {v : List Int} {w : World} (hr : Kd.C (Kd.slice 21 (Kd.int .i32)) w A0 cs.length cs) (hv : Kd.C (Kd.int .i32) w A1 v.length v) (hok : CentsOK cs v) :
    DistOf A0 cs.length A1 v.length c1 (distsOf cs v) w := by
  intro j hj
  obtain ⟨ad, A', c', e, hx, _, hC⟩ := rows_get hr j hj
  have hm : cs.getD j [] ∈ cs := by
    rw [List.getD_eq_getElem?_getD, List.getElem?_eq_getElem hj]
    exact List.getElem_mem hj
  refine ⟨ad, A', _, c', e, hx, fun W hW => ?_⟩
  have h := Dist_calls A' c' (cs.getD j []) A1 c1 v W (Kd.C_below hC hW) (Kd.C_below hv hW)
  rw [pairE_zero (hok.wide _ hm) hok.vec (hok.long _ hm)] at h
  exact h

theorem near_store {w1 W : World} {b : Nat} {t8 t9 t10 t11 : TypeId} {v8 v9 v10 v11 : Value} (u8 u9 : Value) (hb : w1.heap.size = b) (H8 : Boxed W b t8 v8) (H9 : Boxed W (b + 1) t9 v9) (HS : Boxed W (b + 1 + 1) t10 v10) (HC : Boxed W (b + 1 + 1 + 1) t11 v11) (HB : Below b w1 W) (B : Nat) :
    KeepsFrom B W ((W.setCell ⟨b, 0, none⟩ u8).setCell ⟨b + 1, 0, none⟩ u9) ∧ KeepD w1 (b + 1 + 1) (b + 1 + 1 + 1) W ((W.setCell ⟨b, 0, none⟩ u8).setCell ⟨b + 1, 0, none⟩ u9) ∧
      (Boxed ((W.setCell ⟨b, 0, none⟩ u8).setCell ⟨b + 1, 0, none⟩ u9) b t8 u8 ∧ Boxed ((W.setCell ⟨b, 0, none⟩ u8).setCell ⟨b + 1, 0, none⟩ u9) (b + 1) t9 u9) ∧
      (Boxed ((W.setCell ⟨b, 0, none⟩ u8).setCell ⟨b + 1, 0, none⟩ u9) (b + 1 + 1) t10 v10 ∧ Boxed ((W.setCell ⟨b, 0, none⟩ u8).setCell ⟨b + 1, 0, none⟩ u9) (b + 1 + 1 + 1) t11 v11) ∧
      Below b w1 ((W.setCell ⟨b, 0, none⟩ u8).setCell ⟨b + 1, 0, none⟩ u9) := by
  subst hb
  have hS2 := (HS.other (show w1.heap.size + 1 + 1 ≠ w1.heap.size by omega) u8).other (show w1.heap.size + 1 + 1 ≠ w1.heap.size + 1 by omega) u9
  have hC2 := (HC.other (show w1.heap.size + 1 + 1 + 1 ≠ w1.heap.size by omega) u8).other (show w1.heap.size + 1 + 1 + 1 ≠ w1.heap.size + 1 by omega) u9
  have hB2 : Below w1.heap.size w1 ((W.setCell ⟨w1.heap.size, 0, none⟩ u8).setCell ⟨w1.heap.size + 1, 0, none⟩ u9) := (HB.setCell (p := ⟨w1.heap.size, 0, none⟩) (Nat.le_refl _) u8).setCell (p := ⟨w1.heap.size + 1, 0, none⟩) (Nat.le_succ _) u9
  refine ⟨((KeepsOthers.setCell _ _ _).trans (KeepsOthers.setCell _ _ _)).from _, ⟨⟨hS2.trans HS.symm, hC2.trans HC.symm⟩, fun _ => hB2⟩, ⟨(H8.set u8).other (by omega) u9, (H9.other (by omega) u8).set u9⟩, ⟨hS2, hC2⟩, hB2⟩

set_option maxRecDepth 100000 in
set_option maxHeartbeats 2000000 in
theorem Nearest_calls (A0 : Option Addr) (c0 : Nat) (cs : List (List Int)) (A1 : Option Addr) (c1 : Nat) (v : List Int) (w : World) (hr : Kd.C (Kd.slice 21 (Kd.int .i32)) w A0 cs.length cs) (hv : Kd.C (Kd.int .i32) w A1 v.length v) (hok : CentsOK cs v) :
    Calls Try.prog 68 #[.slice A0 cs.length c0, .slice A1 v.length c1] w fun e w' => e = .returned (.tuple #[.int .i64 (nearTo (distsOf cs v) cs.length).1, .int .i64 (nearTo (distsOf cs v) cs.length).2, .int .i64 0]) ∧ Below w.heap.size w w' := by
  have HBo := Aside0.mk (both_c A0 c0 cs A1 c1 v w hr hv hok)
  have HD := Aside0.mk (fun W (hW : Below w.heap.size w W) => distOf_of (c1 := c1) (Kd.C_below hr hW) (Kd.C_below hv hW) hok)
  have hlen : cs.length ≤ 1000000 := Nat.le_trans hok.most (by decide)
  have HA := Aside0.mk (nearF_all (distsOf cs v) cs.length)
  clear hr hv hok
  generalize distsOf cs v = D at *
  generalize hN : cs.length = N at *
  generalize v.length = m at *
  have hfb : Fence.wide.fn 71 := trivial
  have hfd : Fence.wide.fn 72 := trivial
  refine (callsIn_wide (n := 4)).1 ?_
  refine callsIn_of_wp_marks Try.func68 rfl trivial ?_ rfl
  simp only [Try.ntmps68, List.size_toArray, List.length_cons, List.length_nil, Nat.reduceAdd, Nat.reduceSub, Array.replicate_succ, Array.replicate_zero, List.push_toArray, List.append_toArray, List.nil_append, List.cons_append]
  gi_wp2_with (first | (gi_at_call 71; refine (callsIn_wide.2 HBo.out).mono ?_; rintro e w1 ⟨rfl, hb⟩; have HB1 := Aside0.mk hb; clear hb) | (gi_at_call 72; refine (dists_in _ _ _ _ _ _ _ _).mono ?_; rintro e w2 ⟨rfl, rfl⟩))
  have b8 := Boxed.new w1 3 (.int .i64 0)
  have b9 := Boxed.new (w1.alloc (.cells #[.int .i64 0] 3)) 2 (.int .i64 (-1))
  have bS := Boxed.new ((w1.alloc (.cells #[.int .i64 0] 3)).alloc (.cells #[.int .i64 (-1)] 2)) 22 (.slice A0 N c0)
  have bC := Boxed.new (((w1.alloc (.cells #[.int .i64 0] 3)).alloc (.cells #[.int .i64 (-1)] 2)).alloc (.cells #[.slice A0 N c0] 22)) 25 (.slice A1 m c1)
  rw [World.size_alloc] at b9
  rw [World.size_alloc, World.size_alloc] at bS
  rw [World.size_alloc, World.size_alloc, World.size_alloc] at bC
  have hB0 : Below w1.heap.size w1 ((((w1.alloc (.cells #[.int .i64 0] 3)).alloc (.cells #[.int .i64 (-1)] 2)).alloc (.cells #[.slice A0 N c0] 22)).alloc (.cells #[.slice A1 m c1] 25)) := ((((Below.refl _ w1).alloc (Nat.le_refl _) _).alloc (by simp) _).alloc (by simp; omega) _).alloc (by simp; omega) _
  refine wpIn_rangeFunc_ownG rfl (by omega) (gf := 74) (lb := #[.pointer (some ⟨w1.heap.size + 1 + 1, 0, none⟩), .pointer (some ⟨w1.heap.size + 1 + 1 + 1, 0, none⟩)]) rfl trivial (enters_of Try.func74 (by kernel_rfl) rfl)
    (dists_stops 3 (by omega) (w1.heap.size + 1 + 1) (w1.heap.size + 1 + 1 + 1) A0 N c0 A1 m c1 D w1 (HD.out w1 HB1.out) hlen _ hB0 (bS.alloc _).cell bC.cell) KeepD.t (KeepD.b (by simp) (by simp) (by simp; omega)) (Below.refl _ _) (fun _ => rfl)
    (fun (pre : List (Fin N)) W => (Boxed W w1.heap.size 3 (.int .i64 (nearF D pre).1) ∧ Boxed W (w1.heap.size + 1) 2 (.int .i64 (nearF D pre).2)) ∧ (Boxed W (w1.heap.size + 1 + 1) 22 (.slice A0 N c0) ∧ Boxed W (w1.heap.size + 1 + 1 + 1) 25 (.slice A1 m c1)) ∧ Below w1.heap.size w1 W)
    (fun _ _ _ => False)
    (OwnFrom.and (OwnFrom.and (Own.from (boxed_own _ _ (fun pre : List (Fin N) => .int .i64 (nearF D pre).1)) _) (Own.from (boxed_own _ _ (fun pre : List (Fin N) => .int .i64 (nearF D pre).2)) _)) (OwnFrom.and (OwnFrom.and (Own.from (boxed_own _ _ _) _) (Own.from (boxed_own _ _ _) _)) (ownFrom_below (Nat.le_refl _) (by simp; omega))))
    (fun _ _ _ _ _ hs _ _ => hs)
    ⟨⟨((b8.alloc _).alloc _).alloc _, (b9.alloc _).alloc _⟩, ⟨bS.alloc _, bC⟩, hB0⟩ ?a1 ?assign ?body ?done ?stop
  case assign =>
    intro l x W K hK
    gi_wp2
    exact hK
  case body =>
    rintro l pre x W ⟨⟨hv8, hv9⟩, ⟨bS1, bC1⟩, hB⟩ hlt
    have HS := Aside0.mk (nearF_snoc D pre x)
    have H8 := Aside0.mk hv8
    have H9 := Aside0.mk hv9
    have HS1 := Aside0.mk bS1
    have HC1 := Aside0.mk bC1
    have HBW := Aside0.mk hB
    have hc8 := hv8.cell
    have hc9 := hv9.cell
    have hf8 := hv8.frozen
    have hf9 := hv9.frozen
    clear hv8 hv9 bS1 bC1 hB b8 b9 bS bC hB0
    obtain ⟨xk, hxk⟩ := x
    dsimp only at HS
    generalize nearF D pre = s at *
    obtain ⟨bi, fa⟩ := s
    dsimp only at H8 H9 hc8 hc9
    generalize D xk = d at *
    by_cases h1 : fa < 0
    · have hd1 : decide (fa < 0) = true := decide_eq_true h1
      have HN := Aside0.mk (HS.out.trans (show nearStep (bi, fa) (xk : Int) d = ((xk : Int), d) by simp [nearStep, h1]))
      clear HS h1
      gi_wp2
      have h := near_store (.int .i64 (xk : Int)) (.int .i64 d) rfl H8.out H9.out HS1.out HC1.out HBW.out
      refine ⟨(h _).1, (h 0).2.1, ?_⟩
      dsimp only
      rw [HN.out]
      exact (h 0).2.2
    · have hd1 : decide (fa < 0) = false := decide_eq_false h1
      by_cases h2 : d < fa
      · have hd2 : decide (d < fa) = true := decide_eq_true h2
        have HN := Aside0.mk (HS.out.trans (show nearStep (bi, fa) (xk : Int) d = ((xk : Int), d) by simp [nearStep, h2]))
        clear HS h1 h2
        gi_wp2
        have h := near_store (.int .i64 (xk : Int)) (.int .i64 d) rfl H8.out H9.out HS1.out HC1.out HBW.out
        refine ⟨(h _).1, (h 0).2.1, ?_⟩
        dsimp only
        rw [HN.out]
        exact (h 0).2.2
      · have hd2 : decide (d < fa) = false := decide_eq_false h2
        have HN := Aside0.mk (HS.out.trans (show nearStep (bi, fa) (xk : Int) d = (bi, fa) by simp [nearStep, h1, h2]))
        clear HS h1 h2
        gi_wp2
        refine ⟨KeepsFrom.refl _ _, ⟨⟨rfl, rfl⟩, fun h => h⟩, ?_⟩
        dsimp only
        rw [HN.out]
        exact ⟨⟨H8.out, H9.out⟩, ⟨HS1.out, HC1.out⟩, HBW.out⟩
  case done =>
    rintro D' ys W hD' rfl ⟨⟨hv8, hv9⟩, _, hB⟩ hK
    rw [HA.out] at hv8 hv9
    have hc8 := hv8.cell
    have hc9 := hv9.cell
    clear hv8 hv9
    obtain ⟨bi, hbi⟩ : ∃ bi, (nearTo D N).1 = bi := ⟨_, rfl⟩
    obtain ⟨fa, hfa⟩ : ∃ fa, (nearTo D N).2 = fa := ⟨_, rfl⟩
    have HBI := Aside0.mk hbi
    have HFA := Aside0.mk hfa
    rw [hbi] at hc8
    rw [hfa] at hc9
    clear hbi hfa
    gi_wp2
    gi_quiet (fail)
    rename_i nq
    gi_wp2
    have hlt : D' < W.heap.size := (Array.getElem?_eq_some_iff.1 hK).1
    have hK2 : (W.drewN nq).heap[D']? = some (.deferred (some [])) := ((pw_below_drewN (Below.refl W.heap.size W) nq).block D' hlt).trans hK
    have hBW : Below w.heap.size w (W.drewN nq) := pw_below_drewN (below_then HB1.out HB1.out.size hB) nq
    have hsz : w.heap.size ≤ D' := by have := HB1.out.size; simp at hD'; omega
    refine ⟨by simp, .inl ⟨_, _, rfl, run_takeDeferred hK2, ?_⟩⟩
    refine ⟨_, results_tmp3 rfl _ _ _, ?_, hBW.trans (belowK_b (w := w) (Nat.le_refl _) (W.drewN nq) D' _ _ hsz hK2 rfl rfl)⟩
    rw [HBI.out, HFA.out]
    rfl
  case stop => rintro D' c pre W _ _ h _; exact h.elim
end Go.Proofs.Ytpcacklmelokiaa.G
