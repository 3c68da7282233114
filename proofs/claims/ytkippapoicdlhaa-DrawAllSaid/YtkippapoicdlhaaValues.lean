/- slices.Sorted(slices.Values(l)) at []int: the walk of its iterator, and of AppendSeq and Collect over it. -/
import Derived.Test.YtkippapoicdlhaaBase
import Derived.Test.YtkippapoicdlhaaReg
import Derived.RangeFuncBox
import Derived.RangeFuncLeaves
import Derived.RangeFuncNested
import Derived.RangeFuncBound
import Derived.RangeFuncCalls
import Derived.OwnWalkIn
import Derived.TacticsInMore
import Derived.LoopNIn
import Derived.LoopIn
import Derived.Sort.QuietIn
namespace Go.Proofs.Ytkippapoicdlhaa.G
open Go.RowKit Go.Shelf Go.Proofs.YtkippapoicdlhaaW.PrintWords
attribute [local go_sem] Oper.semAt_some
set_option linter.unusedVariables false
set_option linter.unusedSimpArgs false

theorem info_int : (Try.prog.info? 3).map (fun i => (i.zero, i.size, i.bytes)) = some (some (.int .i64 0), 1, 8) := by kernel_rfl
def firsts (N k : Nat) : List (Fin N) := (List.finRange N).take k
theorem firsts_succ {N k : Nat} (h : k < N) : firsts N (k + 1) = firsts N k ++ [⟨k, h⟩] := by
  unfold firsts
  rw [List.take_succ_eq_append_getElem (by simpa using h)]
  simp
theorem firsts_succ_eq {N k : Nat} (h : k < N) : firsts N k ++ [⟨k, h⟩] = firsts N (k + 1) := (firsts_succ h).symm
theorem firsts_len {N k : Nat} (h : k ≤ N) : (firsts N k).length = k := by simp [firsts, h]
def getV (L : List Int) (j : Nat) : Int := L.getD j 0
/-- The slice's cells stay. -/
def KeepC (A : Option Addr) (len : Nat) (X Y : World) : Prop := ∀ j, j < len → ∀ ad, A = some ad → Y.cell? (ad.add j) = X.cell? (ad.add j)
theorem KeepC.t {A : Option Addr} {len : Nat} {X Y Z : World} (h : KeepC A len X Y) (k : KeepC A len Y Z) : KeepC A len X Z := fun j hj ad e => (k j hj ad e).trans (h j hj ad e)
theorem KeepC.b {A : Option Addr} {len : Nat} {w : World} {L : List Int} (hc : ∀ j, j < len → ∃ ad, A = some ad ∧ w.cell? (ad.add j) = some (.int .i64 (getV L j))) (W : World) (l : Nat) (o o' : Obj) (hl : w.heap.size ≤ l) (h : W.heap[l]? = some o) (_ : o.isCells = false) (_ : o.isWalk = false) : KeepC A len W (W.putObj l o') := by
  intro j hj ad e
  obtain ⟨ad', e', hx⟩ := hc j hj
  rw [e] at e'
  cases e'
  have hlt : (ad.add j).block < w.heap.size := by
    simp only [World.cell?] at hx
    refine Classical.byContradiction fun hn => ?_
    rw [Array.getElem?_eq_none (by omega)] at hx
    simp at hx
  exact World.cell?_of_block (World.putObj_heap_other (by omega))

set_option maxRecDepth 100000 in
set_option maxHeartbeats 2000000 in
theorem values1_in (n : Nat) (hn : 1 ≤ n) (l Bs : Nat) (A : Option Addr) (len cap : Nat) (L : List Int) (hreach : len ≤ 140737488351232) (J Jx : List (Fin len) → World → Prop)
    (hY : ∀ pre (x : Fin len) W, J pre W → pre.length < len → YieldAt Fence.wide (n - 1) Try.prog l #[.int .i64 (getV L x.1)] W fun e W' =>
      (e = .returned (.bool true) ∧ J (pre ++ [x]) W' ∧ KeepC A len W W') ∨ (e = .returned (.bool false) ∧ Jx (pre ++ [x]) W'))
    (W : World) (hBs : W.cell? ⟨Bs, 0, none⟩ = some (.slice A len cap)) (hc : ∀ j, j < len → ∃ ad, A = some ad ∧ W.cell? (ad.add j) = some (.int .i64 (getV L j))) (h0 : J [] W) :
    CallsIn Fence.wide n Try.prog 77 #[.func (.yield l) #[] #[], .pointer (some ⟨Bs, 0, none⟩)] W fun e W' => (∃ v, e = .returned v) ∧
      ((∃ ys, ys = firsts len len ∧ J ys W') ∨ (∃ pre, (∃ k, k ≤ len ∧ pre = firsts len k) ∧ Jx pre W')) := by
  have HC := Aside0.mk hc
  clear hc
  refine callsIn_of_wp Try.func77 rfl trivial ?_ rfl
  simp only [Try.ntmps77, List.size_toArray, List.length_cons, List.length_nil, Nat.reduceAdd, Nat.reduceSub, Array.replicate_succ, Array.replicate_zero, List.push_toArray, List.append_toArray, List.nil_append, List.cons_append]
  gi_wp2
  gi_loopw [7] (fun i wr => ∃ k : Nat, k ≤ len ∧ i = .int .i64 k ∧ Aside0 (J (firsts len k) wr) ∧ Aside0 (KeepC A len W wr)) (fun i _ => len - (intOf i).toNat)
  case atStart => exact ⟨0, Nat.zero_le _, rfl, ⟨h0⟩, ⟨fun _ _ _ _ => rfl⟩⟩
  case round =>
    obtain ⟨k, hk, rfl, HJ, HB⟩ := hrel
    by_cases hlt : k < len
    · obtain ⟨ad, rfl, hx⟩ := HC.out k hlt
      have hx2 : wr.cell? (ad.add k) = some (.int .i64 (getV L k)) := (HB.out k hlt ad rfl).trans hx
      have HY := Aside0.mk (hY _ ⟨k, hlt⟩ wr HJ.out (by rw [firsts_len hk]; exact hlt))
      rw [firsts_succ_eq hlt] at HY
      simp only [] at HY
      clear hY hx
      generalize getV L k = x at *
      obtain ⟨fn, tmps, assign, body, hy, hR⟩ := HY.out
      gi_wp2
      refine hR.mono ?_
      rintro e W3 (⟨rfl, hJ3, hk3⟩ | ⟨rfl, hJx3⟩)
      · have HB3 := Aside0.mk (KeepC.t HB.out hk3)
        have HJ3 := Aside0.mk hJ3
        clear hk3 hJ3
        gi_wp2
        go_roundw
        case rel => exact ⟨k + 1, by omega, by go_num, HJ3, HB3⟩
        case measure => simp [intOf]; omega
      · gi_wp2
        refine bodyPost_ret (results_none rfl _ _ _) rfl ?_
        exact ⟨⟨_, rfl⟩, .inr ⟨_, ⟨k + 1, by omega, rfl⟩, hJx3⟩⟩
    · obtain rfl : k = len := by omega
      have HJ2 := Aside0.mk (show ∃ ys, ys = firsts k k ∧ J ys wr from ⟨_, rfl, HJ.out⟩)
      clear hY HJ
      gi_wp2
      go_end0
      exact ⟨⟨_, rfl⟩, .inl HJ2.out⟩

theorem values_stops (n : Nat) (hn : 1 ≤ n) (Bs : Nat) (A : Option Addr) (len cap : Nat) (L : List Int) (hreach : len ≤ 140737488351232) (w : World) (hs : Bs < w.heap.size)
    (hBs : w.cell? ⟨Bs, 0, none⟩ = some (.slice A len cap)) (hc : ∀ j, j < len → ∃ ad, A = some ad ∧ w.cell? (ad.add j) = some (.int .i64 (getV L j))) :
    SeqStopsK Fence.wide n Try.prog 77 #[.pointer (some ⟨Bs, 0, none⟩)] (fun x : Fin len => #[.int .i64 (getV L x.1)]) (KeepC A len) (fun ys => ys = firsts len len) (fun _ => True) len w := by
  intro l J Jx W hW hJ hJx hY h0
  have hs' : W.cell? ⟨Bs, 0, none⟩ = some (.slice A len cap) := (hW.cell (p := ⟨Bs, 0, none⟩) hs).trans hBs
  have hc' : ∀ j, j < len → ∃ ad, A = some ad ∧ W.cell? (ad.add j) = some (.int .i64 (getV L j)) := by
    intro j hj
    obtain ⟨ad, e, hx⟩ := hc j hj
    exact ⟨ad, e, pw_cell_below hW hx⟩
  refine (values1_in n hn l Bs A len cap L hreach J Jx hY W hs' hc' h0).mono ?_
  rintro e W' ⟨he, h | ⟨pre, _, hj⟩⟩
  · exact ⟨he, .inl h⟩
  · exact ⟨he, .inr ⟨pre, trivial, hj⟩⟩

/-- append, whose run is known, in a fence, outside a region that draws. -/
theorem listIn_append_eq {F : Fence} {n : Nat} {P : Program} {w w1 : World} {ops : Array Oper} {rest : List Oper} {o : Oper} {a : Act} {Q : Exit → Act → World → Prop} {v u v1 : Value} {ty t1 t2 : TypeId} {s x : Operand}
    (hr : (Builtin.append_ #[t1, t2] ty #[v, u]).run P w = .ok v1 w1) (hg : o.guard = none) (ho : o.op = .call { callee := .builtin .append, args := #[s, x], argTypes := #[t1, t2] }) (hty : o.type = ty) (hs : a.eval s = v) (hx : a.eval x = u)
    (h : wpListIn F n P ops Q rest (a.put o.dst v1) w1) : wpListIn F n P ops Q (o :: rest) a w := by
  subst hty
  refine wpListIn_plain hg fun K hK => ?_
  unfold Oper.wpIn
  have he : (execOp a.eval o).run P w = .ok (.value v1) w1 := by
    unfold execOp
    simp only [ho, resolve, invoke, builtin, Sem.run_bind, Sem.run_pure, Result.andThen_ok, List.map_toArray, List.map_cons, List.map_nil, hs, hx, hr]
  refine ⟨?_, ?_⟩
  · intro f hf
    simp only [Oper.about, ho, resolve, Sem.run_bind, Sem.run_pure, Result.andThen_ok, Target.leads] at hf
    cases hf
  · rw [Oper.semAt_plain F _ _ (fun c h => by rw [ho] at h; cases h), he]
    exact hK _ _ h

set_option maxRecDepth 100000 in
set_option maxHeartbeats 2000000 in
/-- slices.AppendSeq(nil, Values(l)): l, in memory of its own. -/
theorem AppendSeq_c (Bs : Nat) (A : Option Addr) (cap : Nat) (L : List Int) (hreach : L.length ≤ 1000000) (w : World) (hs : Bs < w.heap.size)
    (hBs : w.cell? ⟨Bs, 0, none⟩ = some (.slice A L.length cap)) (hc : ∀ j, j < L.length → ∃ ad, A = some ad ∧ w.cell? (ad.add j) = some (.int .i64 (getV L j))) :
    Calls Try.prog 97 #[.slice none 0 0, .func (.func 77) #[] #[.pointer (some ⟨Bs, 0, none⟩)]] w fun e w' => ∃ v : Value, e = .returned v ∧ (Kd.int .i64).R 3 w' w.heap.size (fun _ => True) v L ∧ Below w.heap.size w w' := by
  have HC := Aside0.mk hc
  obtain ⟨i0, hi, hz0, hz1, hz2⟩ := info_parts info_int
  clear hc
  refine (callsIn_wide (n := 4)).1 ?_
  refine callsIn_of_wp_marks Try.func97 rfl trivial ?_ rfl
  simp only [Try.ntmps97, List.size_toArray, List.length_cons, List.length_nil, Nat.reduceAdd, Nat.reduceSub, Array.replicate_succ, Array.replicate_zero, List.push_toArray, List.append_toArray, List.nil_append, List.cons_append]
  gi_wp2
  have bO := Boxed.new w 27 (.slice none 0 0)
  have hB0 : Below w.heap.size w (w.alloc (.cells #[.slice none 0 0] 27)) := (Below.refl _ w).alloc (Nat.le_refl _) _
  have hc2 : ∀ j, j < L.length → ∃ ad, A = some ad ∧ (w.alloc (.cells #[.slice none 0 0] 27)).cell? (ad.add j) = some (.int .i64 (getV L j)) := by
    intro j hj
    obtain ⟨ad, e, hx⟩ := HC.out j hj
    exact ⟨ad, e, pw_cell_below hB0 hx⟩
  refine wpIn_rangeFunc_ownG rfl (by omega) (gf := 77) (lb := #[.pointer (some ⟨Bs, 0, none⟩)]) rfl trivial (enters_of Try.func77 (by kernel_rfl) rfl)
    (values_stops 3 (by omega) Bs A L.length cap L (by omega) _ (by simp; omega) ((hB0.cell (p := ⟨Bs, 0, none⟩) hs).trans hBs) hc2) KeepC.t (KeepC.b hc2) (Below.refl _ _) (fun _ => rfl)
    (fun (pre : List (Fin L.length)) W => (∃ v, Boxed W w.heap.size 27 v ∧ W.ownsRow w.heap.size 3 1 v pre.length (nums .i64 (pre.map (fun x => getV L x.1))) ∧ True) ∧ Below w.heap.size w W)
    (fun _ _ _ => False)
    (OwnFrom.and (Own.from (holdsRow_own w.heap.size w.heap.size 27 3 1 (fun (pre : List (Fin L.length)) => pre.length) (fun pre => nums .i64 (pre.map (fun x => getV L x.1))) (fun pre v => True)) _) (ownFrom_below (Nat.le_refl _) (by simp)))
    (fun _ _ _ _ _ hs _ _ => hs)
    ⟨⟨_, bO, World.ownsRow_nil _ _ _ _, trivial⟩, hB0⟩ ?a1 ?assign ?body ?done ?stop
  case assign =>
    intro l x W K hK
    gi_wp2
    exact hK
  case body =>
    rintro l pre x W ⟨⟨v, hv, hrow, _⟩, hB⟩ hlt
    obtain ⟨v1, w1, hap, hown1, hgrow⟩ := app1_run 27 3 .i64 8 Try.underlying27 info_int w.heap.size W v (pre.map (fun x => getV L x.1)) (getV L x.1) (by rw [List.length_map]; exact hrow) (by rw [List.length_map]; omega) (by rw [List.length_map]; omega) hB.size
    rw [List.length_map] at hown1
    obtain ⟨g', cap', rfl⟩ := ownsRow_succ hown1
    obtain ⟨hv1, hv2, hr2, hk2, hb2⟩ := Boxed.appended (W := W) (t := 27) (e := 3) hv (by decide) hrow hB.size (Nat.le_refl _) hown1 hgrow
    have hc := hv.cell
    have hcA : (W.alloc (.cells #[.int .i64 (getV L x.1)] 3)).cell? ⟨w.heap.size, 0, none⟩ = some v := (Boxed.alloc (W := W) hv _).cell
    have hc1 := hv1.cell
    have hf1 := hv1.frozen
    have hgx : w.heap.size + 1 ≤ W.heap.size := by
      have := (Array.getElem?_eq_some_iff.1 (show W.heap[w.heap.size]? = _ from hv)).1
      omega
    obtain ⟨v2, hv2e⟩ : ∃ v2, v2 = Value.slice (some ⟨g', 0, none⟩) (pre.length + 1) cap' := ⟨_, rfl⟩
    rw [← hv2e] at hap hown1 hv2 hr2 hk2 hb2
    have HF := Aside0.mk (show KeepsFrom (w.alloc (.cells #[.slice none 0 0] 27)).heap.size W (w1.setCell ⟨w.heap.size, 0, none⟩ v2) ∧
        KeepC A L.length W (w1.setCell ⟨w.heap.size, 0, none⟩ v2) ∧
        ((∃ v, Boxed (w1.setCell ⟨w.heap.size, 0, none⟩ v2) w.heap.size 27 v ∧ (w1.setCell ⟨w.heap.size, 0, none⟩ v2).ownsRow w.heap.size 3 1 v (pre ++ [x]).length (nums .i64 ((pre ++ [x]).map (fun x => getV L x.1))) ∧ True) ∧ Below w.heap.size w (w1.setCell ⟨w.heap.size, 0, none⟩ v2))
      from ⟨hk2.from _, fun j hj ad e => by
        obtain ⟨ad', e', hx⟩ := HC.out j hj
        rw [e] at e'
        cases e'
        have h1 := pw_cell_below (hB.trans hb2) hx
        have h2 := pw_cell_below hB hx
        rw [h1, h2], ⟨_, hv2, by rw [List.length_append, List.map_append, List.map_cons, List.map_nil]; exact hr2, trivial⟩, hB.trans hb2⟩)
    have HAP := Aside0.mk hap
    clear hap hown1 hgrow hv2 hr2 hk2 hb2 hrow hB hv hv1
    generalize getV L x.1 = y at *
    gi_wp2_with (with_reducible refine listIn_append_eq HAP.out rfl rfl rfl rfl rfl ?_)
    subst hv2e
    exact HF.out
  case done =>
    rintro D ys W hD rfl ⟨⟨v, hv, hrow, _⟩, hB⟩ hK
    have hc := hv.cell
    gi_wp2
    refine ⟨by simp, .inl ⟨_, _, rfl, run_takeDeferred hK, ?_⟩⟩
    refine ⟨_, results_tmp rfl _ _ _, v, rfl, ?_, hB.trans (belowK_b (w := w) (Nat.le_refl _) W D _ _ (by simp at hD; omega) hK rfl rfl)⟩
    have hl2 : (firsts L.length L.length).map (fun x => getV L x.1) = L := by
      apply List.ext_getElem
      · simp [firsts]
      · intro i h1 h2
        simp [firsts, getV, h2]
    rw [hl2] at hrow
    exact R_nums (ownsRow_putObj hrow _ hK rfl) (by rw [firsts_len (Nat.le_refl _)])
  case stop =>
    rintro D c pre W _ _ h _
    exact h.elim

end Go.Proofs.Ytkippapoicdlhaa.G
