/- cell.distances, cell.Nearest, where all is right. -/
import Derived.Test.YtpcacklmelokiaaBookD
import Derived.Test.YtpcacklmelokiaaPartC
import Derived.Test.YtpcacklmelokiaaVecC
import Derived.RangeFuncBox
import Derived.RangeFuncLeaves
import Derived.RangeFuncNested
import Derived.RangeFuncBound
import Derived.RangeFuncCalls
import Derived.TacticsInMore
import Derived.LoopNIn
import Derived.LoopIn
import Derived.Sort.QuietIn
namespace Go.Proofs.Ytpcacklmelokiaa.G
open Go.RowKit Go.Shelf Go.Proofs.YtpcacklmelokiaaW.PrintWords
attribute [local go_sem] Oper.semAt_some
set_option linter.unusedVariables false
set_option linter.unusedSimpArgs false

/-- The nearest so far: its place, how far it is. -/
def nearStep (s : Int × Int) (i d : Int) : Int × Int := if s.2 < 0 ∨ d < s.2 then (i, d) else s
def nearF (D : Nat → Int) {N : Nat} (pre : List (Fin N)) : Int × Int := pre.foldl (fun s x => nearStep s (x.1 : Nat) (D x.1)) (0, -1)
def nearTo (D : Nat → Int) (n : Nat) : Int × Int := (List.range n).foldl (fun s (x : Nat) => nearStep s (x : Int) (D x)) (0, -1)
theorem nearF_snoc (D : Nat → Int) {N : Nat} (pre : List (Fin N)) (x : Fin N) : nearF D (pre ++ [x]) = nearStep (nearF D pre) (x.1 : Nat) (D x.1) := by simp [nearF, List.foldl_append]
theorem nearF_all (D : Nat → Int) (N : Nat) : nearF D (C32.firsts N N) = nearTo D N := by
  unfold nearF nearTo C32.firsts
  rw [List.take_of_length_le (by simp)]
  have h : (List.finRange N).map Fin.val = List.range N := by
    apply List.ext_getElem
    · simp
    · intro i h1 h2
      simp
  rw [← h, List.foldl_map]
/-- What Dist answers of each. -/
def DistOf (A : Option Addr) (n : Nat) (V : Option Addr) (m cv : Nat) (D : Nat → Int) (w : World) : Prop :=
  ∀ j, j < n → ∃ ad A' l c, A = some ad ∧ w.cell? (ad.add j) = some (.slice A' l c) ∧ ∀ W, Below w.heap.size w W → Calls Try.prog 50 #[.slice A' l c, .slice V m cv] W fun e W' => e = .returned (.tuple #[.int .i64 (D j), .int .i64 0]) ∧ Below W.heap.size W W'

theorem dists_in (n : Nat) (A : Option Addr) (len cap : Nat) (V : Option Addr) (m cv : Nat) (w : World) :
    CallsIn Fence.wide n Try.prog 72 #[.slice A len cap, .slice V m cv] w fun e w' => e = .returned (.func (.func 74) #[] #[.pointer (some ⟨w.heap.size, 0, none⟩), .pointer (some ⟨w.heap.size + 1, 0, none⟩)]) ∧
      w' = (w.alloc (.cells #[.slice A len cap] 22)).alloc (.cells #[.slice V m cv] 25) := by
  refine callsIn_of_wp Try.func72 rfl trivial ?_ rfl
  simp only [Try.ntmps72, List.size_toArray, List.length_cons, List.length_nil, Nat.reduceAdd, Nat.reduceSub, Array.replicate_succ, Array.replicate_zero, List.push_toArray, List.append_toArray, List.nil_append, List.cons_append]
  gi_wp2
  go_ret
  exact ⟨rfl, rfl⟩

theorem cell_lt2 {w : World} {B : Nat} {v : Value} (h : w.cell? ⟨B, 0, none⟩ = some v) : B < w.heap.size := by
  simp only [World.cell?] at h
  refine Classical.byContradiction fun hn => ?_
  rw [Array.getElem?_eq_none (by omega)] at h
  simp at h
/-- What the closure asks of a round: its two boxes stay, and what lay there before. -/
def KeepD (w0 : World) (Bs Bn : Nat) (A B : World) : Prop := C32.Keep2 Bs Bn A B ∧ (Below w0.heap.size w0 A → Below w0.heap.size w0 B)
theorem KeepD.t {w0 : World} {Bs Bn : Nat} {A B C : World} (h : KeepD w0 Bs Bn A B) (k : KeepD w0 Bs Bn B C) : KeepD w0 Bs Bn A C := ⟨h.1.t k.1, fun q => k.2 (h.2 q)⟩
theorem KeepD.b {w0 : World} {Bs Bn : Nat} {w : World} (hs : Bs < w.heap.size) (hb : Bn < w.heap.size) (h0 : w0.heap.size ≤ w.heap.size) (W : World) (l : Nat) (o o' : Obj) (hl : w.heap.size ≤ l) (h : W.heap[l]? = some o) (h1 : o.isCells = false) (h2 : o.isWalk = false) : KeepD w0 Bs Bn W (W.putObj l o') :=
  ⟨C32.Keep2.b hs hb W l o o' hl h h1 h2, fun hB => by
    have hg := grownBy_putObj' W l o'
    exact ⟨hg.os.trans hB.os, hg.tape.trans hB.tape, hg.output.trans hB.output, Nat.le_trans hB.size hg.size, fun k hk => (hg.block k (Nat.lt_of_lt_of_le hk hB.size) (fun e => by cases e; omega)).trans (hB.block k hk)⟩⟩

set_option maxRecDepth 100000 in
set_option maxHeartbeats 2000000 in
theorem dists1_in (n : Nat) (hn : 1 ≤ n) (l Bs Bn : Nat) (A : Option Addr) (len cap : Nat) (V : Option Addr) (m cv : Nat) (D : Nat → Int) (w0 : World) (hD : DistOf A len V m cv D w0) (hlen : len ≤ 1000000)
    (J Jx : List (Fin len) → World → Prop)
    (hY : ∀ pre (x : Fin len) W, J pre W → pre.length < len → YieldAt Fence.wide (n - 1) Try.prog l #[.int .i64 (x.1 : Nat), .int .i64 (D x.1)] W fun e W' =>
      (e = .returned (.bool true) ∧ J (pre ++ [x]) W' ∧ KeepD w0 Bs Bn W W') ∨ (e = .returned (.bool false) ∧ Jx (pre ++ [x]) W'))
    (hJd : ∀ pre W W', J pre W → Below W.heap.size W W' → J pre W') (W : World) (hW0 : Below w0.heap.size w0 W) (hBs : W.cell? ⟨Bs, 0, none⟩ = some (.slice A len cap)) (hBn : W.cell? ⟨Bn, 0, none⟩ = some (.slice V m cv)) (h0 : J [] W) :
    CallsIn Fence.wide n Try.prog 74 #[.func (.yield l) #[] #[], .pointer (some ⟨Bs, 0, none⟩), .pointer (some ⟨Bn, 0, none⟩)] W fun e W' => (∃ v, e = .returned v) ∧
      ((∃ ys, ys = C32.firsts len len ∧ J ys W') ∨ (∃ pre, (∃ k, k ≤ len ∧ pre = C32.firsts len k) ∧ Jx pre W')) := by
  have hfD : Fence.wide.fn 50 := trivial
  refine callsIn_of_wp Try.func74 rfl trivial ?_ rfl
  simp only [Try.ntmps74, List.size_toArray, List.length_cons, List.length_nil, Nat.reduceAdd, Nat.reduceSub, Array.replicate_succ, Array.replicate_zero, List.push_toArray, List.append_toArray, List.nil_append, List.cons_append]
  gi_wp2
  gi_loopw [10] (fun i wr => ∃ k : Nat, k ≤ len ∧ i = .int .i64 k ∧ Aside0 (J (C32.firsts len k) wr) ∧ Aside0 (KeepD w0 Bs Bn W wr)) (fun i _ => len - (intOf i).toNat)
  case atStart => exact ⟨0, Nat.zero_le _, rfl, ⟨h0⟩, ⟨⟨rfl, rfl⟩, fun h => h⟩⟩
  case round =>
    obtain ⟨k, hk, rfl, HJ, HB⟩ := hrel
    have hs' : wr.cell? ⟨Bs, 0, none⟩ = some (.slice A len cap) := HB.out.1.c1.trans hBs
    have hb' : wr.cell? ⟨Bn, 0, none⟩ = some (.slice V m cv) := HB.out.1.c2.trans hBn
    by_cases hlt : k < len
    · have hB0 := HB.out.2 hW0
      obtain ⟨ad, A', l', c', rfl, hx, hcall⟩ := hD k hlt
      have hx := pw_cell_below hB0 hx
      have HC := Aside0.mk (hcall wr hB0)
      have hYk := fun W2 (hb : Below wr.heap.size wr W2) => hY _ ⟨k, hlt⟩ W2 (hJd _ _ _ HJ.out hb) (by rw [C32.firsts_len hk]; exact hlt)
      rw [C32.firsts_succ_eq hlt] at hYk
      dsimp only at hYk
      have HY := Aside0.mk hYk
      clear hYk
      have hsz1 : Bs < wr.heap.size := cell_lt2 hs'
      have hsz2 : Bn < wr.heap.size := cell_lt2 hb'
      have HK := Aside0.mk (fun W2 (hb : Below wr.heap.size wr W2) => (⟨⟨hb.block _ hsz1, hb.block _ hsz2⟩, fun q => below_then q q.size hb⟩ : KeepD w0 Bs Bn wr W2))
      clear hcall hY hJd hD hB0 hsz1 hsz2
      generalize D k = dk at *
      gi_wp2_with (gi_at_call 50; refine (callsIn_wide.2 HC.out).mono ?_; rintro e w2 ⟨rfl, hb⟩; have HY2 := Aside0.mk (HY.out _ hb); have HK2 := Aside0.mk (HK.out _ hb); clear hb; obtain ⟨fn, tmps, assign, body, hy, hR⟩ := HY2.out)
      refine hR.mono ?_
      rintro e W3 (⟨rfl, hJ3, hk3⟩ | ⟨rfl, hJx3⟩)
      · have hb3 : W3.cell? ⟨Bn, 0, none⟩ = some (.slice V m cv) := (KeepD.t HK2.out hk3).1.c2.trans hb'
        have HB3 := Aside0.mk (KeepD.t (KeepD.t HB.out HK2.out) hk3)
        have HJ3 := Aside0.mk hJ3
        clear hk3 hJ3
        gi_wp2
        go_roundw
        case rel => exact ⟨k + 1, by omega, by go_num, HJ3, HB3⟩
        case measure => simp [intOf]; omega
      · gi_wp2
        refine bodyPost_ret (results_none rfl _ _ _) rfl ?_
        exact ⟨⟨_, rfl⟩, .inr ⟨_, ⟨k + 1, by omega, rfl⟩, hJx3⟩⟩
    · obtain rfl : k = len := by omega
      have HJ2 := Aside0.mk (show ∃ ys, ys = C32.firsts k k ∧ J ys wr from ⟨_, rfl, HJ.out⟩)
      clear hY hJd HJ
      gi_wp2
      go_end0
      exact ⟨⟨_, rfl⟩, .inl HJ2.out⟩
theorem dists_stops (n : Nat) (hn : 1 ≤ n) (Bs Bn : Nat) (A : Option Addr) (len cap : Nat) (V : Option Addr) (m cv : Nat) (D : Nat → Int) (w0 : World) (hD : DistOf A len V m cv D w0) (hlen : len ≤ 1000000) (w : World) (hw0 : Below w0.heap.size w0 w)
    (hBs : w.cell? ⟨Bs, 0, none⟩ = some (.slice A len cap)) (hBn : w.cell? ⟨Bn, 0, none⟩ = some (.slice V m cv)) :
    SeqStopsK Fence.wide n Try.prog 74 #[.pointer (some ⟨Bs, 0, none⟩), .pointer (some ⟨Bn, 0, none⟩)] (fun x : Fin len => #[.int .i64 (x.1 : Nat), .int .i64 (D x.1)]) (KeepD w0 Bs Bn) (fun ys => ys = C32.firsts len len) (fun _ => True) len w := by
  intro l J Jx W hW hJ hJx hY h0
  have hs' : W.cell? ⟨Bs, 0, none⟩ = some (.slice A len cap) := (hW.cell (p := ⟨Bs, 0, none⟩) (cell_lt2 hBs)).trans hBs
  have hb' : W.cell? ⟨Bn, 0, none⟩ = some (.slice V m cv) := (hW.cell (p := ⟨Bn, 0, none⟩) (cell_lt2 hBn)).trans hBn
  refine (dists1_in n hn l Bs Bn A len cap V m cv D w0 hD hlen J Jx hY (fun pre W1 W2 hj hb => hJ pre W1 W2 none hj ⟨hb.os, hb.tape, hb.output, hb.size, fun k hk _ => hb.block k hk⟩ (fun r e => by cases e)) W (below_then hw0 hw0.size hW) hs' hb' h0).mono ?_
  rintro e W' ⟨he, h | ⟨pre, _, hj⟩⟩
  · exact ⟨he, .inl h⟩
  · exact ⟨he, .inr ⟨pre, trivial, hj⟩⟩
end Go.Proofs.Ytpcacklmelokiaa.G
