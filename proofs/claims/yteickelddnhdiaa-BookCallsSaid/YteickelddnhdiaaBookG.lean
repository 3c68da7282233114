/- cell.Check, cell.both, where all is right. -/
import Derived.Test.YteickelddnhdiaaBookC
import Derived.Test.YteickelddnhdiaaPartC
import Derived.Test.YteickelddnhdiaaVecC
import Derived.RangeFuncBox
import Derived.RangeFuncLeaves
import Derived.RangeFuncNested
import Derived.RangeFuncBound
import Derived.RangeFuncCalls
import Derived.TacticsInMore
import Derived.LoopNIn
import Derived.LoopIn
import Derived.Sort.QuietIn
namespace Go.Proofs.Yteickelddnhdiaa.G
open Go.RowKit Go.Shelf Go.Proofs.YteickelddnhdiaaW.PrintWords
set_option linter.unusedVariables false
set_option linter.unusedSimpArgs false

/-- Cents and a vector that may be. -/
structure CentsOK (cs : List (List Int)) (v : List Int) : Prop where
  one : 1 ≤ cs.length
  most : cs.length ≤ 256
  wide : ∀ c ∈ cs, checkWide c = 0
  long : ∀ c ∈ cs, c.length = v.length
  vec : checkWide v = 0
theorem CCheck1_c (A : Option Addr) (n c B N0 C0 n0 c00 : Nat) (a0 : Addr) (A00 : Option Addr) (b : Bool) (hne : ((n : Int) != (n0 : Int)) = b) (W : World) (hb : W.cell? ⟨B, 0, none⟩ = some (.slice (some a0) N0 C0)) (hN : 0 < N0) (hx0 : W.cell? a0 = some (.slice A00 n0 c00)) :
    Calls Try.prog 166 #[.slice A n c, .pointer (some ⟨B, 0, none⟩)] W fun e W' => e = .returned (.bool b) ∧ W = W' := by
  have ha0 : a0.add 0 = a0 := by simp [Addr.add]
  go_enter Try.func166, Try.ntmps166
  go_wp2
  go_ret
  exact ⟨rfl, rfl⟩

set_option maxRecDepth 100000 in
set_option maxHeartbeats 1000000 in
theorem CCheck_c (A0 : Option Addr) (c0 : Nat) (cs : List (List Int)) (v : List Int) (w : World) (hr : Kd.C (Kd.slice 21 (Kd.int .i32)) w A0 cs.length cs) (hok : CentsOK cs v) :
    Calls Try.prog 155 #[.slice A0 cs.length c0] w fun e w' => e = .returned (.int .i64 0) ∧ Below w.heap.size w w' := by
  have hm := C_max hr
  have h1 := hok.one
  have h2 := hok.most
  have hd1 : decide ((cs.length : Int) < 1) = false := decide_eq_false (by omega)
  have hd2 : decide ((cs.length : Int) > 4096) = false := decide_eq_false (by omega)
  have HB0 := Aside0.mk ((Below.refl w.heap.size w).alloc (Nat.le_refl _) (.cells #[.slice A0 cs.length c0] 22))
  have HR := Aside0.mk (fun W (hB : Below w.heap.size w W) => Kd.C_below hr hB)
  obtain ⟨ad, A', c', rfl, hxw, hxc, hC⟩ := rows_get (HR.out w (Below.refl _ _)) 0 (by omega)
  have ha0 : ad.add 0 = ad := by simp [Addr.add]
  rw [ha0] at hxw
  have HX := Aside0.mk (fun W (hW : Below w.heap.size w W) => pw_cell_below hW hxw)
  have HOK := Aside0.mk hok
  have hlen : ∀ j, j < cs.length → (cs.getD j []).length = (cs.getD 0 []).length := fun j hj => by
    have h : ∀ k, k < cs.length → (cs.getD k []).length = v.length := fun k hk => by
      rw [List.getD_eq_getElem?_getD, List.getElem?_eq_getElem hk]
      exact hok.long _ (List.getElem_mem hk)
    rw [h j hj, h 0 (by omega)]
  have HW := Aside0.mk (show ∀ j, j < cs.length → checkWide (cs.getD j []) = 0 from fun j hj => by
    rw [List.getD_eq_getElem?_getD, List.getElem?_eq_getElem hj]
    exact hok.wide _ (List.getElem_mem hj))
  have HC := Aside0.mk (fun W (hW : Below w.heap.size w W) (hbn : W.cell? ⟨w.heap.size, 0, none⟩ = some (.slice (some ad) cs.length c0)) => ContainsFunc_rows (some ad) cs.length c0 166 #[.pointer (some ⟨w.heap.size, 0, none⟩)] (fun j => false) W (enters_of Try.func166 (by kernel_rfl) rfl) hm (fun j hj => by
    obtain ⟨ad', A1, c1, e, hx1, _, _⟩ := rows_get (HR.out _ hW) j hj
    refine ⟨ad', _, e, hx1, fun W1 hW1 => (CCheck1_c A1 (cs.getD j []).length c1 w.heap.size cs.length c0 (cs.getD 0 []).length c' ad A' false (by rw [hlen j hj]; simp) W1 (pw_cell_below hW1 hbn) (by omega) (pw_cell_below hW1 (HX.out _ hW))).mono fun e W' ⟨he, hw⟩ => ⟨he, hw ▸ hW1⟩⟩))
  have hany : (List.range cs.length).any (fun _ => false) = false := by simp
  rw [hany] at HC
  have hbn0 : (w.alloc (.cells #[.slice (some ad) cs.length c0] 22)).cell? ⟨w.heap.size, 0, none⟩ = some (.slice (some ad) cs.length c0) := by simp
  clear hr hC hxw hok hlen hany
  go_enter Try.func155, Try.ntmps155
  go_wp2
  go_loopw [16] (fun u wr => ∃ k : Nat, k ≤ cs.length ∧ u = .int .i64 k ∧ Aside0 (wr.cell? ⟨w.heap.size, 0, none⟩ = some (.slice (some ad) cs.length c0)) ∧ Aside0 (Below w.heap.size w wr)) (fun u _ => cs.length - (intOf u).toNat)
  case atStart => exact ⟨0, Nat.zero_le _, rfl, ⟨hbn0⟩, HB0⟩
  case round =>
    obtain ⟨k, hk, rfl, HBn, HB⟩ := hrel
    have hbn := HBn.out
    by_cases hlt : k < cs.length
    · obtain ⟨ad', A1, c1, e, hx, hcl, hC⟩ := rows_get (HR.out wr HB.out) k hlt
      cases e
      have HCW := Aside0.mk (CheckWide_calls A1 c1 (cs.getD k []) wr hC)
      rw [HW.out k hlt] at HCW
      clear hC
      generalize (cs.getD k []).length = n at *
      go_wp2_with (go_at_call 67; ((with_reducible refine HCW.out.mono ?_); rintro e w' ⟨rfl, hb'⟩; have HBn' := Aside0.mk (pw_cell_below hb' HBn.out); have HB' := Aside0.mk (below_then HB.out HB.out.size hb'); clear hb'))
      go_roundw
      case rel => exact ⟨k + 1, by omega, by go_num, HBn', HB'⟩
      case measure => simp [intOf]; omega
    · obtain rfl : k = cs.length := by omega
      have HC2 := Aside0.mk (HC.out wr HB.out HBn.out)
      go_wp2_with (go_at_call 65; ((with_reducible refine HC2.out.mono ?_); rintro e w' ⟨rfl, hb'⟩; have HB' := Aside0.mk (below_then HB.out HB.out.size hb'); clear hb'))
      go_ret
      exact ⟨rfl, HB'.out⟩
set_option maxRecDepth 100000 in
theorem both_c (A0 : Option Addr) (c0 : Nat) (cs : List (List Int)) (A1 : Option Addr) (c1 : Nat) (v : List Int) (w : World) (hr : Kd.C (Kd.slice 21 (Kd.int .i32)) w A0 cs.length cs) (hv : Kd.C (Kd.int .i32) w A1 v.length v) (hok : CentsOK cs v) :
    Calls Try.prog 141 #[.slice A0 cs.length c0, .slice A1 v.length c1] w fun e w' => e = .returned (.int .i64 0) ∧ Below w.heap.size w w' := by
  have h1 := hok.one
  have HCc := Aside0.mk (CCheck_c A0 c0 cs v w hr hok)
  have HV := Aside0.mk (fun W (hB : Below w.heap.size w W) => CheckWide_calls A1 c1 v W (Kd.C_below hv hB))
  rw [hok.vec] at HV
  obtain ⟨ad, A', c', rfl, hxw, hxc, hC⟩ := rows_get hr 0 (by omega)
  have ha0 : ad.add 0 = ad := by simp [Addr.add]
  rw [ha0] at hxw
  have hl : (cs.getD 0 []).length = v.length := by
    rw [List.getD_eq_getElem?_getD, List.getElem?_eq_getElem (by omega)]
    exact hok.long _ (List.getElem_mem _)
  rw [hl] at hxw
  have HX := Aside0.mk (fun W (hW : Below w.heap.size w W) => pw_cell_below hW hxw)
  have hg0 : 0 < cs.length := by omega
  have hne : ((v.length : Int) != (v.length : Int)) = false := by simp
  clear hr hv hC hxw hxc hok hl
  go_enter Try.func141, Try.ntmps141
  go_wp2_with (first
    | (go_at_call 155; ((with_reducible refine HCc.out.mono ?_); rintro e w1 ⟨rfl, hb⟩; have HB1 := Aside0.mk hb; clear hb))
    | (go_at_call 67; ((with_reducible refine (HV.out _ HB1.out).mono ?_); rintro e w2 ⟨rfl, hb⟩; have HB2 := Aside0.mk (below_then HB1.out HB1.out.size hb); have hx := HX.out _ HB2.out; clear hb)))
  go_ret
  exact ⟨rfl, HB2.out⟩
end Go.Proofs.Yteickelddnhdiaa.G

/- cell.distances, cell.Nearest, where all is right. -/
namespace Go.Proofs.Yteickelddnhdiaa.G
open Go.RowKit Go.Shelf Go.Proofs.YteickelddnhdiaaW.PrintWords
attribute [local go_sem] Oper.semAt_some
set_option linter.unusedVariables false
set_option linter.unusedSimpArgs false

/-- The nearest so far: its place, how far it is. -/
def nearStep (s : Int × Int) (i d : Int) : Int × Int := if s.2 < 0 ∨ d < s.2 then (i, d) else s
def nearF (D : Nat → Int) {N : Nat} (pre : List (Fin N)) : Int × Int := pre.foldl (fun s x => nearStep s (x.1 : Nat) (D x.1)) (0, -1)
def nearTo (D : Nat → Int) (n : Nat) : Int × Int := (List.range n).foldl (fun s (x : Nat) => nearStep s (x : Int) (D x)) (0, -1)
theorem nearF_snoc (D : Nat → Int) {N : Nat} (pre : List (Fin N)) (x : Fin N) : nearF D (pre ++ [x]) = nearStep (nearF D pre) (x.1 : Nat) (D x.1) := by simp [nearF, List.foldl_append]
theorem nearF_all (D : Nat → Int) (N : Nat) : nearF D (C32.firsts N N) = nearTo D N := by
  unfold nearF nearTo C32.firsts
  rw [List.take_of_length_le (by simp)]
  have h : (List.finRange N).map Fin.val = List.range N := by
    apply List.ext_getElem
    · simp
    · intro i h1 h2
      simp
  rw [← h, List.foldl_map]
/-- What Dist answers of each. -/
def DistOf (A : Option Addr) (n : Nat) (V : Option Addr) (m cv : Nat) (D : Nat → Int) (w : World) : Prop :=
  ∀ j, j < n → ∃ ad A' l c, A = some ad ∧ w.cell? (ad.add j) = some (.slice A' l c) ∧ ∀ W, Below w.heap.size w W → Calls Try.prog 95 #[.slice A' l c, .slice V m cv] W fun e W' => e = .returned (.tuple #[.int .i64 (D j), .int .i64 0]) ∧ Below W.heap.size W W'

theorem dists_in (n : Nat) (A : Option Addr) (len cap : Nat) (V : Option Addr) (m cv : Nat) (w : World) :
    CallsIn Fence.wide n Try.prog 142 #[.slice A len cap, .slice V m cv] w fun e w' => e = .returned (.func (.func 156) #[] #[.pointer (some ⟨w.heap.size, 0, none⟩), .pointer (some ⟨w.heap.size + 1, 0, none⟩)]) ∧
      w' = (w.alloc (.cells #[.slice A len cap] 22)).alloc (.cells #[.slice V m cv] 39) := by
  refine callsIn_of_wp Try.func142 rfl trivial ?_ rfl
  simp only [Try.ntmps142, List.size_toArray, List.length_cons, List.length_nil, Nat.reduceAdd, Nat.reduceSub, Array.replicate_succ, Array.replicate_zero, List.push_toArray, List.append_toArray, List.nil_append, List.cons_append]
  gi_wp2
  go_ret
  exact ⟨rfl, rfl⟩

theorem cell_lt2 {w : World} {B : Nat} {v : Value} (h : w.cell? ⟨B, 0, none⟩ = some v) : B < w.heap.size := by
  simp only [World.cell?] at h
  refine Classical.byContradiction fun hn => ?_
  rw [Array.getElem?_eq_none (by omega)] at h
  simp at h
/-- What the closure asks of a round: its two boxes stay, and what lay there before. -/
def KeepD (w0 : World) (Bs Bn : Nat) (A B : World) : Prop := C32.Keep2 Bs Bn A B ∧ (Below w0.heap.size w0 A → Below w0.heap.size w0 B)
theorem KeepD.t {w0 : World} {Bs Bn : Nat} {A B C : World} (h : KeepD w0 Bs Bn A B) (k : KeepD w0 Bs Bn B C) : KeepD w0 Bs Bn A C := ⟨h.1.t k.1, fun q => k.2 (h.2 q)⟩
theorem KeepD.b {w0 : World} {Bs Bn : Nat} {w : World} (hs : Bs < w.heap.size) (hb : Bn < w.heap.size) (h0 : w0.heap.size ≤ w.heap.size) (W : World) (l : Nat) (o o' : Obj) (hl : w.heap.size ≤ l) (h : W.heap[l]? = some o) (h1 : o.isCells = false) (h2 : o.isWalk = false) : KeepD w0 Bs Bn W (W.putObj l o') :=
  ⟨C32.Keep2.b hs hb W l o o' hl h h1 h2, fun hB => by
    have hg := grownBy_putObj' W l o'
    exact ⟨hg.os.trans hB.os, hg.tape.trans hB.tape, hg.output.trans hB.output, Nat.le_trans hB.size hg.size, fun k hk => (hg.block k (Nat.lt_of_lt_of_le hk hB.size) (fun e => by cases e; omega)).trans (hB.block k hk)⟩⟩

set_option maxRecDepth 100000 in
set_option maxHeartbeats 2000000 in
theorem dists1_in (n : Nat) (hn : 1 ≤ n) (l Bs Bn : Nat) (A : Option Addr) (len cap : Nat) (V : Option Addr) (m cv : Nat) (D : Nat → Int) (w0 : World) (hD : DistOf A len V m cv D w0) (hlen : len ≤ 1000000)
    (J Jx : List (Fin len) → World → Prop)
    (hY : ∀ pre (x : Fin len) W, J pre W → pre.length < len → YieldAt Fence.wide (n - 1) Try.prog l #[.int .i64 (x.1 : Nat), .int .i64 (D x.1)] W fun e W' =>
      (e = .returned (.bool true) ∧ J (pre ++ [x]) W' ∧ KeepD w0 Bs Bn W W') ∨ (e = .returned (.bool false) ∧ Jx (pre ++ [x]) W'))
    (hJd : ∀ pre W W', J pre W → Below W.heap.size W W' → J pre W') (W : World) (hW0 : Below w0.heap.size w0 W) (hBs : W.cell? ⟨Bs, 0, none⟩ = some (.slice A len cap)) (hBn : W.cell? ⟨Bn, 0, none⟩ = some (.slice V m cv)) (h0 : J [] W) :
    CallsIn Fence.wide n Try.prog 156 #[.func (.yield l) #[] #[], .pointer (some ⟨Bs, 0, none⟩), .pointer (some ⟨Bn, 0, none⟩)] W fun e W' => (∃ v, e = .returned v) ∧
      ((∃ ys, ys = C32.firsts len len ∧ J ys W') ∨ (∃ pre, (∃ k, k ≤ len ∧ pre = C32.firsts len k) ∧ Jx pre W')) := by
  have hfD : Fence.wide.fn 95 := trivial
  refine callsIn_of_wp Try.func156 rfl trivial ?_ rfl
  simp only [Try.ntmps156, List.size_toArray, List.length_cons, List.length_nil, Nat.reduceAdd, Nat.reduceSub, Array.replicate_succ, Array.replicate_zero, List.push_toArray, List.append_toArray, List.nil_append, List.cons_append]
  gi_wp2
  gi_loopw [10] (fun i wr => ∃ k : Nat, k ≤ len ∧ i = .int .i64 k ∧ Aside0 (J (C32.firsts len k) wr) ∧ Aside0 (KeepD w0 Bs Bn W wr)) (fun i _ => len - (intOf i).toNat)
  case atStart => exact ⟨0, Nat.zero_le _, rfl, ⟨h0⟩, ⟨⟨rfl, rfl⟩, fun h => h⟩⟩
  case round =>
    obtain ⟨k, hk, rfl, HJ, HB⟩ := hrel
    have hs' : wr.cell? ⟨Bs, 0, none⟩ = some (.slice A len cap) := HB.out.1.c1.trans hBs
    have hb' : wr.cell? ⟨Bn, 0, none⟩ = some (.slice V m cv) := HB.out.1.c2.trans hBn
    by_cases hlt : k < len
    · have hB0 := HB.out.2 hW0
      obtain ⟨ad, A', l', c', rfl, hx, hcall⟩ := hD k hlt
      have hx := pw_cell_below hB0 hx
      have HC := Aside0.mk (hcall wr hB0)
      have hYk := fun W2 (hb : Below wr.heap.size wr W2) => hY _ ⟨k, hlt⟩ W2 (hJd _ _ _ HJ.out hb) (by rw [C32.firsts_len hk]; exact hlt)
      rw [C32.firsts_succ_eq hlt] at hYk
      dsimp only at hYk
      have HY := Aside0.mk hYk
      clear hYk
      have hsz1 : Bs < wr.heap.size := cell_lt2 hs'
      have hsz2 : Bn < wr.heap.size := cell_lt2 hb'
      have HK := Aside0.mk (fun W2 (hb : Below wr.heap.size wr W2) => (⟨⟨hb.block _ hsz1, hb.block _ hsz2⟩, fun q => below_then q q.size hb⟩ : KeepD w0 Bs Bn wr W2))
      clear hcall hY hJd hD hB0 hsz1 hsz2
      generalize D k = dk at *
      gi_wp2_with (gi_at_call 95; refine (callsIn_wide.2 HC.out).mono ?_; rintro e w2 ⟨rfl, hb⟩; have HY2 := Aside0.mk (HY.out _ hb); have HK2 := Aside0.mk (HK.out _ hb); clear hb; obtain ⟨fn, tmps, assign, body, hy, hR⟩ := HY2.out)
      refine hR.mono ?_
      rintro e W3 (⟨rfl, hJ3, hk3⟩ | ⟨rfl, hJx3⟩)
      · have hb3 : W3.cell? ⟨Bn, 0, none⟩ = some (.slice V m cv) := (KeepD.t HK2.out hk3).1.c2.trans hb'
        have HB3 := Aside0.mk (KeepD.t (KeepD.t HB.out HK2.out) hk3)
        have HJ3 := Aside0.mk hJ3
        clear hk3 hJ3
        gi_wp2
        go_roundw
        case rel => exact ⟨k + 1, by omega, by go_num, HJ3, HB3⟩
        case measure => simp [intOf]; omega
      · gi_wp2
        refine bodyPost_ret (results_none rfl _ _ _) rfl ?_
        exact ⟨⟨_, rfl⟩, .inr ⟨_, ⟨k + 1, by omega, rfl⟩, hJx3⟩⟩
    · obtain rfl : k = len := by omega
      have HJ2 := Aside0.mk (show ∃ ys, ys = C32.firsts k k ∧ J ys wr from ⟨_, rfl, HJ.out⟩)
      clear hY hJd HJ
      gi_wp2
      go_end0
      exact ⟨⟨_, rfl⟩, .inl HJ2.out⟩
theorem dists_stops (n : Nat) (hn : 1 ≤ n) (Bs Bn : Nat) (A : Option Addr) (len cap : Nat) (V : Option Addr) (m cv : Nat) (D : Nat → Int) (w0 : World) (hD : DistOf A len V m cv D w0) (hlen : len ≤ 1000000) (w : World) (hw0 : Below w0.heap.size w0 w)
    (hBs : w.cell? ⟨Bs, 0, none⟩ = some (.slice A len cap)) (hBn : w.cell? ⟨Bn, 0, none⟩ = some (.slice V m cv)) :
    SeqStopsK Fence.wide n Try.prog 156 #[.pointer (some ⟨Bs, 0, none⟩), .pointer (some ⟨Bn, 0, none⟩)] (fun x : Fin len => #[.int .i64 (x.1 : Nat), .int .i64 (D x.1)]) (KeepD w0 Bs Bn) (fun ys => ys = C32.firsts len len) (fun _ => True) len w := by
  intro l J Jx W hW hJ hJx hY h0
  have hs' : W.cell? ⟨Bs, 0, none⟩ = some (.slice A len cap) := (hW.cell (p := ⟨Bs, 0, none⟩) (cell_lt2 hBs)).trans hBs
  have hb' : W.cell? ⟨Bn, 0, none⟩ = some (.slice V m cv) := (hW.cell (p := ⟨Bn, 0, none⟩) (cell_lt2 hBn)).trans hBn
  refine (dists1_in n hn l Bs Bn A len cap V m cv D w0 hD hlen J Jx hY (fun pre W1 W2 hj hb => hJ pre W1 W2 none hj ⟨hb.os, hb.tape, hb.output, hb.size, fun k hk _ => hb.block k hk⟩ (fun r e => by cases e)) W (below_then hw0 hw0.size hW) hs' hb' h0).mono ?_
  rintro e W' ⟨he, h | ⟨pre, _, hj⟩⟩
  · exact ⟨he, .inl h⟩
  · exact ⟨he, .inr ⟨pre, trivial, hj⟩⟩
end Go.Proofs.Yteickelddnhdiaa.G

/- cell.Nearest, (words).nearest, where all is right. -/
namespace Go.Proofs.Yteickelddnhdiaa.G
open Go.RowKit Go.Shelf Go.Proofs.YteickelddnhdiaaW.PrintWords
attribute [local go_sem] Oper.semAt_some
set_option linter.unusedVariables false
set_option linter.unusedSimpArgs false

/-- How far each cent is. -/
def distsOf (cs : List (List Int)) (v : List Int) (j : Nat) : Int := distV (cs.getD j []) v
theorem pairE_zero {a b : List Int} (ha : checkWide a = 0) (hb : checkWide b = 0) (hl : a.length = b.length) : pairE a b = 0 := by simp [pairE, ha, hb, hl]
theorem distOf_of {A0 : Option Addr} {cs : List (List Int)} {A1 : Option Addr} {c1 : Nat} {v : List Int} {w : World} (hr : Kd.C (Kd.slice 21 (Kd.int .i32)) w A0 cs.length cs) (hv : Kd.C (Kd.int .i32) w A1 v.length v) (hok : CentsOK cs v) :
    DistOf A0 cs.length A1 v.length c1 (distsOf cs v) w := by
  intro j hj
  obtain ⟨ad, A', c', e, hx, _, hC⟩ := rows_get hr j hj
  have hm : cs.getD j [] ∈ cs := by
    rw [List.getD_eq_getElem?_getD, List.getElem?_eq_getElem hj]
    exact List.getElem_mem hj
  refine ⟨ad, A', _, c', e, hx, fun W hW => ?_⟩
  have h := Dist_calls A' c' (cs.getD j []) A1 c1 v W (Kd.C_below hC hW) (Kd.C_below hv hW)
  rw [pairE_zero (hok.wide _ hm) hok.vec (hok.long _ hm)] at h
  exact h

theorem near_store {w1 W : World} {b : Nat} {t8 t9 t10 t11 : TypeId} {v8 v9 v10 v11 : Value} (u8 u9 : Value) (hb : w1.heap.size = b) (H8 : Boxed W b t8 v8) (H9 : Boxed W (b + 1) t9 v9) (HS : Boxed W (b + 1 + 1) t10 v10) (HC : Boxed W (b + 1 + 1 + 1) t11 v11) (HB : Below b w1 W) (B : Nat) :
    KeepsFrom B W ((W.setCell ⟨b, 0, none⟩ u8).setCell ⟨b + 1, 0, none⟩ u9) ∧ KeepD w1 (b + 1 + 1) (b + 1 + 1 + 1) W ((W.setCell ⟨b, 0, none⟩ u8).setCell ⟨b + 1, 0, none⟩ u9) ∧
      (Boxed ((W.setCell ⟨b, 0, none⟩ u8).setCell ⟨b + 1, 0, none⟩ u9) b t8 u8 ∧ Boxed ((W.setCell ⟨b, 0, none⟩ u8).setCell ⟨b + 1, 0, none⟩ u9) (b + 1) t9 u9) ∧
      (Boxed ((W.setCell ⟨b, 0, none⟩ u8).setCell ⟨b + 1, 0, none⟩ u9) (b + 1 + 1) t10 v10 ∧ Boxed ((W.setCell ⟨b, 0, none⟩ u8).setCell ⟨b + 1, 0, none⟩ u9) (b + 1 + 1 + 1) t11 v11) ∧
      Below b w1 ((W.setCell ⟨b, 0, none⟩ u8).setCell ⟨b + 1, 0, none⟩ u9) := by
  subst hb
  have hS2 := (HS.other (show w1.heap.size + 1 + 1 ≠ w1.heap.size by omega) u8).other (show w1.heap.size + 1 + 1 ≠ w1.heap.size + 1 by omega) u9
  have hC2 := (HC.other (show w1.heap.size + 1 + 1 + 1 ≠ w1.heap.size by omega) u8).other (show w1.heap.size + 1 + 1 + 1 ≠ w1.heap.size + 1 by omega) u9
  have hB2 : Below w1.heap.size w1 ((W.setCell ⟨w1.heap.size, 0, none⟩ u8).setCell ⟨w1.heap.size + 1, 0, none⟩ u9) := (HB.setCell (p := ⟨w1.heap.size, 0, none⟩) (Nat.le_refl _) u8).setCell (p := ⟨w1.heap.size + 1, 0, none⟩) (Nat.le_succ _) u9
  refine ⟨((KeepsOthers.setCell _ _ _).trans (KeepsOthers.setCell _ _ _)).from _, ⟨⟨hS2.trans HS.symm, hC2.trans HC.symm⟩, fun _ => hB2⟩, ⟨(H8.set u8).other (by omega) u9, (H9.other (by omega) u8).set u9⟩, ⟨hS2, hC2⟩, hB2⟩

set_option maxRecDepth 100000 in
set_option maxHeartbeats 2000000 in
theorem Nearest_calls (A0 : Option Addr) (c0 : Nat) (cs : List (List Int)) (A1 : Option Addr) (c1 : Nat) (v : List Int) (w : World) (hr : Kd.C (Kd.slice 21 (Kd.int .i32)) w A0 cs.length cs) (hv : Kd.C (Kd.int .i32) w A1 v.length v) (hok : CentsOK cs v) :
    Calls Try.prog 123 #[.slice A0 cs.length c0, .slice A1 v.length c1] w fun e w' => e = .returned (.tuple #[.int .i64 (nearTo (distsOf cs v) cs.length).1, .int .i64 (nearTo (distsOf cs v) cs.length).2, .int .i64 0]) ∧ Below w.heap.size w w' := by
  have HBo := Aside0.mk (both_c A0 c0 cs A1 c1 v w hr hv hok)
  have HD := Aside0.mk (fun W (hW : Below w.heap.size w W) => distOf_of (c1 := c1) (Kd.C_below hr hW) (Kd.C_below hv hW) hok)
  have hlen : cs.length ≤ 1000000 := Nat.le_trans hok.most (by decide)
  have HA := Aside0.mk (nearF_all (distsOf cs v) cs.length)
  clear hr hv hok
  generalize distsOf cs v = D at *
  generalize hN : cs.length = N at *
  generalize v.length = m at *
  have hfb : Fence.wide.fn 141 := trivial
  have hfd : Fence.wide.fn 142 := trivial
  refine (callsIn_wide (n := 4)).1 ?_
  refine callsIn_of_wp_marks Try.func123 rfl trivial ?_ rfl
  simp only [Try.ntmps123, List.size_toArray, List.length_cons, List.length_nil, Nat.reduceAdd, Nat.reduceSub, Array.replicate_succ, Array.replicate_zero, List.push_toArray, List.append_toArray, List.nil_append, List.cons_append]
  gi_wp2_with (first | (gi_at_call 141; refine (callsIn_wide.2 HBo.out).mono ?_; rintro e w1 ⟨rfl, hb⟩; have HB1 := Aside0.mk hb; clear hb) | (gi_at_call 142; refine (dists_in _ _ _ _ _ _ _ _).mono ?_; rintro e w2 ⟨rfl, rfl⟩))
  have b8 := Boxed.new w1 3 (.int .i64 0)
  have b9 := Boxed.new (w1.alloc (.cells #[.int .i64 0] 3)) 2 (.int .i64 (-1))
  have bS := Boxed.new ((w1.alloc (.cells #[.int .i64 0] 3)).alloc (.cells #[.int .i64 (-1)] 2)) 22 (.slice A0 N c0)
  have bC := Boxed.new (((w1.alloc (.cells #[.int .i64 0] 3)).alloc (.cells #[.int .i64 (-1)] 2)).alloc (.cells #[.slice A0 N c0] 22)) 39 (.slice A1 m c1)
  rw [World.size_alloc] at b9
  rw [World.size_alloc, World.size_alloc] at bS
  rw [World.size_alloc, World.size_alloc, World.size_alloc] at bC
  have hB0 : Below w1.heap.size w1 ((((w1.alloc (.cells #[.int .i64 0] 3)).alloc (.cells #[.int .i64 (-1)] 2)).alloc (.cells #[.slice A0 N c0] 22)).alloc (.cells #[.slice A1 m c1] 39)) := ((((Below.refl _ w1).alloc (Nat.le_refl _) _).alloc (by simp) _).alloc (by simp; omega) _).alloc (by simp; omega) _
  refine wpIn_rangeFunc_ownG rfl (by omega) (gf := 156) (lb := #[.pointer (some ⟨w1.heap.size + 1 + 1, 0, none⟩), .pointer (some ⟨w1.heap.size + 1 + 1 + 1, 0, none⟩)]) rfl trivial (enters_of Try.func156 (by kernel_rfl) rfl)
    (dists_stops 3 (by omega) (w1.heap.size + 1 + 1) (w1.heap.size + 1 + 1 + 1) A0 N c0 A1 m c1 D w1 (HD.out w1 HB1.out) hlen _ hB0 (bS.alloc _).cell bC.cell) KeepD.t (KeepD.b (by simp) (by simp) (by simp; omega)) (Below.refl _ _) (fun _ => rfl)
    (fun (pre : List (Fin N)) W => (Boxed W w1.heap.size 3 (.int .i64 (nearF D pre).1) ∧ Boxed W (w1.heap.size + 1) 2 (.int .i64 (nearF D pre).2)) ∧ (Boxed W (w1.heap.size + 1 + 1) 22 (.slice A0 N c0) ∧ Boxed W (w1.heap.size + 1 + 1 + 1) 39 (.slice A1 m c1)) ∧ Below w1.heap.size w1 W)
    (fun _ _ _ => False)
    (OwnFrom.and (OwnFrom.and (Own.from (boxed_own _ _ (fun pre : List (Fin N) => .int .i64 (nearF D pre).1)) _) (Own.from (boxed_own _ _ (fun pre : List (Fin N) => .int .i64 (nearF D pre).2)) _)) (OwnFrom.and (OwnFrom.and (Own.from (boxed_own _ _ _) _) (Own.from (boxed_own _ _ _) _)) (ownFrom_below (Nat.le_refl _) (by simp; omega))))
    (fun _ _ _ _ _ hs _ _ => hs)
    ⟨⟨((b8.alloc _).alloc _).alloc _, (b9.alloc _).alloc _⟩, ⟨bS.alloc _, bC⟩, hB0⟩ ?a1 ?assign ?body ?done ?stop
  case assign =>
    intro l x W K hK
    gi_wp2
    exact hK
  case body =>
    rintro l pre x W ⟨⟨hv8, hv9⟩, ⟨bS1, bC1⟩, hB⟩ hlt
    have HS := Aside0.mk (nearF_snoc D pre x)
    have H8 := Aside0.mk hv8
    have H9 := Aside0.mk hv9
    have HS1 := Aside0.mk bS1
    have HC1 := Aside0.mk bC1
    have HBW := Aside0.mk hB
    have hc8 := hv8.cell
    have hc9 := hv9.cell
    have hf8 := hv8.frozen
    have hf9 := hv9.frozen
    clear hv8 hv9 bS1 bC1 hB b8 b9 bS bC hB0
    obtain ⟨xk, hxk⟩ := x
    dsimp only at HS
    generalize nearF D pre = s at *
    obtain ⟨bi, fa⟩ := s
    dsimp only at H8 H9 hc8 hc9
    generalize D xk = d at *
    by_cases h1 : fa < 0
    · have hd1 : decide (fa < 0) = true := decide_eq_true h1
      have HN := Aside0.mk (HS.out.trans (show nearStep (bi, fa) (xk : Int) d = ((xk : Int), d) by simp [nearStep, h1]))
      clear HS h1
      gi_wp2
      have h := near_store (.int .i64 (xk : Int)) (.int .i64 d) rfl H8.out H9.out HS1.out HC1.out HBW.out
      refine ⟨(h _).1, (h 0).2.1, ?_⟩
      dsimp only
      rw [HN.out]
      exact (h 0).2.2
    · have hd1 : decide (fa < 0) = false := decide_eq_false h1
      by_cases h2 : d < fa
      · have hd2 : decide (d < fa) = true := decide_eq_true h2
        have HN := Aside0.mk (HS.out.trans (show nearStep (bi, fa) (xk : Int) d = ((xk : Int), d) by simp [nearStep, h2]))
        clear HS h1 h2
        gi_wp2
        have h := near_store (.int .i64 (xk : Int)) (.int .i64 d) rfl H8.out H9.out HS1.out HC1.out HBW.out
        refine ⟨(h _).1, (h 0).2.1, ?_⟩
        dsimp only
        rw [HN.out]
        exact (h 0).2.2
      · have hd2 : decide (d < fa) = false := decide_eq_false h2
        have HN := Aside0.mk (HS.out.trans (show nearStep (bi, fa) (xk : Int) d = (bi, fa) by simp [nearStep, h1, h2]))
        clear HS h1 h2
        gi_wp2
        refine ⟨KeepsFrom.refl _ _, ⟨⟨rfl, rfl⟩, fun h => h⟩, ?_⟩
        dsimp only
        rw [HN.out]
        exact ⟨⟨H8.out, H9.out⟩, ⟨HS1.out, HC1.out⟩, HBW.out⟩
  case done =>
    rintro D' ys W hD' rfl ⟨⟨hv8, hv9⟩, _, hB⟩ hK
    rw [HA.out] at hv8 hv9
    have hc8 := hv8.cell
    have hc9 := hv9.cell
    clear hv8 hv9
    obtain ⟨bi, hbi⟩ : ∃ bi, (nearTo D N).1 = bi := ⟨_, rfl⟩
    obtain ⟨fa, hfa⟩ : ∃ fa, (nearTo D N).2 = fa := ⟨_, rfl⟩
    have HBI := Aside0.mk hbi
    have HFA := Aside0.mk hfa
    rw [hbi] at hc8
    rw [hfa] at hc9
    clear hbi hfa
    gi_wp2
    gi_quiet (fail)
    rename_i nq
    gi_wp2
    have hlt : D' < W.heap.size := (Array.getElem?_eq_some_iff.1 hK).1
    have hK2 : (W.drewN nq).heap[D']? = some (.deferred (some [])) := ((pw_below_drewN (Below.refl W.heap.size W) nq).block D' hlt).trans hK
    have hBW : Below w.heap.size w (W.drewN nq) := pw_below_drewN (below_then HB1.out HB1.out.size hB) nq
    have hsz : w.heap.size ≤ D' := by have := HB1.out.size; simp at hD'; omega
    refine ⟨by simp, .inl ⟨_, _, rfl, run_takeDeferred hK2, ?_⟩⟩
    refine ⟨_, results_tmp3 rfl _ _ _, ?_, hBW.trans (belowK_b (w := w) (Nat.le_refl _) (W.drewN nq) D' _ _ hsz hK2 rfl rfl)⟩
    rw [HBI.out, HFA.out]
    rfl
  case stop => rintro D' c pre W _ _ h _; exact h.elim
end Go.Proofs.Yteickelddnhdiaa.G

/- (words).nearest, and the contracts of the book's functions in the print's form. -/
namespace Go.Proofs.Yteickelddnhdiaa.G
open Go.RowKit Go.Shelf Go.Proofs.YteickelddnhdiaaW.PrintWords
set_option linter.unusedVariables false
set_option linter.unusedSimpArgs false

theorem nearTo_succ (D : Nat → Int) (n : Nat) : nearTo D (n + 1) = nearStep (nearTo D n) (n : Int) (D n) := by simp [nearTo, List.range_succ, List.foldl_append]
/-- The first of the nearest. -/
theorem nearTo_spec (D : Nat → Int) (hD : ∀ j, 0 ≤ D j) : ∀ n, 1 ≤ n → ∃ k : Nat, k < n ∧ nearTo D n = ((k : Int), D k) ∧ (∀ j, j < n → D k ≤ D j) ∧ ∀ j, j < k → D k < D j
  | 0, h => absurd h (by omega)
  | 1, _ => by
    refine ⟨0, by omega, by rw [nearTo_succ]; simp [nearTo, nearStep], fun j hj => ?_, fun j hj => by omega⟩
    obtain rfl : j = 0 := by omega
    exact Int.le_refl _
  | n + 2, _ => by
    obtain ⟨k, hk, he, hm, hl⟩ := nearTo_spec D hD (n + 1) (by omega)
    rw [nearTo_succ, he]
    have hk0 := hD k
    by_cases h : D (n + 1) < D k
    · refine ⟨n + 1, by omega, by simp [nearStep, h], fun j hj => ?_, fun j hj => ?_⟩
      · rcases Nat.lt_succ_iff_lt_or_eq.1 hj with h2 | rfl
        · exact Int.le_of_lt (Int.lt_of_lt_of_le h (hm j h2))
        · exact Int.le_refl _
      · exact Int.lt_of_lt_of_le h (hm j (by omega))
    · refine ⟨k, by omega, by simp only [nearStep]; rw [if_neg (by omega)], fun j hj => ?_, hl⟩
      rcases Nat.lt_succ_iff_lt_or_eq.1 hj with h2 | rfl
      · exact hm j h2
      · omega
theorem distTo_nonneg (a b : List Int) : ∀ n, 0 ≤ distTo a b n
  | 0 => by simp [distTo]
  | n + 1 => by
    have h := distTo_nonneg a b n
    simp only [distTo]
    refine Int.add_nonneg h ?_
    unfold sq
    rw [← Int.natAbs_mul_self]
    exact Int.natCast_nonneg _
theorem distV_nonneg (a b : List Int) : 0 ≤ distV a b := by
  unfold distV
  split
  · exact distTo_nonneg a b _
  · exact Int.le_refl _
theorem nearest_calls (A0 : Option Addr) (c0 : Nat) (cs : List (List Int)) (A1 : Option Addr) (c1 : Nat) (v : List Int) (w : World) (hr : Kd.C (Kd.slice 21 (Kd.int .i32)) w A0 cs.length cs) (hv : Kd.C (Kd.int .i32) w A1 v.length v) (hok : CentsOK cs v) :
    Calls Try.prog 91 #[.slice A0 cs.length c0, .slice A1 v.length c1] w fun e w' => e = .returned (.int .u8 (nearTo (distsOf cs v) cs.length).1) ∧ Below w.heap.size w w' := by
  have HN := Aside0.mk (Nearest_calls A0 c0 cs A1 c1 v w hr hv hok)
  obtain ⟨k, hk, he, _, _⟩ := nearTo_spec (distsOf cs v) (fun j => distV_nonneg _ _) cs.length hok.one
  have hk256 : k ≤ 255 := by have := hok.most; omega
  have hwr : Value.int .u8 (IntKind.u8.wrap (k : Int)) = Value.int .u8 (k : Int) := by
    congr 1
    rw [IntKind.wrap_u8]
    omega
  rw [he] at HN ⊢
  dsimp only at HN ⊢
  clear hr hv hok he
  generalize distsOf cs v k = d at *
  go_enter Try.func91, Try.ntmps91
  go_wp2_with (go_at_call 123; ((with_reducible refine HN.out.mono ?_); rintro e w' ⟨rfl, hb'⟩; have HB' := Aside0.mk hb'; clear hb'))
  go_ret
  exact ⟨by rfl, HB'.out⟩
end Go.Proofs.Yteickelddnhdiaa.G
namespace Go.Proofs.Yteickelddnhdiaa.Bk
open Go.RowKit Go.Proofs.YteickelddnhdiaaW.PrintWords Go.Proofs.Yteickelddnhdiaa.G
set_option linter.unusedVariables false
def centsB (cs : List (List Int)) (v : List Int) : Bool := decide (1 ≤ cs.length) && decide (cs.length ≤ 256) && cs.all (fun c => decide (checkWide c = 0) && decide (c.length = v.length)) && decide (checkWide v = 0)
theorem centsB_iff (cs : List (List Int)) (v : List Int) : centsB cs v = true ↔ CentsOK cs v := by
  simp only [centsB, Bool.and_eq_true, decide_eq_true_eq, List.all_eq_true]
  exact ⟨fun ⟨⟨⟨h1, h2⟩, h3⟩, h4⟩ => ⟨h1, h2, fun c hc => (h3 c hc).1, fun c hc => (h3 c hc).2, h4⟩, fun h => ⟨⟨⟨h.one, h.most⟩, fun c hc => ⟨h.wide c hc, h.long c hc⟩⟩, h.vec⟩⟩
def book_words_nearest.f (cs : List (List Int)) (v : List Int) : Option Int := if centsB cs v = true then some (nearTo (distsOf cs v) cs.length).1 else none
theorem book_words_nearest.calls (A0 : Option Addr) (c0 : Nat) (l0 : List (List Int)) (A1 : Option Addr) (c1 : Nat) (l1 : List Int) (r : Int) (w : World) (hr0 : Kd.C (Kd.slice 21 (Kd.int .i32)) w A0 l0.length l0) (hc0 : l0.length ≤ c0) (hr1 : Kd.C (Kd.int .i32) w A1 l1.length l1) (hc1 : l1.length ≤ c1) (h : book_words_nearest.f l0 l1 = some r) :
    Calls Try.prog 91 #[.slice A0 l0.length c0, .slice A1 l1.length c1] w fun e w' => e = .returned (.int .u8 r) ∧ Below w.heap.size w w' := by
  unfold book_words_nearest.f at h
  split at h
  · next hok =>
    injection h with h
    subst h
    exact nearest_calls A0 c0 l0 A1 c1 l1 w hr0 hr1 ((centsB_iff _ _).1 hok)
  · cases h
def vec_CheckWide.f (l : List Int) : Option Int := some (checkWide l)
theorem vec_CheckWide.calls (A0 : Option Addr) (c0 : Nat) (l0 : List Int) (r : Int) (w : World) (hr0 : Kd.C (Kd.int .i32) w A0 l0.length l0) (hc0 : l0.length ≤ c0) (h : vec_CheckWide.f l0 = some r) :
    Calls Try.prog 67 #[.slice A0 l0.length c0] w fun e w' => e = .returned (.int .i64 r) ∧ Below w.heap.size w w' := by
  cases h
  exact CheckWide_calls A0 c0 l0 w hr0
def vec_Dist.f (a b : List Int) : Option (Int × Int) := some (distV a b, pairE a b)
theorem vec_Dist.calls (A0 : Option Addr) (c0 : Nat) (l0 : List Int) (A1 : Option Addr) (c1 : Nat) (l1 : List Int) (r1 : Int) (r2 : Int) (w : World) (hr0 : Kd.C (Kd.int .i32) w A0 l0.length l0) (hc0 : l0.length ≤ c0) (hr1 : Kd.C (Kd.int .i32) w A1 l1.length l1) (hc1 : l1.length ≤ c1) (h : vec_Dist.f l0 l1 = some (r1, r2)) :
    Calls Try.prog 95 #[.slice A0 l0.length c0, .slice A1 l1.length c1] w fun e w' => e = .returned (.tuple #[.int .i64 r1, .int .i64 r2]) ∧ Below w.heap.size w w' := by
  cases h
  exact Dist_calls A0 c0 l0 A1 c1 l1 w hr0 hr1
def part_Cut.f (l : List Int) (a1 : Int) : Option (List (List Int) × Int) := some (cutL l a1, cutE l a1)
theorem part_Cut.calls (A0 : Option Addr) (c0 : Nat) (l0 : List Int) (a1 : Int) (r1 : List (List Int)) (r2 : Int) (w : World) (hr0 : Kd.C (Kd.int .i32) w A0 l0.length l0) (hc0 : l0.length ≤ c0) (h : part_Cut.f l0 a1 = some (r1, r2)) :
    Calls Try.prog 90 #[.slice A0 l0.length c0, .int .i64 a1] w fun e w' => ∃ v0_ : Value, e = .returned (.tuple #[v0_, .int .i64 r2]) ∧ Kd.R (Kd.slice 21 (Kd.int .i32)) 39 w' w.heap.size (fun _ => True) v0_ r1 ∧ Below w.heap.size w w' := by
  cases h
  exact Cut_calls A0 c0 l0 a1 w hr0 hc0
end Go.Proofs.Yteickelddnhdiaa.Bk
