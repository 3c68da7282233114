/- The contract of slices.Chunk at []int32: its closure hands on piece by piece. -/
import Derived.Test.YteickelddnhdiaaBase
import Derived.RangeFuncBox
import Derived.RangeFuncLeaves
import Derived.RangeFuncNested
import Derived.RangeFuncBound
import Derived.RangeFuncCalls
import Derived.OwnWalkIn
import Derived.TacticsInMore
import Derived.LoopNIn
import Derived.LoopIn
import Derived.Maps.AppendAt
import Derived.Sort.QuietIn
namespace Go.Proofs.Yteickelddnhdiaa.G.C32
open Go.RowKit Go.Shelf Go.Proofs.YteickelddnhdiaaW.PrintWords
attribute [local go_sem] Oper.semAt_some
set_option linter.unusedVariables false
set_option linter.unusedSimpArgs false

/-- How many pieces there are. -/
def pieces (len c : Nat) : Nat := (len + c - 1) / c
theorem pieces_lt {len c k : Nat} (hc : 1 ≤ c) : k < pieces len c ↔ k * c < len := by
  unfold pieces
  rw [Nat.lt_iff_add_one_le, Nat.le_div_iff_mul_le (by omega), Nat.add_mul, Nat.one_mul]
  omega
def firsts (N k : Nat) : List (Fin N) := (List.finRange N).take k
theorem firsts_succ {N k : Nat} (h : k < N) : firsts N (k + 1) = firsts N k ++ [⟨k, h⟩] := by
  unfold firsts
  rw [List.take_succ_eq_append_getElem (by simpa using h)]
  simp
theorem firsts_succ_eq {N k : Nat} (h : k < N) : firsts N k ++ [⟨k, h⟩] = firsts N (k + 1) := (firsts_succ h).symm
theorem firsts_len {N k : Nat} (h : k ≤ N) : (firsts N k).length = k := by simp [firsts, h]
/-- The piece at k, as a value. -/
def pieceV (ad : Addr) (len c k : Nat) : Value := .slice (some (ad.add (k * c))) (min c (len - k * c)) (min c (len - k * c))

/-- What the closure asks of a round: its two boxes stay. -/
def Keep2 (Bs Bn : Nat) (A B : World) : Prop := B.heap[Bs]? = A.heap[Bs]? ∧ B.heap[Bn]? = A.heap[Bn]?
theorem Keep2.t {Bs Bn : Nat} {A B C : World} (h : Keep2 Bs Bn A B) (k : Keep2 Bs Bn B C) : Keep2 Bs Bn A C := ⟨k.1.trans h.1, k.2.trans h.2⟩
theorem Keep2.b {Bs Bn : Nat} {w : World} (hs : Bs < w.heap.size) (hb : Bn < w.heap.size) (W : World) (l : Nat) (o o' : Obj) (hl : w.heap.size ≤ l) (h : W.heap[l]? = some o) (_ : o.isCells = false) (_ : o.isWalk = false) : Keep2 Bs Bn W (W.putObj l o') :=
  ⟨World.putObj_heap_other (by omega), World.putObj_heap_other (by omega)⟩
theorem Keep2.c1 {Bs Bn : Nat} {A B : World} (h : Keep2 Bs Bn A B) : B.cell? ⟨Bs, 0, none⟩ = A.cell? ⟨Bs, 0, none⟩ := World.cell?_of_block h.1
theorem Keep2.c2 {Bs Bn : Nat} {A B : World} (h : Keep2 Bs Bn A B) : B.cell? ⟨Bn, 0, none⟩ = A.cell? ⟨Bn, 0, none⟩ := World.cell?_of_block h.2

set_option maxRecDepth 100000 in
set_option maxHeartbeats 2000000 in
theorem chunk1_in (n : Nat) (hn : 1 ≤ n) (l Bs Bn : Nat) (ad : Addr) (len cap c : Nat) (hc : 1 ≤ c) (hc2 : c ≤ 1000000) (hlc : len ≤ cap) (hreach : len ≤ 140737488351232) (J Jx : List (Fin (pieces len c)) → World → Prop)
    (hY : ∀ pre (x : Fin (pieces len c)) W, J pre W → pre.length < pieces len c → YieldAt Fence.wide (n - 1) Try.prog l #[pieceV ad len c x] W fun e W' =>
      (e = .returned (.bool true) ∧ J (pre ++ [x]) W' ∧ Keep2 Bs Bn W W') ∨ (e = .returned (.bool false) ∧ Jx (pre ++ [x]) W'))
    (hJd : ∀ pre W q, J pre W → J pre (W.drewN q)) (W : World) (hBs : W.cell? ⟨Bs, 0, none⟩ = some (.slice (some ad) len cap)) (hBn : W.cell? ⟨Bn, 0, none⟩ = some (.int .i64 c)) (h0 : J [] W) :
    CallsIn Fence.wide n Try.prog 140 #[.func (.yield l) #[] #[], .pointer (some ⟨Bs, 0, none⟩), .pointer (some ⟨Bn, 0, none⟩)] W fun e W' => (∃ v, e = .returned v) ∧
      ((∃ ys, ys = firsts (pieces len c) (pieces len c) ∧ J ys W') ∨ (∃ pre, (∃ k, k ≤ pieces len c ∧ pre = firsts (pieces len c) k) ∧ Jx pre W')) := by
  refine callsIn_of_wp Try.func140 rfl trivial ?_ rfl
  simp only [Try.ntmps140, List.size_toArray, List.length_cons, List.length_nil, Nat.reduceAdd, Nat.reduceSub, Array.replicate_succ, Array.replicate_zero, List.push_toArray, List.append_toArray, List.nil_append, List.cons_append]
  gi_wp2
  gi_loopw [4, 5] (fun i _ wr => ∃ k : Nat, k ≤ pieces len c ∧ i = .int .i64 ((k * c : Nat) : Int) ∧ Aside0 (J (firsts (pieces len c) k) wr) ∧ Aside0 (Keep2 Bs Bn W wr)) (fun i _ _ => len + c - (intOf i).toNat)
  case atStart => exact ⟨0, Nat.zero_le _, by simp, ⟨h0⟩, ⟨rfl, rfl⟩⟩
  case round =>
    obtain ⟨k, hk, rfl, HJ, HB⟩ := hrel
    have hs' : wr.cell? ⟨Bs, 0, none⟩ = some (.slice (some ad) len cap) := HB.out.c1.trans hBs
    have hb' : wr.cell? ⟨Bn, 0, none⟩ = some (.int .i64 c) := HB.out.c2.trans hBn
    by_cases hlt : k < pieces len c
    · have hkc : k * c < len := (pieces_lt hc).1 hlt
      have HN := Aside0.mk (show (k + 1) * c = k * c + c by rw [Nat.add_mul, Nat.one_mul])
      have hPV : ∀ kc m, k * c = kc → min c (len - kc) = m → pieceV ad len c k = .slice (some (ad.add kc)) m m := by
        intro kc m e1 e2
        subst e1
        subst e2
        rfl
      have HY := Aside0.mk (fun q => hY _ ⟨k, hlt⟩ (wr.drewN q) (hJd _ _ q HJ.out) (by rw [firsts_len hk]; exact hlt))
      rw [firsts_succ_eq hlt] at HY
      generalize hK : k * c = kc at *
      have hne : ¬ cap = kc := by omega
      have hkl : (kc : Int) ≤ (len : Int) := by omega
      by_cases hq : len - kc < c
      · rw [hPV kc (len - kc) rfl (by omega)] at HY
        clear hPV hY hJd
        gi_wp2
        gi_quiet (fail)
        rename_i nq
        obtain ⟨fn, tmps, assign, body, hy, hR⟩ := HY.out nq
        gi_wp2
        refine hR.mono ?_
        rintro e W3 (⟨rfl, hJ3, hk3⟩ | ⟨rfl, hJx3⟩)
        · have hb3 : W3.cell? ⟨Bn, 0, none⟩ = some (.int .i64 c) := hk3.c2.trans hb'
          have HB3 := Aside0.mk (Keep2.t HB.out hk3)
          have HJ3 := Aside0.mk hJ3
          clear hk3 hJ3
          gi_wp2
          go_roundw
          case rel => exact ⟨k + 1, by omega, by rw [HN.out]; go_num, HJ3, HB3⟩
          case measure => simp [intOf]; omega
        · gi_wp2
          refine bodyPost_ret (results_none rfl _ _ _) rfl ?_
          exact ⟨⟨_, rfl⟩, .inr ⟨_, ⟨k + 1, by omega, rfl⟩, hJx3⟩⟩
      · rw [hPV kc c rfl (by omega)] at HY
        clear hPV hY hJd
        gi_wp2
        gi_quiet (fail)
        rename_i nq
        obtain ⟨fn, tmps, assign, body, hy, hR⟩ := HY.out nq
        gi_wp2
        refine hR.mono ?_
        rintro e W3 (⟨rfl, hJ3, hk3⟩ | ⟨rfl, hJx3⟩)
        · have hb3 : W3.cell? ⟨Bn, 0, none⟩ = some (.int .i64 c) := hk3.c2.trans hb'
          have HB3 := Aside0.mk (Keep2.t HB.out hk3)
          have HJ3 := Aside0.mk hJ3
          clear hk3 hJ3
          gi_wp2
          go_roundw
          case rel => exact ⟨k + 1, by omega, by rw [HN.out]; go_num, HJ3, HB3⟩
          case measure => simp [intOf]; omega
        · gi_wp2
          refine bodyPost_ret (results_none rfl _ _ _) rfl ?_
          exact ⟨⟨_, rfl⟩, .inr ⟨_, ⟨k + 1, by omega, rfl⟩, hJx3⟩⟩
    · obtain rfl : k = pieces len c := by omega
      have hge : ¬ (pieces len c * c < len) := fun h => hlt ((pieces_lt hc).2 h)
      have hge2 : len ≤ pieces len c * c := by omega
      have HJ2 := Aside0.mk (show ∃ ys, ys = firsts (pieces len c) (pieces len c) ∧ J ys wr from ⟨_, rfl, HJ.out⟩)
      clear hY hJd HJ
      generalize pieces len c * c = kc at *
      gi_wp2
      go_end0
      exact ⟨⟨_, rfl⟩, .inl HJ2.out⟩

set_option maxRecDepth 100000 in
/-- At an empty slice: no piece. -/
theorem chunk0_in (n : Nat) (l Bs Bn : Nat) (A : Option Addr) (cap : Nat) (c : Nat) (N : Nat) (J : List (Fin N) → World → Prop)
    (W : World) (hBs : W.cell? ⟨Bs, 0, none⟩ = some (.slice A 0 cap)) (h0 : J [] W) :
    CallsIn Fence.wide n Try.prog 140 #[.func (.yield l) #[] #[], .pointer (some ⟨Bs, 0, none⟩), .pointer (some ⟨Bn, 0, none⟩)] W fun e W' => (∃ v, e = .returned v) ∧ J [] W' := by
  refine callsIn_of_wp Try.func140 rfl trivial ?_ rfl
  simp only [Try.ntmps140, List.size_toArray, List.length_cons, List.length_nil, Nat.reduceAdd, Nat.reduceSub, Array.replicate_succ, Array.replicate_zero, List.push_toArray, List.append_toArray, List.nil_append, List.cons_append]
  gi_wp2
  gi_loopw [4, 5] (fun i _ wr => i = .int .i64 0 ∧ wr = W) (fun _ _ _ => 0)
  case atStart => exact ⟨rfl, rfl⟩
  case round =>
    obtain ⟨rfl, rfl⟩ := hrel
    gi_wp2
    go_end0
    exact ⟨⟨_, rfl⟩, h0⟩

/-- slices.Chunk: both arguments are boxed; the closure has captured the boxes. -/
theorem chunk_in (n : Nat) (A : Option Addr) (len cap c : Nat) (hc : 1 ≤ c) (hc2 : c ≤ 1000000) (w : World) :
    CallsIn Fence.wide n Try.prog 121 #[.slice A len cap, .int .i64 c] w fun e w' => e = .returned (.func (.func 140) #[] #[.pointer (some ⟨w.heap.size, 0, none⟩), .pointer (some ⟨w.heap.size + 1, 0, none⟩)]) ∧
      w' = (w.alloc (.cells #[.slice A len cap] 39)).alloc (.cells #[.int .i64 c] 3) := by
  refine callsIn_of_wp Try.func121 rfl trivial ?_ rfl
  simp only [Try.ntmps121, List.size_toArray, List.length_cons, List.length_nil, Nat.reduceAdd, Nat.reduceSub, Array.replicate_succ, Array.replicate_zero, List.push_toArray, List.append_toArray, List.nil_append, List.cons_append]
  gi_wp2
  go_ret
  exact ⟨rfl, rfl⟩

/-- The closure, at any slice, the nil one too. -/
theorem chunk_stops (n : Nat) (hn : 1 ≤ n) (Bs Bn : Nat) (A : Option Addr) (len cap c : Nat) (hA : 0 < len → ∃ ad, A = some ad) (hc : 1 ≤ c) (hc2 : c ≤ 1000000) (hlc : len ≤ cap) (hreach : len ≤ 140737488351232) (w : World) (hs : Bs < w.heap.size) (hb : Bn < w.heap.size)
    (hBs : w.cell? ⟨Bs, 0, none⟩ = some (.slice A len cap)) (hBn : w.cell? ⟨Bn, 0, none⟩ = some (.int .i64 c)) :
    SeqStopsK Fence.wide n Try.prog 140 #[.pointer (some ⟨Bs, 0, none⟩), .pointer (some ⟨Bn, 0, none⟩)] (fun x : Fin (pieces len c) => #[pieceV (A.getD default) len c x]) (Keep2 Bs Bn) (fun ys => ys = firsts (pieces len c) (pieces len c)) (fun _ => True) (pieces len c) w := by
  intro l J Jx W hW hJ hJx hY h0
  have hs' : W.cell? ⟨Bs, 0, none⟩ = some (.slice A len cap) := (hW.cell (p := ⟨Bs, 0, none⟩) hs).trans hBs
  have hb' : W.cell? ⟨Bn, 0, none⟩ = some (.int .i64 c) := (hW.cell (p := ⟨Bn, 0, none⟩) hb).trans hBn
  rcases Nat.eq_zero_or_pos len with h | h
  · subst h
    refine (chunk0_in n l Bs Bn A cap c (pieces 0 c) J W hs' h0).mono ?_
    rintro e W' ⟨he, hj⟩
    refine ⟨he, .inl ⟨_, rfl, ?_⟩⟩
    have h2 : pieces 0 c = 0 := by unfold pieces; rw [Nat.div_eq_of_lt (by omega)]
    have h3 : firsts (pieces 0 c) (pieces 0 c) = [] := List.eq_nil_of_length_eq_zero (by rw [firsts_len (Nat.le_refl _), h2])
    rw [h3]
    exact hj
  · obtain ⟨ad, rfl⟩ := hA h
    refine (chunk1_in n hn l Bs Bn ad len cap c hc hc2 hlc hreach J Jx hY (fun pre W1 q hj => hJ pre W1 _ none hj ⟨rfl, rfl, rfl, Nat.le_refl _, fun _ _ _ => rfl⟩ (fun r e => by cases e)) W hs' hb' h0).mono ?_
    rintro e W' ⟨he, h | ⟨pre, _, hj⟩⟩
    · exact ⟨he, .inl h⟩
    · exact ⟨he, .inr ⟨pre, trivial, hj⟩⟩

end Go.Proofs.Yteickelddnhdiaa.G.C32
