/- Contracts: slices.Equal, slices.EqualFunc over rows, book.Same. -/
import Derived.Test.YteickelddnhdiaaRowsA
import Derived.BigQuiet
namespace Go.Proofs.Yteickelddnhdiaa.G
open Go.RowKit Go.Shelf Go.Proofs.YteickelddnhdiaaW.PrintWords
set_option linter.unusedVariables false
set_option linter.unusedSimpArgs false
theorem all_eq {α : Type} [DecidableEq α] (z : α) (a b : List α) : (a.length == b.length && (List.range a.length).all (fun j => decide (a.getD j z = b.getD j z))) = decide (a = b) := by
  rw [Bool.eq_iff_iff, Bool.and_eq_true, List.all_eq_true, beq_iff_eq, decide_eq_true_iff]
  constructor
  · rintro ⟨h1, h2⟩
    apply List.ext_getElem h1
    intro j ha hb
    have := h2 j (List.mem_range.2 ha)
    rw [decide_eq_true_iff, List.getD_eq_getElem?_getD, List.getD_eq_getElem?_getD, List.getElem?_eq_getElem ha, List.getElem?_eq_getElem hb] at this
    exact this
  · rintro rfl
    exact ⟨rfl, fun j _ => by simp⟩
set_option maxRecDepth 100000 in
theorem Equal_c (A0 : Option Addr) (c0 : Nat) (a : List Int) (A1 : Option Addr) (c1 : Nat) (b : List Int) (w : World) (hr0 : Kd.C (Kd.int .i32) w A0 a.length a) (hr1 : Kd.C (Kd.int .i32) w A1 b.length b) :
    Calls Try.prog 89 #[.slice A0 a.length c0, .slice A1 b.length c1] w fun e w' => e = .returned (.bool (decide (a = b))) ∧ Below w.heap.size w w' := by
  have m0 := C_max hr0
  have m1 := C_max hr1
  by_cases hnm : a.length = b.length
  · have H0 := Aside0.mk (fun W (hB : Below w.heap.size w W) => C_ints (Kd.C_below hr0 hB))
    have H1 := Aside0.mk (fun W (hB : Below w.heap.size w W) => C_ints (Kd.C_below hr1 hB))
    have HN := Aside0.mk hnm
    have HX := Aside0.mk (fun (h : ∀ i, i < a.length → a.getD i 0 = b.getD i 0) => show a = b by
      have := all_eq 0 a b
      rw [show (a.length == b.length) = true by simpa using hnm, Bool.true_and, List.all_eq_true.2 (fun i hi => by rw [decide_eq_true_iff]; exact h i (List.mem_range.1 hi))] at this
      exact of_decide_eq_true this.symm)
    rw [← hnm]
    have hne : ((a.length : Int) != (a.length : Int)) = false := by simp
    clear hr0 hr1 hnm
    go_enter Try.func89, Try.ntmps89
    go_wp2
    go_loopw [5, 13] (fun _ v wr => ∃ k : Nat, k ≤ a.length ∧ v = .int .i64 k ∧ Aside0 (∀ i, i < k → a.getD i 0 = b.getD i 0) ∧ Aside0 (Below w.heap.size w wr)) (fun _ v _ => a.length - (intOf v).toNat)
    case atStart => exact ⟨0, Nat.zero_le _, rfl, ⟨fun _ h => absurd h (Nat.not_lt_zero _)⟩, ⟨Below.refl _ _⟩⟩
    case round =>
      obtain ⟨k, hk, rfl, hno, HB⟩ := hrel
      by_cases hlt : k < a.length
      · obtain ⟨ad, e1, hx⟩ := H0.out wr HB.out k hlt
        subst e1
        obtain ⟨ad', e2, hx'⟩ := H1.out wr HB.out k (HN.out ▸ hlt)
        subst e2
        by_cases hq : a.getD k 0 = b.getD k 0
        · have hno2 := Aside0.mk (fun i (hi : i < k + 1) => show a.getD i 0 = b.getD i 0 by rcases Nat.lt_succ_iff_lt_or_eq.1 hi with h | rfl; exact hno.out i h; exact hq)
          rw [← hq] at hx'
          clear hq
          generalize a.getD k 0 = x at *
          have hd : (x != x) = false := by simp
          go_wp2
          go_quiet (fail)
          rename_i nq
          have HB' := Aside0.mk (pw_below_drewN HB.out nq)
          go_wp2
          go_roundw
          case rel => exact ⟨k + 1, by omega, by go_num, hno2, HB'⟩
          case measure => simp [intOf]; omega
        · have HF := Aside0.mk (show decide (a = b) = false from decide_eq_false (fun e => hq (by rw [e])))
          have hd : (a.getD k 0 != b.getD k 0) = true := by simpa using hq
          generalize a.getD k 0 = x at *
          generalize b.getD k 0 = y at *
          go_wp2
          go_quiet (fail)
          rename_i nq
          have HB' := Aside0.mk (pw_below_drewN HB.out nq)
          go_wp2
          go_ret
          exact ⟨by rw [HF.out]; rfl, HB'.out⟩
      · obtain rfl : k = a.length := by omega
        have HF := Aside0.mk (show decide (a = b) = true from decide_eq_true (HX.out hno.out))
        go_wp2
        go_ret
        exact ⟨by rw [HF.out]; rfl, HB.out⟩
  · have hne : ((a.length : Int) != (b.length : Int)) = true := by simp; omega
    have HF := Aside0.mk (show decide (a = b) = false from decide_eq_false (fun e => hnm (by rw [e])))
    rw [HF.out]
    clear hr0 hr1
    go_enter Try.func89, Try.ntmps89
    go_wp2
    go_ret
    exact ⟨rfl, Below.refl _ _⟩
/-- Two rows' elements, side by side, and what a function value tells of them. -/
def TwoPred (A0 A1 : Option Addr) (n : Nat) (g : Nat) (lb : Array Value) (p : Nat → Bool) (w : World) : Prop :=
  ∀ j, j < n → ∃ ad v ad' v', A0 = some ad ∧ A1 = some ad' ∧ w.cell? (ad.add j) = some v ∧ w.cell? (ad'.add j) = some v' ∧ ∀ W, Below w.heap.size w W → Calls Try.prog g (#[v, v'] ++ lb) W fun e W' => e = .returned (.bool (p j)) ∧ Below W.heap.size W W'
set_option maxRecDepth 100000 in
theorem EqualFunc_rows (A0 : Option Addr) (n c0 : Nat) (A1 : Option Addr) (m c1 : Nat) (g : Nat) (lb : Array Value) (p : Nat → Bool) (w : World) (eg : Enters Try.prog g)
    (hn : n ≤ 9223372036854775807) (hm : m ≤ 9223372036854775807) (hp : n = m → TwoPred A0 A1 n g lb p w) :
    Calls Try.prog 88 #[.slice A0 n c0, .slice A1 m c1, .func (.func g) #[] lb] w fun e w' => e = .returned (.bool (n == m && (List.range n).all p)) ∧ Below w.heap.size w w' := by
  by_cases hnm : n = m
  · subst hnm
    have HP := Aside0.mk (hp rfl)
    have hne : ((n : Int) != (n : Int)) = false := by simp
    have HE := Aside0.mk (show (n == n && (List.range n).all p) = (List.range n).all p by simp)
    rw [HE.out]
    clear hp HE
    unfold Enters at eg
    go_enter Try.func88, Try.ntmps88
    go_wp2
    go_loopw [7, 8, 9, 17] (fun _ _ _ v wr => ∃ k : Nat, k ≤ n ∧ v = .int .i64 k ∧ Aside0 (∀ i, i < k → p i = true) ∧ Aside0 (Below w.heap.size w wr)) (fun _ _ _ v _ => n - (intOf v).toNat)
    case atStart => exact ⟨0, Nat.zero_le _, rfl, ⟨fun _ h => absurd h (Nat.not_lt_zero _)⟩, ⟨Below.refl _ _⟩⟩
    case round =>
      obtain ⟨k, hk, rfl, hno, HB⟩ := hrel
      by_cases hlt : k < n
      · obtain ⟨ad, v, ad', v', rfl, rfl, hx, hx', hcall⟩ := HP.out k hlt
        have hcall := hcall wr HB.out
        have hx := pw_cell_below HB.out hx
        have hx' := pw_cell_below HB.out hx'
        cases hq : p k
        · rw [hq] at hcall
          have HF := Aside0.mk (show (List.range n).all p = false by
            rw [Bool.eq_false_iff, ne_eq, List.all_eq_true]
            intro h
            have := h k (List.mem_range.2 hlt)
            rw [hq] at this
            cases this)
          go_wp2_with (go_at_fn g; refine hcall.mono ?_; rintro e w' ⟨rfl, hb'⟩; have HB' := Aside0.mk (below_then HB.out HB.out.size hb'); clear hb')
          go_ret
          exact ⟨by rw [HF.out]; rfl, HB'.out⟩
        · rw [hq] at hcall
          go_wp2_with (go_at_fn g; refine hcall.mono ?_; rintro e w' ⟨rfl, hb'⟩; have HB' := Aside0.mk (below_then HB.out HB.out.size hb'); clear hb')
          go_roundw
          case rel => exact ⟨k + 1, by omega, by go_num, ⟨fun i hi => by rcases Nat.lt_succ_iff_lt_or_eq.1 hi with h | rfl; exact hno.out i h; exact hq⟩, HB'⟩
          case measure => simp [intOf]; omega
      · obtain rfl : k = n := by omega
        have HF := Aside0.mk (show (List.range k).all p = true by
          rw [List.all_eq_true]
          intro i hi
          exact hno.out i (List.mem_range.1 hi))
        go_wp2
        go_ret
        exact ⟨by rw [HF.out]; rfl, HB.out⟩
  · have hne : ((n : Int) != (m : Int)) = true := by simp; omega
    have HE := Aside0.mk (show (n == m && (List.range n).all p) = false by simp [hnm])
    rw [HE.out]
    clear hp HE
    go_enter Try.func88, Try.ntmps88
    go_wp2
    go_ret
    exact ⟨rfl, Below.refl _ _⟩
set_option maxRecDepth 100000 in
theorem EqualFunc_rows3 (A0 : Option Addr) (n c0 : Nat) (A1 : Option Addr) (m c1 : Nat) (g : Nat) (lb : Array Value) (p : Nat → Bool) (w : World) (eg : Enters Try.prog g)
    (hn : n ≤ 9223372036854775807) (hm : m ≤ 9223372036854775807) (hp : n = m → TwoPred A0 A1 n g lb p w) :
    Calls Try.prog 86 #[.slice A0 n c0, .slice A1 m c1, .func (.func g) #[] lb] w fun e w' => e = .returned (.bool (n == m && (List.range n).all p)) ∧ Below w.heap.size w w' := by
  by_cases hnm : n = m
  · subst hnm
    have HP := Aside0.mk (hp rfl)
    have hne : ((n : Int) != (n : Int)) = false := by simp
    have HE := Aside0.mk (show (n == n && (List.range n).all p) = (List.range n).all p by simp)
    rw [HE.out]
    clear hp HE
    unfold Enters at eg
    go_enter Try.func86, Try.ntmps86
    go_wp2
    go_loopw [7, 8, 9, 17] (fun _ _ _ v wr => ∃ k : Nat, k ≤ n ∧ v = .int .i64 k ∧ Aside0 (∀ i, i < k → p i = true) ∧ Aside0 (Below w.heap.size w wr)) (fun _ _ _ v _ => n - (intOf v).toNat)
    case atStart => exact ⟨0, Nat.zero_le _, rfl, ⟨fun _ h => absurd h (Nat.not_lt_zero _)⟩, ⟨Below.refl _ _⟩⟩
    case round =>
      obtain ⟨k, hk, rfl, hno, HB⟩ := hrel
      by_cases hlt : k < n
      · obtain ⟨ad, v, ad', v', rfl, rfl, hx, hx', hcall⟩ := HP.out k hlt
        have hcall := hcall wr HB.out
        have hx := pw_cell_below HB.out hx
        have hx' := pw_cell_below HB.out hx'
        cases hq : p k
        · rw [hq] at hcall
          have HF := Aside0.mk (show (List.range n).all p = false by
            rw [Bool.eq_false_iff, ne_eq, List.all_eq_true]
            intro h
            have := h k (List.mem_range.2 hlt)
            rw [hq] at this
            cases this)
          go_wp2_with (go_at_fn g; refine hcall.mono ?_; rintro e w' ⟨rfl, hb'⟩; have HB' := Aside0.mk (below_then HB.out HB.out.size hb'); clear hb')
          go_ret
          exact ⟨by rw [HF.out]; rfl, HB'.out⟩
        · rw [hq] at hcall
          go_wp2_with (go_at_fn g; refine hcall.mono ?_; rintro e w' ⟨rfl, hb'⟩; have HB' := Aside0.mk (below_then HB.out HB.out.size hb'); clear hb')
          go_roundw
          case rel => exact ⟨k + 1, by omega, by go_num, ⟨fun i hi => by rcases Nat.lt_succ_iff_lt_or_eq.1 hi with h | rfl; exact hno.out i h; exact hq⟩, HB'⟩
          case measure => simp [intOf]; omega
      · obtain rfl : k = n := by omega
        have HF := Aside0.mk (show (List.range k).all p = true by
          rw [List.all_eq_true]
          intro i hi
          exact hno.out i (List.mem_range.1 hi))
        go_wp2
        go_ret
        exact ⟨by rw [HF.out]; rfl, HB.out⟩
  · have hne : ((n : Int) != (m : Int)) = true := by simp; omega
    have HE := Aside0.mk (show (n == m && (List.range n).all p) = false by simp [hnm])
    rw [HE.out]
    clear hp HE
    go_enter Try.func86, Try.ntmps86
    go_wp2
    go_ret
    exact ⟨rfl, Below.refl _ _⟩
/-- A row of rows of rows, one by one. -/
theorem rows3_get2 {w : World} {A : Option Addr} {n : Nat} {xs : List (List (List Int))} (h : Kd.C (Kd.slice 39 (Kd.slice 21 (Kd.int .i32))) w A n xs) (j : Nat) (hj : j < n) :
    ∃ ad A' c, A = some ad ∧ w.cell? (ad.add j) = some (.slice A' (xs.getD j []).length c) ∧ (xs.getD j []).length ≤ c ∧ Kd.C (Kd.slice 21 (Kd.int .i32)) w A' (xs.getD j []).length (xs.getD j []) := by
  obtain ⟨ad, v, e, hc, hk⟩ := C_get1 h rfl j hj []
  obtain ⟨A', c, hv, hl, hC⟩ := hk.out
  cases hv
  exact ⟨ad, A', c, e, hc, hl, hC⟩
theorem Same1_c (A0 : Option Addr) (c0 : Nat) (a : List (List Int)) (A1 : Option Addr) (c1 : Nat) (b : List (List Int)) (w : World) (hr0 : Kd.C (Kd.slice 21 (Kd.int .i32)) w A0 a.length a) (hr1 : Kd.C (Kd.slice 21 (Kd.int .i32)) w A1 b.length b) :
    Calls Try.prog 87 #[.slice A0 a.length c0, .slice A1 b.length c1] w fun e w' => e = .returned (.bool (decide (a = b))) ∧ Below w.heap.size w w' := by
  have HE := EqualFunc_rows A0 a.length c0 A1 b.length c1 89 #[] (fun j => decide (a.getD j [] = b.getD j [])) w (enters_of Try.func89 (by kernel_rfl) rfl) (C_max hr0) (C_max hr1) (fun hnm j hj => by
    obtain ⟨ad, A', c, e, hx, _, hC⟩ := rows_get hr0 j hj
    obtain ⟨ad', A'', c', e', hx', _, hC'⟩ := rows_get hr1 j (hnm ▸ hj)
    exact ⟨ad, _, ad', _, e, e', hx, hx', fun W hW => Equal_c A' c _ A'' c' _ W (Kd.C_below hC hW) (Kd.C_below hC' hW)⟩)
  rw [all_eq] at HE
  have HC := Aside0.mk HE
  clear HE hr0 hr1
  generalize decide (a = b) = q at *
  go_enter Try.func87, Try.ntmps87
  go_wp2_with (go_at_call 88; ((with_reducible refine HC.out.mono ?_); rintro e w' ⟨rfl, hb'⟩; have HB' := Aside0.mk hb'; clear hb'))
  go_ret
  exact ⟨rfl, HB'.out⟩
theorem Same_c (A0 : Option Addr) (c0 : Nat) (a : List (List (List Int))) (A1 : Option Addr) (c1 : Nat) (b : List (List (List Int))) (w : World) (hr0 : Kd.C (Kd.slice 39 (Kd.slice 21 (Kd.int .i32))) w A0 a.length a) (hr1 : Kd.C (Kd.slice 39 (Kd.slice 21 (Kd.int .i32))) w A1 b.length b) :
    Calls Try.prog 41 #[.agg #[.slice A0 a.length c0], .agg #[.slice A1 b.length c1]] w fun e w' => e = .returned (.bool (decide (a = b))) ∧ Below w.heap.size w w' := by
  have HC := Aside0.mk (fun W (hW : Below w.heap.size w W) => show Calls Try.prog 86 #[.slice A0 a.length c0, .slice A1 b.length c1, .func (.func 87) #[] #[]] W fun e w' => e = .returned (.bool (decide (a = b))) ∧ Below W.heap.size W w' from by
    have HE := EqualFunc_rows3 A0 a.length c0 A1 b.length c1 87 #[] (fun j => decide (a.getD j [] = b.getD j [])) W (enters_of Try.func87 (by kernel_rfl) rfl) (C_max hr0) (C_max hr1) (fun hnm j hj => by
      obtain ⟨ad, A', c, e, hx, _, hC⟩ := rows3_get2 (Kd.C_below hr0 hW) j hj
      obtain ⟨ad', A'', c', e', hx', _, hC'⟩ := rows3_get2 (Kd.C_below hr1 hW) j (hnm ▸ hj)
      exact ⟨ad, _, ad', _, e, e', hx, hx', fun W hW => Same1_c A' c _ A'' c' _ W (Kd.C_below hC hW) (Kd.C_below hC' hW)⟩)
    rw [all_eq] at HE
    exact HE)
  have HB0 := Aside0.mk (((Below.refl w.heap.size w).alloc (Nat.le_refl _) (.cells #[.slice A0 a.length c0] 53)).alloc (by simp) (.cells #[.slice A1 b.length c1] 53))
  clear hr0 hr1
  generalize decide (a = b) = q at *
  go_enter Try.func41, Try.ntmps41
  go_wp2_with (go_at_call 86; ((with_reducible refine (HC.out _ HB0.out).mono ?_); rintro e w' ⟨rfl, hb'⟩; have HB' := Aside0.mk (below_then HB0.out HB0.out.size hb'); clear hb'))
  go_ret
  exact ⟨rfl, HB'.out⟩
end Go.Proofs.Yteickelddnhdiaa.G
namespace Go.Proofs.Yteickelddnhdiaa.Bk
open Go.RowKit Go.Proofs.YteickelddnhdiaaW.PrintWords Go.Proofs.Yteickelddnhdiaa.G
set_option linter.unusedVariables false
def book_Same.f (a b : List (List (List Int))) : Option Bool := some (decide (a = b))
theorem book_Same.calls (A0_0 : Option Addr) (c0_0 : Nat) (l0_0 : List (List (List Int))) (A1_0 : Option Addr) (c1_0 : Nat) (l1_0 : List (List (List Int))) (r : Bool) (w : World) (hr0_0 : Kd.C (Kd.slice 39 (Kd.slice 21 (Kd.int .i32))) w A0_0 l0_0.length l0_0) (hc0_0 : l0_0.length ≤ c0_0) (hr1_0 : Kd.C (Kd.slice 39 (Kd.slice 21 (Kd.int .i32))) w A1_0 l1_0.length l1_0) (hc1_0 : l1_0.length ≤ c1_0) (h : book_Same.f l0_0 l1_0 = some r) :
    Calls Try.prog 41 #[.agg #[.slice A0_0 l0_0.length c0_0], .agg #[.slice A1_0 l1_0.length c1_0]] w fun e w' => e = .returned (.bool r) ∧ Below w.heap.size w w' := by
  cases h
  exact Same_c A0_0 c0_0 l0_0 A1_0 c1_0 l1_0 w hr0_0 hr1_0
end Go.Proofs.Yteickelddnhdiaa.Bk
