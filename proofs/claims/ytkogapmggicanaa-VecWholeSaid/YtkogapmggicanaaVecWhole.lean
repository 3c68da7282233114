/- Row VecWhole: its walk. -/
import Derived.Test.YtkogapmggicanaaWhole2
import Derived.Test.YtkogapmggicanaaVecMoves
namespace Go.Proofs.Ytkogapmggicanaa.G
open Go.RowKit Go.Shelf Go.Proofs.YtkogapmggicanaaW.PrintWords Ieee
set_option linter.unusedVariables false
set_option linter.unusedSimpArgs false

theorem fixed_from {x f v e : Int} (h : FixOk x.toNat f.toNat ∧ fixV x f = v ∧ fixE x f = e) (W : World) :
    Calls Try.prog 16 #[.int .u64 x, .int .i64 f] W fun e' w' => e' = .returned (.tuple #[.int .i16 v, .int .i64 e]) ∧ Below W.heap.size W w' := by
  have hc := Fixed_calls x f W (fun _ _ _ => h.1)
  rwa [h.2.1, h.2.2] at hc
theorem double_zero (power : Int) (w : World) : Calls Try.prog 19 #[.int .i16 0, .int .i64 power] w fun e w' => e = .returned (.int .u64 0) ∧ w = w' := by
  go_enter Try.func19, Try.ntmps19
  go_wp2
  go_ret
  exact ⟨rfl, rfl⟩

set_option maxHeartbeats 2000000 in
set_option maxRecDepth 100000 in
theorem VecWhole_calls (n frac low : Int) (w : World) (hw0 : (Lit.int .i16 n).wf = true) (hw1 : (Lit.int .i64 frac).wf = true) (hw2 : (Lit.int .u32 low).wf = true) :
    Calls Try.prog 4 #[.int .i16 n, .int .i64 frac, .int .u32 low] w fun e w' => e = .returned (.bool true) ∧ Below w.heap.size w w' := by
  have hn : -32768 ≤ n ∧ n ≤ 32767 := by
    have e1 : IntKind.i16.min = -32768 := by decide
    have e2 : IntKind.i16.max = 32767 := by decide
    simp [Lit.wf, e1, e2] at hw0
    omega
  have hl : 0 ≤ low ∧ low < 4294967296 := by
    have e1 : IntKind.u32.min = 0 := by decide
    have e2 : IntKind.u32.max = 4294967295 := by decide
    simp [Lit.wf, e1, e2] at hw2
    omega
  have HPk := Aside0.mk (fun W => Pick_calls frac 16 W (by omega) (by omega))
  have hf0 : 0 ≤ frac % 16 := by omega
  have hf1 : frac % 16 ≤ 15 := by omega
  generalize frac % 16 = f at *
  clear hw0 hw1 hw2
  have w1 : IntKind.u64.wrap low = low := by rw [IntKind.wrap_u64]; omega
  by_cases hz : n = 0
  · subst hz
    obtain ⟨L, rfl⟩ : ∃ L : Nat, low = (L : Int) := ⟨low.toNat, by omega⟩
    have F0 := Aside0.mk (fun W => fixed_from (x := 0) (fixed_zero 0 0 f (by omega) (by omega) hf0 hf1) W)
    have z1 := fixed_zero 0 L f (by omega) (by omega) hf0 hf1
    rw [show dblOf 0 0 L = (L : Int) by unfold dblOf; omega] at z1
    have F1 := Aside0.mk (fun W => fixed_from z1 W)
    have w2 := or_top L (by omega)
    obtain ⟨D, hD⟩ : ∃ D, dblOf 1 0 L = D := ⟨_, rfl⟩
    have z2 := fixed_zero 1 L f (by omega) (by omega) hf0 hf1
    rw [hD] at z2 w2
    have F2 := Aside0.mk (fun W => fixed_from z2 W)
    have HZ := Aside0.mk (fun W => double_zero (-f) W)
    clear hD z1 z2 hn
    go_enter Try.func4, Try.ntmps4
    go_wp2_with fail
    refine (lives03_calls _).mono ?_
    rintro e w1 ⟨rfl, hb⟩
    have HB1 := Aside0.mk hb
    clear hb
    go_wp2_with fail
    refine (HPk.out _).mono ?_
    rintro e w' ⟨rfl, rfl⟩
    go_wp2_with fail
    refine (HZ.out _).mono ?_
    rintro e w' ⟨rfl, rfl⟩
    go_wp2_with fail
    refine (F0.out _).mono ?_
    rintro e w2 ⟨rfl, hb⟩
    have HB2 := Aside0.mk (bcomp HB1.out hb)
    clear hb
    go_wp2_with fail
    refine (F1.out _).mono ?_
    rintro e w3 ⟨rfl, hb⟩
    have HB3 := Aside0.mk (bcomp HB2.out hb)
    clear hb
    go_wp2_with fail
    refine (F2.out _).mono ?_
    rintro e w4 ⟨rfl, hb⟩
    have HB4 := Aside0.mk (bcomp HB3.out hb)
    clear hb
    go_wp2_with fail
    go_ret
    exact ⟨rfl, HB4.out⟩
  · have HD := Aside0.mk (fun W => double_calls n (-f) W hn.1 hn.2 hz (by omega) (by omega))
    have HLaw := Aside0.mk (fun j E T => whole_law n f low j E T hn.1 hn.2 hz hf0 hf1 hl.1 hl.2)
    have hz1 : (n == 0) = false := by simpa using hz
    have hnn : (n != n) = false := by simp
    have hne : (n == n) = true := by simp
    go_enter Try.func4, Try.ntmps4
    go_wp2_with fail
    refine (lives03_calls _).mono ?_
    rintro e w1 ⟨rfl, hb⟩
    have HB1 := Aside0.mk hb
    clear hb
    go_wp2_with fail
    refine (HPk.out _).mono ?_
    rintro e w' ⟨rfl, rfl⟩
    go_wp2_with fail
    refine (HD.out _).mono ?_
    rintro e w' ⟨⟨j, E, T, q1, q2, q3, q4, q5, rfl⟩, rfl⟩
    obtain ⟨L1, ⟨D2, x2, L2⟩, ⟨D3, V3, E3, x3, y1, y2, y3, y4⟩⟩ := HLaw.out j E T q1 q2 q3 q4 q5
    generalize dblOf (if n < 0 then 1 else 0) E T = D at *
    have F1 := Aside0.mk (fun W => fixed_from L1 W)
    have F2 := Aside0.mk (fun W => fixed_from L2 W)
    have F3 := Aside0.mk (fun W => fixed_from ⟨y1, y2, y3⟩ W)
    clear L1 L2 y1 y2 y3 q1 q2 q3 q4 q5 HLaw HD
    go_wp2_with fail
    refine (F1.out _).mono ?_
    rintro e w2 ⟨rfl, hb⟩
    have HB2 := Aside0.mk (bcomp HB1.out hb)
    clear hb
    go_wp2_with fail
    refine (F2.out _).mono ?_
    rintro e w3 ⟨rfl, hb⟩
    have HB3 := Aside0.mk (bcomp HB2.out hb)
    clear hb
    go_wp2_with fail
    refine (F3.out _).mono ?_
    rintro e w4 ⟨rfl, hb⟩
    have HB4 := Aside0.mk (bcomp HB3.out hb)
    clear hb
    rcases y4 with ⟨rfl, rfl⟩ | ⟨g1, rfl, rfl⟩
    · go_wp2_with fail
      go_ret
      exact ⟨rfl, HB4.out⟩
    · have g2 : (n == -32768) = false := by simpa using g1
      obtain ⟨hn1, hn2⟩ := hn
      have gg : (-n == -n) = true := by simp
      go_wp2_with fail
      go_ret
      exact ⟨rfl, HB4.out⟩

end Go.Proofs.Ytkogapmggicanaa.G
