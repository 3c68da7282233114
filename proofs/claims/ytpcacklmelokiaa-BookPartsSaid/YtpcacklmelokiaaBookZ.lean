/- The walk of BookParts with its plain law: every way. -/
import Derived.Test.YtpcacklmelokiaaBookY
import Derived.Test.YtpcacklmelokiaaBookS
namespace Go.Proofs.Ytpcacklmelokiaa.G
open Go.RowKit Go.Proofs.Ytpcacklmelokiaa.Bk Go.Proofs.YtpcacklmelokiaaW.PrintWords
set_option linter.unusedVariables false
theorem BookParts_c (A0 : Option Addr) (c0 : Nat) (b : List (List (List Int))) (A1 : Option Addr) (c1 : Nat) (v : List Int) (A2 : Option Addr) (c2 : Nat) (w : List Int) (part : Int) (W : World)
    (hr0 : Kd.C (Kd.slice 25 (Kd.slice 21 (Kd.int .i32))) W A0 b.length b) (hr1 : Kd.C (Kd.int .i32) W A1 v.length v) (hr2 : Kd.C (Kd.int .i32) W A2 w.length w)
    (q0 : b.length ≤ c0) (q1 : v.length ≤ c1 ∧ c1 ≤ 9223372036854775807) (q2 : w.length ≤ c2 ∧ c2 ≤ 9223372036854775807) :
    Calls Try.prog 10 #[.agg #[.slice A0 b.length c0], .slice A1 v.length c1, .slice A2 w.length c2, .int .i64 part] W fun e W' => e = .returned (.bool true) ∧ Below W.heap.size W W' := by
  have h : BPIn A0 c0 b A1 c1 v A2 c2 w W := ⟨hr0, q0, hr1, q1.1, hr2, q2.1⟩
  by_cases he : bookE b ≠ 0 ∨ v.length > 1100 ∨ w.length > 1100
  · exact parts_early A0 c0 b A1 c1 v A2 c2 w part W h he
  have h0 : bookE b = 0 := by omega
  have h1 : v.length ≤ 1100 := by omega
  have h2 : w.length ≤ 1100 := by omega
  obtain ⟨n, m, hb⟩ := bookE_ok h0
  have hb1 := hb.p1
  have hb2 := Nat.le_trans (Nat.le_mul_of_pos_left b.length hb.m1) hb.most
  by_cases hv : checkWide v = 0 ∧ v.length = m * b.length
  · by_cases hw : checkWide w = 0 ∧ w.length = m * b.length
    · exact parts_main A0 c0 b A1 c1 v A2 c2 w part W h h0 h1 h2 n m hb hv.1 hw.1 hv.2 hw.2
    · obtain ⟨e2, g2, hE2⟩ := Encode_bad hb h0 hw
      exact parts_bad A0 c0 b A1 c1 v A2 c2 w part W h h0 h1 h2 _ _ _ _ (Encode_is hb h0 hv.1 hv.2) hE2 (.inr ⟨rfl, by simp, g2, rfl⟩) hb1 hb2
  · obtain ⟨e1, g1, hE1⟩ := Encode_bad hb h0 hv
    by_cases hw : checkWide w = 0 ∧ w.length = m * b.length
    · exact parts_bad A0 c0 b A1 c1 v A2 c2 w part W h h0 h1 h2 _ _ _ _ hE1 (Encode_is hb h0 hw.1 hw.2) (.inl ⟨g1, rfl⟩) hb1 hb2
    · obtain ⟨e2, _, hE2⟩ := Encode_bad hb h0 hw
      exact parts_bad A0 c0 b A1 c1 v A2 c2 w part W h h0 h1 h2 _ _ _ _ hE1 hE2 (.inl ⟨g1, rfl⟩) hb1 hb2
end Go.Proofs.Ytpcacklmelokiaa.G
