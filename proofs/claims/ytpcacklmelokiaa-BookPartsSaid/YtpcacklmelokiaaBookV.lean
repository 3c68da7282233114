/- The walk of BookParts: the ways that answer early (UNDER WAY: the main way is not here yet). -/
import Derived.Test.YtpcacklmelokiaaBookU
import Derived.Test.YtpcacklmelokiaaBkx6
import Derived.Test.YtpcacklmelokiaaBookL
namespace Go.Proofs.Ytpcacklmelokiaa.G
open Go.RowKit Go.Proofs.Ytpcacklmelokiaa.Bk Go.Proofs.YtpcacklmelokiaaW.PrintWords
set_option linter.unusedVariables false
set_option linter.unusedSimpArgs false
set_option maxRecDepth 100000
set_option maxHeartbeats 4000000
/-- What came in. -/
structure BPIn (A0 : Option Addr) (c0 : Nat) (b : List (List (List Int))) (A1 : Option Addr) (c1 : Nat) (v : List Int) (A2 : Option Addr) (c2 : Nat) (w : List Int) (W : World) : Prop where
  r0 : Kd.C (Kd.slice 25 (Kd.slice 21 (Kd.int .i32))) W A0 b.length b
  c0 : b.length ≤ c0
  r1 : Kd.C (Kd.int .i32) W A1 v.length v
  c1 : v.length ≤ c1
  r2 : Kd.C (Kd.int .i32) W A2 w.length w
  c2 : w.length ≤ c2
theorem parts_early (A0 : Option Addr) (c0 : Nat) (b : List (List (List Int))) (A1 : Option Addr) (c1 : Nat) (v : List Int) (A2 : Option Addr) (c2 : Nat) (w : List Int) (part : Int) (W : World) (h : BPIn A0 c0 b A1 c1 v A2 c2 w W) (he : bookE b ≠ 0 ∨ v.length > 1100 ∨ w.length > 1100) :
    Calls Try.prog 10 #[.agg #[.slice A0 b.length c0], .slice A1 v.length c1, .slice A2 w.length c2, .int .i64 part] W fun e W' => e = .returned (.bool true) ∧ Below W.heap.size W W' := by
  have m1 := C_max h.r1
  have m2 := C_max h.r2
  have HB0 := Aside0.mk ((Below.refl W.heap.size W).alloc (Nat.le_refl _) (.cells #[.slice A0 b.length c0] 50))
  have hc0 : (W.alloc (.cells #[.slice A0 b.length c0] 50)).cell? ⟨W.heap.size, 0, none⟩ = some (.slice A0 b.length c0) := by simp
  obtain ⟨r, hr⟩ := light_ev b
  obtain ⟨k, hk⟩ := Ev.rounds hr
  have HLv := Aside0.mk (fun X => wayfinderlaw15_lives.calls true X rfl)
  have HLt := Aside0.mk (fun X (hX : Below W.heap.size W X) => wayfinderlaw15_light.calls k A0 c0 b r X (Kd.C_below h.r0 hX) h.c0 hk)
  have HCk := Aside0.mk (fun X (hX : Below W.heap.size W X) => book_Check.calls A0 c0 b (bookE b) X (Kd.C_below h.r0 hX) h.c0 rfl)
  clear h hr hk
  cases r with
  | false =>
    clear HCk he
    go_enter Try.func10, Try.ntmps10
    go_wp2_with (first
      | (go_at_call 32; ((with_reducible refine (HLv.out _).mono ?_); rintro e w1 ⟨rfl, hb⟩; have HB1 := Aside0.mk (below_then HB0.out HB0.out.size hb); have hc1' := pw_cell_below hb hc0; clear hb))
      | (go_at_call 33; ((with_reducible refine (HLt.out _ HB1.out).mono ?_); rintro e w2 ⟨rfl, hb⟩; have HB2 := Aside0.mk (below_then HB1.out HB1.out.size hb); clear hb)))
    go_ret
    exact ⟨rfl, HB2.out⟩
  | true =>
    by_cases h1 : v.length > 1100
    · have hd1 : decide ((v.length : Int) > 1100) = true := decide_eq_true (by omega)
      clear HCk he
      go_enter Try.func10, Try.ntmps10
      go_wp2_with (first
        | (go_at_call 32; ((with_reducible refine (HLv.out _).mono ?_); rintro e w1 ⟨rfl, hb⟩; have HB1 := Aside0.mk (below_then HB0.out HB0.out.size hb); have hc1' := pw_cell_below hb hc0; clear hb))
        | (go_at_call 33; ((with_reducible refine (HLt.out _ HB1.out).mono ?_); rintro e w2 ⟨rfl, hb⟩; have HB2 := Aside0.mk (below_then HB1.out HB1.out.size hb); clear hb)))
      go_ret
      exact ⟨rfl, HB2.out⟩
    have hd1 : decide ((v.length : Int) > 1100) = false := decide_eq_false (by omega)
    by_cases h2 : w.length > 1100
    · have hd2 : decide ((w.length : Int) > 1100) = true := decide_eq_true (by omega)
      clear HCk he
      go_enter Try.func10, Try.ntmps10
      go_wp2_with (first
        | (go_at_call 32; ((with_reducible refine (HLv.out _).mono ?_); rintro e w1 ⟨rfl, hb⟩; have HB1 := Aside0.mk (below_then HB0.out HB0.out.size hb); have hc1' := pw_cell_below hb hc0; clear hb))
        | (go_at_call 33; ((with_reducible refine (HLt.out _ HB1.out).mono ?_); rintro e w2 ⟨rfl, hb⟩; have HB2 := Aside0.mk (below_then HB1.out HB1.out.size hb); clear hb)))
      go_ret
      exact ⟨rfl, HB2.out⟩
    have hd2 : decide ((w.length : Int) > 1100) = false := decide_eq_false (by omega)
    have h0 : bookE b ≠ 0 := by omega
    have hd3 : (bookE b != 0) = true := by simpa using h0
    clear he h1 h2 h0
    generalize bookE b = q at *
    go_enter Try.func10, Try.ntmps10
    go_wp2_with (first
      | (go_at_call 32; ((with_reducible refine (HLv.out _).mono ?_); rintro e w1 ⟨rfl, hb⟩; have HB1 := Aside0.mk (below_then HB0.out HB0.out.size hb); have hc1' := pw_cell_below hb hc0; clear hb))
      | (go_at_call 33; ((with_reducible refine (HLt.out _ HB1.out).mono ?_); rintro e w2 ⟨rfl, hb⟩; have HB2 := Aside0.mk (below_then HB1.out HB1.out.size hb); have hc2' := pw_cell_below hb hc1'; clear hb))
      | (go_at_call 34; ((with_reducible refine (HCk.out _ HB2.out).mono ?_); rintro e w3 ⟨rfl, hb⟩; have HB3 := Aside0.mk (below_then HB2.out HB2.out.size hb); clear hb)))
    go_ret
    exact ⟨rfl, HB3.out⟩
/-- One of the two has no code. -/
theorem parts_bad (A0 : Option Addr) (c0 : Nat) (b : List (List (List Int))) (A1 : Option Addr) (c1 : Nat) (v : List Int) (A2 : Option Addr) (c2 : Nat) (w : List Int) (part : Int) (W : World) (h : BPIn A0 c0 b A1 c1 v A2 c2 w W) (h0 : bookE b = 0) (h1 : v.length ≤ 1100) (h2 : w.length ≤ 1100)
    (X Y : List Int) (e1 e2 : Int) (hE1 : Ev (fun k => book_Encode.f k b v) (X, e1)) (hE2 : Ev (fun k => book_Encode.f k b w) (Y, e2)) (hbad : (e1 ≠ 0 ∧ X = []) ∨ (e1 = 0 ∧ X.length = b.length ∧ e2 ≠ 0 ∧ Y = [])) (hb1 : 1 ≤ b.length) (hbm : b.length ≤ 1024) :
    Calls Try.prog 10 #[.agg #[.slice A0 b.length c0], .slice A1 v.length c1, .slice A2 w.length c2, .int .i64 part] W fun e W' => e = .returned (.bool true) ∧ Below W.heap.size W W' := by
  have m1 := C_max h.r1
  have m2 := C_max h.r2
  have HB0 := Aside0.mk ((Below.refl W.heap.size W).alloc (Nat.le_refl _) (.cells #[.slice A0 b.length c0] 50))
  have hc0 : (W.alloc (.cells #[.slice A0 b.length c0] 50)).cell? ⟨W.heap.size, 0, none⟩ = some (.slice A0 b.length c0) := by simp
  obtain ⟨r, hr⟩ := light_ev b
  cases r with
  | false =>
    obtain ⟨k, hk⟩ := Ev.rounds hr
    have HLv := Aside0.mk (fun X => wayfinderlaw15_lives.calls true X rfl)
    have HLt := Aside0.mk (fun X (hX : Below W.heap.size W X) => wayfinderlaw15_light.calls k A0 c0 b false X (Kd.C_below h.r0 hX) h.c0 hk)
    clear h hr hk hE1 hE2 hbad
    go_enter Try.func10, Try.ntmps10
    go_wp2_with (first | (go_at_call 32; ((with_reducible refine (HLv.out _).mono ?_); rintro e w1 ⟨rfl, hb⟩; have HB1 := Aside0.mk (below_then HB0.out HB0.out.size hb); have hc1' := pw_cell_below hb hc0; clear hb)) | (go_at_call 33; ((with_reducible refine (HLt.out _ HB1.out).mono ?_); rintro e w2 ⟨rfl, hb⟩; have HB2 := Aside0.mk (below_then HB1.out HB1.out.size hb); have hc2' := pw_cell_below hb hc1'; clear hb)))
    go_ret
    exact ⟨rfl, HB2.out⟩
  | true =>
  obtain ⟨k, hk⟩ := Ev.rounds hr
  obtain ⟨k1, hk1⟩ := Ev.rounds hE1
  obtain ⟨k2, hk2⟩ := Ev.rounds hE2
  have HLv := Aside0.mk (fun X => wayfinderlaw15_lives.calls true X rfl)
  have HLt := Aside0.mk (fun X (hX : Below W.heap.size W X) => wayfinderlaw15_light.calls k A0 c0 b true X (Kd.C_below h.r0 hX) h.c0 hk)
  have HCk := Aside0.mk (fun X (hX : Below W.heap.size W X) => book_Check.calls A0 c0 b 0 X (Kd.C_below h.r0 hX) h.c0 (by show some (bookE b) = _; rw [h0]))
  have HE1 := Aside0.mk (fun Z (hZ : Below W.heap.size W Z) => book_Encode.calls k1 A0 c0 b A1 c1 v X e1 Z (Kd.C_below h.r0 hZ) h.c0 (Kd.C_below h.r1 hZ) h.c1 hk1)
  have HE2 := Aside0.mk (fun Z (hZ : Below W.heap.size W Z) => book_Encode.calls k2 A0 c0 b A2 c2 w Y e2 Z (Kd.C_below h.r0 hZ) h.c0 (Kd.C_below h.r2 hZ) h.c2 hk2)
  have hd1 : decide ((v.length : Int) > 1100) = false := decide_eq_false (by omega)
  have hd2 : decide ((w.length : Int) > 1100) = false := decide_eq_false (by omega)
  clear h hr hk hE1 hE2 hk1 hk2 h0
  rcases hbad with ⟨g1, rfl⟩ | ⟨rfl, g2, g3, rfl⟩
  · have hd3 : (e1 != 0) = true := by simpa using g1
    clear g1
    go_enter Try.func10, Try.ntmps10
    go_wp2_with (first | (go_at_call 32; ((with_reducible refine (HLv.out _).mono ?_); rintro e w1 ⟨rfl, hb⟩; have HB1 := Aside0.mk (below_then HB0.out HB0.out.size hb); have hc1' := pw_cell_below hb hc0; clear hb)) | (go_at_call 33; ((with_reducible refine (HLt.out _ HB1.out).mono ?_); rintro e w2 ⟨rfl, hb⟩; have HB2 := Aside0.mk (below_then HB1.out HB1.out.size hb); have hc2' := pw_cell_below hb hc1'; clear hb)) | (go_at_call 34; ((with_reducible refine (HCk.out _ HB2.out).mono ?_); rintro e w3 ⟨rfl, hb⟩; have HB3 := Aside0.mk (below_then HB2.out HB2.out.size hb); have hc3' := pw_cell_below hb hc2'; clear hb)) | (go_at_call 35; ((with_reducible refine (HE1.out _ HB3.out).mono ?_); rintro e w4 ⟨x1, rfl, ho, hb⟩; obtain ⟨Ax, cx, rfl⟩ := Kd.R_slice ho; have HX := Aside0.mk ho; have HB4 := Aside0.mk (below_then HB3.out HB3.out.size hb); have hc4' := pw_cell_below hb hc3'; clear hb ho)) | (go_at_call 35; ((with_reducible refine (HE2.out _ HB4.out).mono ?_); rintro e w5 ⟨x2, rfl, ho, hb⟩; obtain ⟨Ay, cy, rfl⟩ := Kd.R_slice ho; have HY := Aside0.mk ho; have HB5 := Aside0.mk (below_then HB4.out HB4.out.size hb); have hc5' := pw_cell_below hb hc4'; clear hb ho)))
    go_ret
    exact ⟨rfl, HB5.out⟩
  · have hd3 : (e2 != 0) = true := by simpa using g3
    have hd4 : ((X.length : Int) != (b.length : Int)) = false := by simp [g2]
    clear g3
    go_enter Try.func10, Try.ntmps10
    go_wp2_with (first | (go_at_call 32; ((with_reducible refine (HLv.out _).mono ?_); rintro e w1 ⟨rfl, hb⟩; have HB1 := Aside0.mk (below_then HB0.out HB0.out.size hb); have hc1' := pw_cell_below hb hc0; clear hb)) | (go_at_call 33; ((with_reducible refine (HLt.out _ HB1.out).mono ?_); rintro e w2 ⟨rfl, hb⟩; have HB2 := Aside0.mk (below_then HB1.out HB1.out.size hb); have hc2' := pw_cell_below hb hc1'; clear hb)) | (go_at_call 34; ((with_reducible refine (HCk.out _ HB2.out).mono ?_); rintro e w3 ⟨rfl, hb⟩; have HB3 := Aside0.mk (below_then HB2.out HB2.out.size hb); have hc3' := pw_cell_below hb hc2'; clear hb)) | (go_at_call 35; ((with_reducible refine (HE1.out _ HB3.out).mono ?_); rintro e w4 ⟨x1, rfl, ho, hb⟩; obtain ⟨Ax, cx, rfl⟩ := Kd.R_slice ho; have HX := Aside0.mk ho; have HB4 := Aside0.mk (below_then HB3.out HB3.out.size hb); have hc4' := pw_cell_below hb hc3'; clear hb ho)) | (go_at_call 35; ((with_reducible refine (HE2.out _ HB4.out).mono ?_); rintro e w5 ⟨x2, rfl, ho, hb⟩; obtain ⟨Ay, cy, rfl⟩ := Kd.R_slice ho; have HY := Aside0.mk ho; have HB5 := Aside0.mk (below_then HB4.out HB4.out.size hb); have hc5' := pw_cell_below hb hc4'; clear hb ho)))
    go_ret
    exact ⟨rfl, HB5.out⟩
end Go.Proofs.Ytpcacklmelokiaa.G
