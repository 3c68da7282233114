/- Row VecMetric: its walk. -/
import Derived.Test.YtkogapmggicanaaMetric
import Derived.Test.YtkogapmggicanaaVecL
import Derived.Test.YtkogapmggicanaaSame
namespace Go.Proofs.Ytkogapmggicanaa.G
open Go.RowKit Go.Shelf Go.Proofs.YtkogapmggicanaaW.PrintWords
set_option linter.unusedVariables false
set_option linter.unusedSimpArgs false

theorem pairE_sym {a b : List Int} (h : pairE a b = 0) : pairE b a = 0 := by
  obtain ⟨h0, h1, hl⟩ := pairE_ok h
  simp [pairE, h0, h1, hl]
theorem distV_no {a b : List Int} (h : pairE a b ≠ 0) : distV a b = 0 := by simp [distV, h]
theorem distV_ok {a b : List Int} (h : pairE a b = 0) : distV a b = distTo a b a.length := by simp [distV, h]
theorem same_dist {a b : List Int} (h : pairE a b = 0) : (distV a b == 0) = sameL a b := by
  obtain ⟨h0, h1, hl⟩ := pairE_ok h
  rw [distV_ok h]
  by_cases he : distTo a b a.length = 0
  · rw [he, sameL_yes hl ((distTo_zero a b a.length).1 he)]
    rfl
  · have : sameL a b = false := by
      unfold sameL
      refine decide_eq_false (fun e => he ?_)
      subst e
      exact (distTo_zero a a a.length).2 (fun _ _ => rfl)
    rw [this]
    simpa using he
theorem dist_nat {a b : List Int} (h : pairE a b = 0) : ∃ n : Nat, distV a b = (n : Int) ∧ n < 140737488355328 := by
  obtain ⟨h0, h1, hl⟩ := pairE_ok h
  obtain ⟨_, hn, hwa⟩ := wide_of h0
  obtain ⟨_, _, hwb⟩ := wide_of h1
  have := distTo_bound (n := a.length) hwa (fun j hj => hwb j (by omega)) a.length (Nat.le_refl _)
  rw [distV_ok h]
  exact ⟨(distTo a b a.length).toNat, by omega, by omega⟩

theorem wrap_small {n : Nat} (h : n < 140737488355328) : IntKind.u64.wrap (n : Int) = (n : Int) := by
  rw [IntKind.wrap_u64]
  omega
theorem sum_le {nx ny X Y F : Nat} (h : F ≤ X + Y) (hx : IsCeil nx X) (hy : IsCeil ny Y) : decide ((F : Int) ≤ IntKind.u64.wrap ((X : Int) + (Y : Int))) = true := by
  have := hx.2.2
  have := hy.2.2
  rw [IntKind.wrap_u64]
  refine decide_eq_true ?_
  omega
theorem big_no {n : Nat} (h : n < 140737488355328) : decide ((n : Int) ≥ 140737488355328) = false := by
  refine decide_eq_false ?_
  omega

set_option maxRecDepth 100000 in
set_option maxHeartbeats 2000000 in
theorem VecMetric_calls (A0 : Option Addr) (c0 : Nat) (l0 : List Int) (A1 : Option Addr) (c1 : Nat) (l1 : List Int) (A2 : Option Addr) (c2 : Nat) (l2 : List Int) (w : World)
    (hr0 : Kd.C (Kd.int .i32) w A0 l0.length l0) (hr1 : Kd.C (Kd.int .i32) w A1 l1.length l1) (hr2 : Kd.C (Kd.int .i32) w A2 l2.length l2) :
    Calls Try.prog 5 #[.slice A0 l0.length c0, .slice A1 l1.length c1, .slice A2 l2.length c2] w fun e w' => e = .returned (.bool true) ∧ Below w.heap.size w w' := by
  have hm0 := C_max hr0
  have hm1 := C_max hr1
  have hm2 := C_max hr2
  have D01 := Aside0.mk (fun W (hB : Below w.heap.size w W) => Dist_calls A0 c0 l0 A1 c1 l1 W (Kd.C_below hr0 hB) (Kd.C_below hr1 hB))
  have D12 := Aside0.mk (fun W (hB : Below w.heap.size w W) => Dist_calls A1 c1 l1 A2 c2 l2 W (Kd.C_below hr1 hB) (Kd.C_below hr2 hB))
  have D02 := Aside0.mk (fun W (hB : Below w.heap.size w W) => Dist_calls A0 c0 l0 A2 c2 l2 W (Kd.C_below hr0 hB) (Kd.C_below hr2 hB))
  have D10 := Aside0.mk (fun W (hB : Below w.heap.size w W) => Dist_calls A1 c1 l1 A0 c0 l0 W (Kd.C_below hr1 hB) (Kd.C_below hr0 hB))
  have S01 := Aside0.mk (fun W (hB : Below w.heap.size w W) => Same_int32_calls A0 c0 l0 A1 c1 l1 W (Kd.C_below hr0 hB) (Kd.C_below hr1 hB))
  clear hr0 hr1 hr2
  by_cases h0 : l0.length > 1100
  · have d0 : decide ((l0.length : Int) > 1100) = true := by simp; omega
    clear h0
    go_enter Try.func5, Try.ntmps5
    go_wp2_with fail
    refine (lives03_calls _).mono ?_
    rintro e w1 ⟨rfl, hb⟩
    have HB1 := Aside0.mk hb
    clear hb
    go_wp2_with fail
    go_ret
    exact ⟨rfl, HB1.out⟩
  have d0 : decide ((l0.length : Int) > 1100) = false := by simp; omega
  by_cases h1 : l1.length > 1100
  · have d1 : decide ((l1.length : Int) > 1100) = true := by simp; omega
    clear h1
    go_enter Try.func5, Try.ntmps5
    go_wp2_with fail
    refine (lives03_calls _).mono ?_
    rintro e w1 ⟨rfl, hb⟩
    have HB1 := Aside0.mk hb
    clear hb
    go_wp2_with fail
    go_ret
    exact ⟨rfl, HB1.out⟩
  have d1 : decide ((l1.length : Int) > 1100) = false := by simp; omega
  by_cases h2 : l2.length > 1100
  · have d2 : decide ((l2.length : Int) > 1100) = true := by simp; omega
    clear h2
    go_enter Try.func5, Try.ntmps5
    go_wp2_with fail
    refine (lives03_calls _).mono ?_
    rintro e w1 ⟨rfl, hb⟩
    have HB1 := Aside0.mk hb
    clear hb
    go_wp2_with fail
    go_ret
    exact ⟨rfl, HB1.out⟩
  have d2 : decide ((l2.length : Int) > 1100) = false := by simp; omega
  by_cases he : pairE l0 l1 = 0
  · have hh := pairE_sym he
    rw [he] at D01
    rw [hh] at D10
    have hw : distV l1 l0 = distV l0 l1 := by
      rw [distV_ok hh, distV_ok he, distTo_comm, (pairE_ok he).2.2]
    rw [hw] at D10
    have hsd := same_dist he
    obtain ⟨nx, hx, bx⟩ := dist_nat he
    by_cases hf : pairE l1 l2 = 0
    · rw [hf] at D12
      obtain ⟨ny, hy, by_⟩ := dist_nat hf
      by_cases hg : pairE l0 l2 = 0
      · rw [hg] at D02
        obtain ⟨nz, hz, bz⟩ := dist_nat hg
        have HT := Aside0.mk (fun X Y F => triangle l0 l1 l2 l0.length nx ny nz X Y F (by rw [← distV_ok he, hx]) (by rw [(pairE_ok he).2.2, ← distV_ok hf, hy]) (by rw [← distV_ok hg, hz]))
        rw [hx] at D01 D10 hsd
        rw [hy] at D12
        rw [hz] at D02
        rw [← hsd] at S01
        have BX := Aside0.mk bx
        have hbig : decide ((nx : Int) ≥ 140737488355328) = false := big_no bx
        have hbig2 : decide ((140737488355328 : Int) ≤ (nx : Int)) = false := big_no bx
        have BY := Aside0.mk by_
        have BZ := Aside0.mk bz
        have FZ := Aside0.mk (fun W => show Calls Try.prog 22 #[.int .u64 (IntKind.u64.wrap (nz : Int))] W _ from by rw [wrap_small bz]; exact Floor2_calls nz W (by omega))
        have CX := Aside0.mk (fun W => show Calls Try.prog 23 #[.int .u64 (IntKind.u64.wrap (nx : Int))] W _ from by rw [wrap_small bx]; exact Ceil2_calls nx W (by omega))
        have CY := Aside0.mk (fun W => show Calls Try.prog 23 #[.int .u64 (IntKind.u64.wrap (ny : Int))] W _ from by rw [wrap_small by_]; exact Ceil2_calls ny W (by omega))
        clear he hh hw hsd hx hy hz hf hg bx by_ bz
        go_enter Try.func5, Try.ntmps5
        go_wp2_with fail
        refine (lives03_calls _).mono ?_
        rintro e w1 ⟨rfl, hb⟩
        have HB1 := Aside0.mk hb
        clear hb
        go_wp2_with fail
        refine (D01.out _ HB1.out).mono ?_
        rintro e w2 ⟨rfl, hb⟩
        have HB2 := Aside0.mk (bcomp HB1.out hb)
        clear hb
        go_wp2_with fail
        refine (D12.out _ HB2.out).mono ?_
        rintro e w3 ⟨rfl, hb⟩
        have HB3 := Aside0.mk (bcomp HB2.out hb)
        clear hb
        go_wp2_with fail
        refine (D02.out _ HB3.out).mono ?_
        rintro e w4 ⟨rfl, hb⟩
        have HB4 := Aside0.mk (bcomp HB3.out hb)
        clear hb
        go_wp2_with fail
        refine (D10.out _ HB4.out).mono ?_
        rintro e w5 ⟨rfl, hb⟩
        have HB5 := Aside0.mk (bcomp HB4.out hb)
        clear hb
        go_wp2_with fail
        refine (S01.out _ HB5.out).mono ?_
        rintro e w6 ⟨rfl, hb⟩
        have HB6 := Aside0.mk (bcomp HB5.out hb)
        clear hb
        go_wp2_with fail
        refine (FZ.out _).mono ?_
        rintro e w7 ⟨F, rfl, HF, rfl⟩
        go_wp2_with fail
        refine (CX.out _).mono ?_
        rintro e w7 ⟨X, rfl, HX, rfl⟩
        go_wp2_with fail
        refine (CY.out _).mono ?_
        rintro e w7 ⟨Y, rfl, HY, rfl⟩
        have HFin := Aside0.mk (sum_le (HT.out X Y F HX.out HY.out HF.out) HX.out HY.out)
        go_wp2_with fail
        go_ret
        exact ⟨by rw [← HFin.out]; rfl, HB6.out⟩
      · have g1 : (pairE l0 l2 != 0) = true := by simpa using hg
        have HV := Aside0.mk (distV_no hg)
        rw [HV.out] at D02
        rw [hx] at D01 D10
        rw [hy] at D12
        clear he hh hw hsd hx hy hf hg
        generalize pairE l0 l2 = z at *
        go_enter Try.func5, Try.ntmps5
        go_wp2_with fail
        refine (lives03_calls _).mono ?_
        rintro e w1 ⟨rfl, hb⟩
        have HB1 := Aside0.mk hb
        clear hb
        go_wp2_with fail
        refine (D01.out _ HB1.out).mono ?_
        rintro e w2 ⟨rfl, hb⟩
        have HB2 := Aside0.mk (bcomp HB1.out hb)
        clear hb
        go_wp2_with fail
        refine (D12.out _ HB2.out).mono ?_
        rintro e w3 ⟨rfl, hb⟩
        have HB3 := Aside0.mk (bcomp HB2.out hb)
        clear hb
        go_wp2_with fail
        refine (D02.out _ HB3.out).mono ?_
        rintro e w4 ⟨rfl, hb⟩
        have HB4 := Aside0.mk (bcomp HB3.out hb)
        clear hb
        go_wp2_with fail
        refine (D10.out _ HB4.out).mono ?_
        rintro e w5 ⟨rfl, hb⟩
        have HB5 := Aside0.mk (bcomp HB4.out hb)
        clear hb
        go_wp2_with fail
        go_ret
        exact ⟨rfl, HB5.out⟩
    · have g1 : (pairE l1 l2 != 0) = true := by simpa using hf
      rw [hx] at D01 D10
      clear he hh hw hsd hx hf
      generalize pairE l1 l2 = z at *
      go_enter Try.func5, Try.ntmps5
      go_wp2_with fail
      refine (lives03_calls _).mono ?_
      rintro e w1 ⟨rfl, hb⟩
      have HB1 := Aside0.mk hb
      clear hb
      go_wp2_with fail
      refine (D01.out _ HB1.out).mono ?_
      rintro e w2 ⟨rfl, hb⟩
      have HB2 := Aside0.mk (bcomp HB1.out hb)
      clear hb
      go_wp2_with fail
      refine (D12.out _ HB2.out).mono ?_
      rintro e w3 ⟨rfl, hb⟩
      have HB3 := Aside0.mk (bcomp HB2.out hb)
      clear hb
      go_wp2_with fail
      refine (D02.out _ HB3.out).mono ?_
      rintro e w4 ⟨rfl, hb⟩
      have HB4 := Aside0.mk (bcomp HB3.out hb)
      clear hb
      go_wp2_with fail
      refine (D10.out _ HB4.out).mono ?_
      rintro e w5 ⟨rfl, hb⟩
      have HB5 := Aside0.mk (bcomp HB4.out hb)
      clear hb
      go_wp2_with fail
      go_ret
      exact ⟨rfl, HB5.out⟩
  · have hh : pairE l1 l0 ≠ 0 := fun e => he (pairE_sym e)
    have g0 : (pairE l0 l1 == 0) = false := by simpa using he
    have g1 : (pairE l0 l1 != 0) = true := by simpa using he
    have g2 : (pairE l1 l0 == 0) = false := by simpa using hh
    rw [distV_no he] at D01
    clear he hh
    generalize pairE l0 l1 = z at *
    generalize pairE l1 l0 = z1 at *
    go_enter Try.func5, Try.ntmps5
    go_wp2_with fail
    refine (lives03_calls _).mono ?_
    rintro e w1 ⟨rfl, hb⟩
    have HB1 := Aside0.mk hb
    clear hb
    go_wp2_with fail
    refine (D01.out _ HB1.out).mono ?_
    rintro e w2 ⟨rfl, hb⟩
    have HB2 := Aside0.mk (bcomp HB1.out hb)
    clear hb
    go_wp2_with fail
    refine (D12.out _ HB2.out).mono ?_
    rintro e w3 ⟨rfl, hb⟩
    have HB3 := Aside0.mk (bcomp HB2.out hb)
    clear hb
    go_wp2_with fail
    refine (D02.out _ HB3.out).mono ?_
    rintro e w4 ⟨rfl, hb⟩
    have HB4 := Aside0.mk (bcomp HB3.out hb)
    clear hb
    go_wp2_with fail
    refine (D10.out _ HB4.out).mono ?_
    rintro e w5 ⟨rfl, hb⟩
    have HB5 := Aside0.mk (bcomp HB4.out hb)
    clear hb
    go_wp2_with fail
    go_ret
    exact ⟨rfl, HB5.out⟩

end Go.Proofs.Ytkogapmggicanaa.G
