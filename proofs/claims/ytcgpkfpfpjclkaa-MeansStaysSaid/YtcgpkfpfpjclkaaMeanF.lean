/- MeansFalls, walked. -/
import Derived.Test.YtcgpkfpfpjclkaaMeanL
import Derived.Test.YtcgpkfpfpjclkaaMeanY
namespace Go.Proofs.Ytcgpkfpfpjclkaa.G
open Go.RowKit Go.Shelf Go.Proofs.YtcgpkfpfpjclkaaW.PrintWords
set_option linter.unusedVariables false
set_option linter.unusedSimpArgs false
theorem Pick_ex (a m : Int) (h1 : 1 ≤ m) (h2 : m ≤ 1000) : Mm.wayfinderkit_Pick.f a m = some (a % m) := by
  have h3 := tmod_pick (a := a) (m := m) (by omega)
  have h4 := Int.emod_nonneg a (show m ≠ 0 by omega)
  have h5 := Int.emod_lt_of_pos a (show 0 < m by omega)
  unfold Mm.wayfinderkit_Pick.f
  rw [if_neg (by omega), if_neg (by omega)]
  by_cases h : Int.tmod a m < 0
  · rw [if_pos h] at h3 ⊢
    rw [wrap_in (by omega) (by omega), h3]
  · rw [if_neg h] at h3 ⊢
    rw [h3]
theorem falls_to {P C : List (List Int)} {m : Nat} (hC : Wid m C) (h0 : 0 < C.length) (j : Nat) : ∀ d, costL P (rounds P (j + d) C) ≤ costL P (rounds P j C)
  | 0 => Int.le_refl _
  | d + 1 => by
    refine Int.le_trans ?_ (falls_to hC h0 j d)
    obtain ⟨h1, h2⟩ := rounds_wid (P := P) hC (j + d)
    exact cost_falls P (rounds P (j + d) C) m h1 (by omega)
theorem rounds_light {P C : List (List Int)} {m : Nat} (hC : Wid m C) (h0 : 0 < C.length) (hl : Mm.lightL C = true) (k : Nat) : Mm.lightL (rounds P k C) = true := by
  obtain ⟨h1, h2⟩ := Mm.lightL_len hl
  obtain ⟨h3, h4⟩ := rounds_wid (P := P) hC k
  have hm : m ≤ 20 := by rw [← hC 0 h0]; exact h2 0 h0
  unfold Mm.lightL
  simp only [Bool.and_eq_true, decide_eq_true_eq, List.all_eq_true, List.mem_range]
  exact ⟨by omega, fun i hi => by rw [h3 i hi]; exact hm⟩
set_option maxRecDepth 100000 in
set_option maxHeartbeats 4000000 in
theorem MeansFalls_c (A0 A1 : Option Addr) (c0 c1 : Nat) (P C : List (List Int)) (iters : Int) (w : World) (hrP : Kd.C (Kd.slice 21 (Kd.int .i32)) w A0 P.length P) (hc0 : P.length ≤ c0) (hrC : Kd.C (Kd.slice 21 (Kd.int .i32)) w A1 C.length C) (hc1 : C.length ≤ c1) :
    Calls Try.prog 3 #[.slice A0 P.length c0, .slice A1 C.length c1, .int .i64 iters] w fun e w' => e = .returned (.bool true) ∧ Below w.heap.size w w' := by
  have HLv := Aside0.mk (Mn.wayfinderlaw12_lives.calls 100 true w Mn.lives_is)
  have HRP := Aside0.mk (fun W (hW : Below w.heap.size w W) => Kd.C_below hrP hW)
  have HRC := Aside0.mk (fun W (hW : Below w.heap.size w W) => Kd.C_below hrC hW)
  obtain ⟨KL, hKL⟩ := (Mm.light_is P C (C_max hrP) (C_max hrC)).rounds
  cases hlt : (Mm.lightL P && Mm.lightL C)
  · rw [hlt] at hKL
    have HLi := Aside0.mk (fun W (hW : Below w.heap.size w W) => Mm.wayfinderlaw12_light.calls KL A0 c0 P A1 c1 C false W (HRP.out W hW) hc0 (HRC.out W hW) hc1 hKL)
    clear hrP hrC hKL hlt
    go_enter Try.func3, Try.ntmps3
    go_wp2_with (first | (go_at_call 7; ((with_reducible refine HLv.out.mono ?_); rintro e w1 ⟨rfl, hb⟩; have HB1 := Aside0.mk hb; clear hb)) | (go_at_call 8; ((with_reducible refine (HLi.out _ HB1.out).mono ?_); rintro e w2 ⟨rfl, ⟨nd, rfl⟩⟩)))
    go_ret
    exact ⟨rfl, pw_below_drewN HB1.out _⟩
  rw [hlt] at hKL
  have HLi := Aside0.mk (fun W (hW : Below w.heap.size w W) => Mm.wayfinderlaw12_light.calls KL A0 c0 P A1 c1 C true W (HRP.out W hW) hc0 (HRC.out W hW) hc1 hKL)
  have HLt : Aside0 (Mm.lightL P = true ∧ Mm.lightL C = true) := ⟨by simpa using hlt⟩
  have hPk := Pick_ex iters 8 (by omega) (by omega)
  obtain ⟨N, hN⟩ : ∃ N : Nat, iters % 8 = N := ⟨(iters % 8).toNat, by omega⟩
  have hN7 : N ≤ 7 := by omega
  rw [hN] at hPk
  have HPk := Aside0.mk (fun W => Mm.wayfinderkit_Pick.calls iters 8 N W hPk)
  have HRun := Aside0.mk (fun W (hW : Below w.heap.size w W) it r1 r2 (hres : runL P C it = (r1, r2)) => Run_c A0 A1 c0 c1 P C it W (HRP.out W hW) (HRC.out W hW) hc0 hc1 (by have := (Mm.lightL_len HLt.out.1).1; omega) (by have := (Mm.lightL_len HLt.out.2).1; omega) r1 r2 hres)
  clear hrP hrC hKL hlt hPk hN
  go_enter Try.func3, Try.ntmps3
  go_wp2_with (first | (go_at_call 7; ((with_reducible refine HLv.out.mono ?_); rintro e w1 ⟨rfl, hb⟩; have HB1 := Aside0.mk hb; clear hb)) | (go_at_call 8; ((with_reducible refine (HLi.out _ HB1.out).mono ?_); rintro e w2 ⟨rfl, ⟨nd, rfl⟩⟩)))
  go_loopw [7, 8] (fun v7 v8 wr => ∃ (k : Nat) (was : Int), k ≤ N + 1 ∧ v8 = .int .i64 k ∧ v7 = .int .i64 was ∧ Aside0 (Below w.heap.size w wr) ∧ Aside0 (was = -1 ∨ ∃ j, j < k ∧ was = costL P (rounds P j C))) (fun _ v8 _ => N + 1 - (intOf v8).toNat)
  case atStart => exact ⟨0, -1, by omega, rfl, rfl, ⟨pw_below_drewN HB1.out _⟩, ⟨.inl rfl⟩⟩
  case round =>
    clear HB1 HLv HLi
    obtain ⟨k, was, hk, rfl, rfl, HB, HWas⟩ := hrel
    by_cases hkN : k ≤ N
    · by_cases hk0 : k = 0
      · subst hk0
        have hlD : Mm.lightL C = true := HLt.out.2
        have HFall := Aside0.mk (show 0 ≤ was → costL P C ≤ was from fun h0 => by
          rcases HWas.out with h | ⟨j, hj, _⟩
          · omega
          · omega)
        go_wp2_with (go_at_call 9; ((with_reducible refine (HPk.out _).mono ?_); rintro e w3 ⟨rfl, ⟨nd3, rfl⟩⟩))
        obtain ⟨r, hr, hrc⟩ := Mm.cost_is P C HLt.out.1 hlD
        obtain ⟨K2, hK2⟩ := hr.rounds
        obtain ⟨x, ok⟩ := r
        have hlen := (Mm.lightL_len hlD).1
        have HCst := Aside0.mk (fun W (hP : Kd.C (Kd.slice 21 (Kd.int .i32)) W A0 P.length P) (hD : Kd.C (Kd.slice 21 (Kd.int .i32)) W A1 C.length C) => Mm.wayfinderlaw12_cost.calls K2 A0 c0 P A1 c1 C x ok W hP hc0 hD hc1 hK2)
        have HCost := Aside0.mk (fun W (hP : Kd.C (Kd.slice 21 (Kd.int .i32)) W A0 P.length P) (hD : Kd.C (Kd.slice 21 (Kd.int .i32)) W A1 C.length C) r1 r2 (hres : costR P C = (r1, r2)) => Cost_c A0 A1 c0 c1 P C W hP hD hc0 hc1 (by have := (Mm.lightL_len HLt.out.1).1; omega) (by omega) r1 r2 hres)
        have HBW := Aside0.mk HB.out
        have HPW := Aside0.mk (HRP.out _ HBW.out)
        have HDW := Aside0.mk (HRC.out _ HBW.out)
        cases ok with
        | false =>
          clear hrc hK2 HCost
          refine (HCst.out _ (Kd.C_drewN HPW.out _) (Kd.C_drewN HDW.out _)).mono ?_
          rintro e w9 ⟨rfl, ⟨nd9, rfl⟩⟩
          go_wp2
          go_roundw
          case rel => exact ⟨1, was, by omega, by go_num, rfl, ⟨pw_below_drewN HBW.out _⟩, ⟨HWas.out.imp id (fun ⟨j, h1, h2⟩ => ⟨j, by omega, h2⟩)⟩⟩
          case measure => simp [intOf]; try omega
        | true =>
          obtain ⟨hE0, hxe⟩ := hrc rfl
          have hcr : costR P C = (costL P C, 0) := by unfold costR; rw [if_pos hE0]
          have HCo := Aside0.mk (fun nd => HCost.out _ (Kd.C_drewN HPW.out nd) (Kd.C_drewN HDW.out nd) _ _ hcr)
          have hge := HFall.out
          have HNx := Aside0.mk (show costL P C = costL P (rounds P 0 C) from rfl)
          clear hK2 HCost hcr hE0
          have hxe : x = costL P C := hxe
          subst hxe
          generalize costL P C = cst at *
          by_cases hw0 : 0 ≤ was
          · have hd1 : decide (was ≥ 0) = true := decide_eq_true hw0
            have hd2 : decide (cst > was) = false := decide_eq_false (by have := hge hw0; omega)
            refine (HCst.out _ (Kd.C_drewN HPW.out _) (Kd.C_drewN HDW.out _)).mono ?_
            rintro e w9 ⟨rfl, ⟨nd9, rfl⟩⟩
            go_wp2_with (go_at_call 12; ((with_reducible refine (HCo.out _).mono ?_); rintro e w10 ⟨rfl, hb10⟩; have HB10 := Aside0.mk (below_then (pw_below_drewN HBW.out _) (Below.size (pw_below_drewN HBW.out _)) hb10); clear hb10))
            go_roundw
            case rel => exact ⟨1, cst, by omega, by go_num, rfl, HB10, ⟨.inr ⟨0, by omega, HNx.out⟩⟩⟩
            case measure => simp [intOf]; try omega
          · have hd1 : decide (was ≥ 0) = false := decide_eq_false hw0
            refine (HCst.out _ (Kd.C_drewN HPW.out _) (Kd.C_drewN HDW.out _)).mono ?_
            rintro e w9 ⟨rfl, ⟨nd9, rfl⟩⟩
            go_wp2_with (go_at_call 12; ((with_reducible refine (HCo.out _).mono ?_); rintro e w10 ⟨rfl, hb10⟩; have HB10 := Aside0.mk (below_then (pw_below_drewN HBW.out _) (Below.size (pw_below_drewN HBW.out _)) hb10); clear hb10))
            go_roundw
            case rel => exact ⟨1, cst, by omega, by go_num, rfl, HB10, ⟨.inr ⟨0, by omega, HNx.out⟩⟩⟩
            case measure => simp [intOf]; try omega
      · by_cases hE : newE P C k = 0
        · have hres : runL P C k = (rounds P k C, 0) := by unfold runL; rw [if_pos hE]; rfl
          have hok := newE_ok hE
          have hW : Wid (C.getD 0 []).length C := hok.vC.len
          have hlD : Mm.lightL (rounds P k C) = true := rounds_light hW hok.k1 HLt.out.2 k
          have HFall := Aside0.mk (show 0 ≤ was → costL P (rounds P k C) ≤ was from fun h0 => by
            rcases HWas.out with h | ⟨j, hj, h⟩
            · omega
            · rw [h]
              have := falls_to (P := P) hW hok.k1 j (k - j)
              rw [show j + (k - j) = k by omega] at this
              exact this)
          obtain ⟨D, hD⟩ : ∃ D, D = rounds P k C := ⟨_, rfl⟩
          rw [← hD] at hlD HFall hres
          have HDe := Aside0.mk hD
          clear hD
          have HRn := Aside0.mk (fun nd => HRun.out (wr.drewN nd) (pw_below_drewN HB.out nd) k _ _ hres)
          have hd0 : decide ((k : Int) > 0) = true := decide_eq_true (by omega)
          clear hE hres hok hW HRun
          go_wp2_with (first | (go_at_call 9; ((with_reducible refine (HPk.out _).mono ?_); rintro e w3 ⟨rfl, ⟨nd3, rfl⟩⟩)) | (go_at_call 10; ((with_reducible refine (HRn.out _).mono ?_); rintro e w4 ⟨v4, rfl, hR4, hb4⟩; obtain ⟨A4, c4, rfl⟩ := Kd.R_slice hR4; have HR4 := Aside0.mk hR4; have HB4 := Aside0.mk (below_then (pw_below_drewN HB.out _) (Below.size (pw_below_drewN HB.out _)) hb4); clear hR4 hb4)))
          obtain ⟨-, hcD, hCD⟩ := Kd.R_reads' HR4.out
          obtain ⟨r, hr, hrc⟩ := Mm.cost_is P D HLt.out.1 hlD
          obtain ⟨K2, hK2⟩ := hr.rounds
          obtain ⟨x, ok⟩ := r
          have hlen := (Mm.lightL_len hlD).1
          have HCst := Aside0.mk (fun W (hP : Kd.C (Kd.slice 21 (Kd.int .i32)) W A0 P.length P) (hD : Kd.C (Kd.slice 21 (Kd.int .i32)) W A4 D.length D) => Mm.wayfinderlaw12_cost.calls K2 A0 c0 P A4 c4 D x ok W hP hc0 hD hcD hK2)
          have HCost := Aside0.mk (fun W (hP : Kd.C (Kd.slice 21 (Kd.int .i32)) W A0 P.length P) (hD : Kd.C (Kd.slice 21 (Kd.int .i32)) W A4 D.length D) r1 r2 (hres : costR P D = (r1, r2)) => Cost_c A0 A4 c0 c4 P D W hP hD hc0 hcD (by have := (Mm.lightL_len HLt.out.1).1; omega) (by omega) r1 r2 hres)
          have HBW := Aside0.mk HB4.out
          have HPW := Aside0.mk (HRP.out _ HBW.out)
          have HDW := Aside0.mk hCD
          cases ok with
          | false =>
            clear hrc hK2 HCost
            refine (HCst.out _ HPW.out HDW.out).mono ?_
            rintro e w9 ⟨rfl, ⟨nd9, rfl⟩⟩
            go_wp2
            go_roundw
            case rel => exact ⟨k + 1, was, by omega, by go_num, rfl, ⟨pw_below_drewN HBW.out _⟩, ⟨HWas.out.imp id (fun ⟨j, h1, h2⟩ => ⟨j, by omega, h2⟩)⟩⟩
            case measure => simp [intOf]; try omega
          | true =>
            obtain ⟨hE0, hxe⟩ := hrc rfl
            have hcr : costR P D = (costL P D, 0) := by unfold costR; rw [if_pos hE0]
            have HCo := Aside0.mk (fun nd => HCost.out _ (Kd.C_drewN HPW.out nd) (Kd.C_drewN HDW.out nd) _ _ hcr)
            have hge := HFall.out
            have HNx := Aside0.mk (show costL P D = costL P (rounds P k C) by rw [HDe.out])
            clear hK2 HCost hcr hE0
            have hxe : x = costL P D := hxe
            subst hxe
            generalize costL P D = cst at *
            by_cases hw0 : 0 ≤ was
            · have hd1 : decide (was ≥ 0) = true := decide_eq_true hw0
              have hd2 : decide (cst > was) = false := decide_eq_false (by have := hge hw0; omega)
              refine (HCst.out _ HPW.out HDW.out).mono ?_
              rintro e w9 ⟨rfl, ⟨nd9, rfl⟩⟩
              go_wp2_with (go_at_call 12; ((with_reducible refine (HCo.out _).mono ?_); rintro e w10 ⟨rfl, hb10⟩; have HB10 := Aside0.mk (below_then (pw_below_drewN HBW.out _) (Below.size (pw_below_drewN HBW.out _)) hb10); clear hb10))
              go_roundw
              case rel => exact ⟨k + 1, cst, by omega, by go_num, rfl, HB10, ⟨.inr ⟨k, by omega, HNx.out⟩⟩⟩
              case measure => simp [intOf]; try omega
            · have hd1 : decide (was ≥ 0) = false := decide_eq_false hw0
              refine (HCst.out _ HPW.out HDW.out).mono ?_
              rintro e w9 ⟨rfl, ⟨nd9, rfl⟩⟩
              go_wp2_with (go_at_call 12; ((with_reducible refine (HCo.out _).mono ?_); rintro e w10 ⟨rfl, hb10⟩; have HB10 := Aside0.mk (below_then (pw_below_drewN HBW.out _) (Below.size (pw_below_drewN HBW.out _)) hb10); clear hb10))
              go_roundw
              case rel => exact ⟨k + 1, cst, by omega, by go_num, rfl, HB10, ⟨.inr ⟨k, by omega, HNx.out⟩⟩⟩
              case measure => simp [intOf]; try omega
        · have hres : runL P C k = ([], 2) := by unfold runL; rw [if_neg hE]
          have HRn := Aside0.mk (fun nd => HRun.out (wr.drewN nd) (pw_below_drewN HB.out nd) k _ _ hres)
          have hd0 : decide ((k : Int) > 0) = true := decide_eq_true (by omega)
          clear hE hres HRun
          go_wp2_with (first | (go_at_call 9; ((with_reducible refine (HPk.out _).mono ?_); rintro e w3 ⟨rfl, ⟨nd3, rfl⟩⟩)) | (go_at_call 10; ((with_reducible refine (HRn.out _).mono ?_); rintro e w4 ⟨v4, rfl, hR4, hb4⟩; obtain ⟨A4, c4, rfl⟩ := Kd.R_slice hR4; have HB4 := Aside0.mk (below_then (pw_below_drewN HB.out _) (Below.size (pw_below_drewN HB.out _)) hb4); clear hR4 hb4)))
          go_ret
          exact ⟨rfl, HB4.out⟩
    · obtain rfl : k = N + 1 := by omega
      go_wp2_with (go_at_call 9; ((with_reducible refine (HPk.out _).mono ?_); rintro e w3 ⟨rfl, ⟨nd3, rfl⟩⟩))
      go_ret
      exact ⟨rfl, pw_below_drewN HB.out _⟩
theorem MeansFalls_walk (a0 : Option Addr) (len0 cap0 : Nat) (l0 : List (List Int)) {w : World} (w0 : len0 = l0.length ∧ l0.length ≤ cap0 ∧ Kd.C (Kd.slice 21 (Kd.int .i32)) w a0 l0.length l0) (a1 : Option Addr) (len1 cap1 : Nat) (l1 : List (List Int)) (w1 : len1 = l1.length ∧ l1.length ≤ cap1 ∧ Kd.C (Kd.slice 21 (Kd.int .i32)) w a1 l1.length l1) (a2 : Int) (w2 : (Lit.int .i64 a2).wf = true) (W : World) (hW : w = W) :
    Calls Try.prog 3 #[.slice a0 len0 cap0, .slice a1 len1 cap1, .int .i64 a2] W fun e w' => e = .returned (.bool true) ∧ Below W.heap.size W w' := by
  subst hW
  obtain ⟨rfl, hc0, hr0⟩ := w0
  obtain ⟨rfl, hc1, hr1⟩ := w1
  exact MeansFalls_c a0 a1 cap0 cap1 l0 l1 a2 w hr0 hc0 hr1 hc1
end Go.Proofs.Ytcgpkfpfpjclkaa.G
