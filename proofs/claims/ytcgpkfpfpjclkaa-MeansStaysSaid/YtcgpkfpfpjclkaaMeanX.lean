/- means.Run: all units. -/
import Derived.Test.YtcgpkfpfpjclkaaMeanO
import Derived.Test.YtcgpkfpfpjclkaaMeanW
namespace Go.Proofs.Ytcgpkfpfpjclkaa.G
open Go.RowKit Go.Shelf Go.Proofs.YtcgpkfpfpjclkaaW.PrintWords
set_option linter.unusedVariables false
set_option linter.unusedSimpArgs false
/-- The cents behind all rounds. -/
def runL (P C : List (List Int)) (it : Int) : List (List Int) × Int := if newE P C it = 0 then (rounds P it.toNat C, 0) else ([], 2)
set_option maxRecDepth 100000 in
set_option maxHeartbeats 4000000 in
theorem Run_ok (AP AC : Option Addr) (cP cC : Nat) (P C : List (List Int)) (it m : Nat) (w : World) (hrP : Kd.C (Kd.slice 21 (Kd.int .i32)) w AP P.length P) (hrC : Kd.C (Kd.slice 21 (Kd.int .i32)) w AC C.length C) (hcP : P.length ≤ cP) (hcC : C.length ≤ cC) (hP : P.length ≤ 1000) (hC : C.length ≤ 1000) (he : newE P C it = 0) (hm : (C.getD 0 []).length = m) (hk : NewOk P C it m) :
    Calls Try.prog 10 #[.slice AP P.length cP, .slice AC C.length cC, .int .i64 it] w fun e w' => ∃ v, e = .returned (.tuple #[v, .int .i64 0]) ∧ rowsK.R 39 w' w.heap.size (fun _ => True) v (rounds P it C) ∧ Below w.heap.size w w' := by
  have HNew := Aside0.mk (New_ok AP AC cP cC P C it m w hrP hrC hcP hcC hP hC he hm hk.vP hk.vC hk.m2)
  have HGd := Aside0.mk (St0_good (it := it) hk hP hC)
  have HIt := Aside0.mk (And.intro hk.i1 hk.i2)
  clear hrP hrC he hk hm
  go_enter Try.func10, Try.ntmps10
  go_wp2_with (go_at_call 13; ((with_reducible refine HNew.out.mono ?_); rintro e w1 ⟨L, rfl, hlo, hhi, hM, hb⟩; have HL := Aside0.mk (And.intro hlo hhi); have HM0 := Aside0.mk hM; have HB0 := Aside0.mk hb; clear hlo hhi hM hb))
  go_loopg [22] (leftS (St0 P C it)) (fun kq v22 wr => ∃ s : St, Aside0 (Inv P C it s ∧ Good m s ∧ MSt L wr (s.raw m) ∧ Fr L.lo L.hi w1 wr) ∧ leftS s = kq)
  case atStart => exact ⟨St0 P C it, ⟨St0_inv P C it, HGd.out, HM0.out, Fr.refl _ _ _⟩, rfl⟩
  case round =>
    clear HM0 HGd HNew
    obtain ⟨s, HS, hks⟩ := hrel
    by_cases hr : s.r = it
    · have HD := Aside0.mk (fun W n (hW : wr.drewN n = W) => Done_c (HS.out.2.2.1.drewN n) true (decide_eq_true (hr.trans HS.out.1.pit.symm)))
      have HD0 := Aside0.mk (Done_c HS.out.2.2.1 true (decide_eq_true (hr.trans HS.out.1.pit.symm)))
      obtain ⟨c0, c1, c2, c3, c4, c5, c6, c7, c8⟩ := MSt.cells (P := s.P) (C := s.C) (it := s.it) (r := s.r) (a := s.a) (of := s.of) HS.out.2.2.1
      go_wp2_with (go_at_call 14; ((with_reducible refine HD0.out.mono ?_); rintro e w' ⟨rfl, ⟨nd, rfl⟩⟩))
      go_ret2
      have hP := Kd.R_lower (Kd.R_mono (ok' := fun _ => True) (Kd.S_R (HS.out.2.2.1.drewN nd).C) (fun _ _ => trivial)) HL.out.1
      refine ⟨_, rfl, ?_, ?_⟩
      · have e : s.C = rounds P it C := by rw [HS.out.1.pC, hr]
        rw [← e]
        exact hP
      · exact HB0.out.trans ((HS.out.2.2.2.drewN nd).below HL.out.1 HB0.out.size)
    · have hlt : s.r < it := by have := HS.out.1.pr; omega
      have HD0 := Aside0.mk (Done_c HS.out.2.2.1 false (decide_eq_false (by rw [HS.out.1.pit]; exact hr)))
      obtain ⟨c0, c1, c2, c3, c4, c5, c6, c7, c8⟩ := MSt.cells (P := s.P) (C := s.C) (it := s.it) (r := s.r) (a := s.a) (of := s.of) HS.out.2.2.1
      have HU := Aside0.mk (fun n => unit_c (HS.out.2.2.1.drewN n) HS.out.2.1 (by have := HIt.out.2; omega))
      unfold Lay.units at c8
      go_wp2_with (go_at_call 14; ((with_reducible refine HD0.out.mono ?_); rintro e w' ⟨rfl, ⟨nd, rfl⟩⟩))
      refine (HU.out _).mono ?_
      rintro e w2 ⟨rfl, hM2, hF2⟩
      have HR : Aside0 (Inv P C it (stepS s) ∧ Good m (stepS s) ∧ MSt L w2 ((stepS s).raw m) ∧ Fr L.lo L.hi w1 w2) := ⟨HS.out.1.step HS.out.2.1 hlt, HS.out.2.1.step (by have := HIt.out.2; omega), hM2, (HS.out.2.2.2.drewN _).trans hF2⟩
      have HLt := Aside0.mk (leftS_step HS.out.2.1 (show s.r < s.it by rw [HS.out.1.pit]; exact hlt))
      clear hM2 hF2 HU c0 c1 c2 c3 c4 c5 c6 c7 c8
      go_wp2
      go_roundg (leftS (stepS s))
      case measure => rw [← hks]; exact HLt.out
      case rel => exact ⟨stepS s, HR, rfl⟩
theorem Run_bad (AP AC : Option Addr) (cP cC : Nat) (P C : List (List Int)) (it : Int) (w : World) (hrP : Kd.C (Kd.slice 21 (Kd.int .i32)) w AP P.length P) (hrC : Kd.C (Kd.slice 21 (Kd.int .i32)) w AC C.length C) (hcP : P.length ≤ cP) (hcC : C.length ≤ cC) (hP : P.length ≤ 1000) (hC : C.length ≤ 1000) (he : newE P C it ≠ 0) :
    Calls Try.prog 10 #[.slice AP P.length cP, .slice AC C.length cC, .int .i64 it] w fun e w' => e = .returned (.tuple #[.slice none 0 0, .int .i64 2]) ∧ Below w.heap.size w w' := by
  have HNew := Aside0.mk (New_bad AP AC cP cC P C it w hrP hrC hcP hcC hP hC he)
  clear hrP hrC he
  go_enter Try.func10, Try.ntmps10
  go_wp2_with (go_at_call 13; ((with_reducible refine HNew.out.mono ?_); rintro e w1 ⟨rfl, hb⟩; have HB0 := Aside0.mk hb; clear hb))
  go_ret2
  exact ⟨rfl, HB0.out⟩
/-- means.Run. -/
theorem Run_c (AP AC : Option Addr) (cP cC : Nat) (P C : List (List Int)) (it : Int) (w : World) (hrP : Kd.C (Kd.slice 21 (Kd.int .i32)) w AP P.length P) (hrC : Kd.C (Kd.slice 21 (Kd.int .i32)) w AC C.length C) (hcP : P.length ≤ cP) (hcC : C.length ≤ cC) (hP : P.length ≤ 1000) (hC : C.length ≤ 1000) (r1 : List (List Int)) (r2 : Int) (hres : runL P C it = (r1, r2)) :
    Calls Try.prog 10 #[.slice AP P.length cP, .slice AC C.length cC, .int .i64 it] w fun e w' => ∃ v, e = .returned (.tuple #[v, .int .i64 r2]) ∧ rowsK.R 39 w' w.heap.size (fun _ => True) v r1 ∧ Below w.heap.size w w' := by
  unfold runL at hres
  by_cases he : newE P C it = 0
  · rw [if_pos he] at hres
    cases hres
    have hk := newE_ok he
    obtain ⟨n, rfl⟩ : ∃ n : Nat, it = n := ⟨it.toNat, by have := hk.i1; omega⟩
    exact Run_ok AP AC cP cC P C n _ w hrP hrC hcP hcC hP hC he rfl hk
  · rw [if_neg he] at hres
    cases hres
    refine (Run_bad AP AC cP cC P C it w hrP hrC hcP hcC hP hC he).mono ?_
    rintro e w' ⟨rfl, hb⟩
    exact ⟨_, rfl, Kd.R_nil _ _ _ _ _, hb⟩
end Go.Proofs.Ytcgpkfpfpjclkaa.G
