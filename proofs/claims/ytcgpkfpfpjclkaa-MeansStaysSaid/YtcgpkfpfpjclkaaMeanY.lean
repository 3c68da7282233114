/- means.Cost; Run and Cost in the print's form. -/
import Derived.Test.YtcgpkfpfpjclkaaMeanX
namespace Go.Proofs.Ytcgpkfpfpjclkaa.G
open Go.RowKit Go.Shelf Go.Proofs.YtcgpkfpfpjclkaaW.PrintWords
set_option linter.unusedVariables false
set_option linter.unusedSimpArgs false
theorem near_far {C : List (List Int)} {v : List Int} {m : Nat} (hC : Mm.Val m C) (hv : Mm.wideL v) (hk : 1 ≤ C.length) (hm : m ≤ 1024) : 0 ≤ (near C v).2 ∧ (near C v).2 ≤ 70368744177664 := by
  obtain ⟨h1, h2, _⟩ := nearTo_spec C v C.length (by omega)
  have hb := Mm.dst_bound (hC.wide (nearTo C v C.length).1) hv (C.getD (nearTo C v C.length).1 []).length
  have hl := hC.len _ h1
  show 0 ≤ (nearTo C v C.length).2 ∧ (nearTo C v C.length).2 ≤ _
  rw [h2]
  unfold dst
  rw [hl] at hb ⊢
  omega
theorem cost_in {P C : List (List Int)} {m : Nat} (hC : Mm.Val m C) (hP : Mm.Val m P) (hk : 1 ≤ C.length) (hm : m ≤ 1024) (n : Nat) : 0 ≤ sumTo n (fun j => (near C (P.getD j [])).2) ∧ sumTo n (fun j => (near C (P.getD j [])).2) ≤ (n : Int) * 70368744177664 := by
  have := sumTo_bound (n := n) (f := fun j => (near C (P.getD j [])).2) (fun j _ => near_far hC (hP.wide j) hk hm)
  omega
set_option maxRecDepth 100000 in
set_option maxHeartbeats 4000000 in
theorem Cost_ok (AP AC : Option Addr) (cP cC : Nat) (P C : List (List Int)) (m : Nat) (w : World) (hrP : Kd.C (Kd.slice 21 (Kd.int .i32)) w AP P.length P) (hrC : Kd.C (Kd.slice 21 (Kd.int .i32)) w AC C.length C) (hcP : P.length ≤ cP) (hcC : C.length ≤ cC) (hP : P.length ≤ 1000) (hC : C.length ≤ 1000) (he : newE P C 1 = 0) (hm : (C.getD 0 []).length = m) (hk : NewOk P C 1 m) :
    Calls Try.prog 12 #[.slice AP P.length cP, .slice AC C.length cC] w fun e w' => e = .returned (.tuple #[.int .i64 (costL P C), .int .i64 0]) ∧ Below w.heap.size w w' := by
  have hNew := New_ok AP AC cP cC P C 1 m w hrP hrC hcP hcC hP hC he hm hk.vP hk.vC hk.m2
  rw [show ((1 : Nat) : Int) = 1 from rfl] at hNew
  have HNew := Aside0.mk hNew
  clear hNew
  have HRow := Aside0.mk (fun W (hW : Below w.heap.size w W) j (hj : j < P.length) => rows_get (Kd.C_below hrP hW) j hj)
  have HNr := Aside0.mk (show ∀ W (hW : Below w.heap.size w W) j (hj : j < P.length) A c (hr : Kd.C (Kd.int .i32) W A (P.getD j []).length (P.getD j [])) (hc : (P.getD j []).length ≤ c), Calls Try.prog 33 #[.slice AC C.length cC, .slice A (P.getD j []).length c] W fun e w' => e = .returned (.tuple #[.int .i64 ((near C (P.getD j [])).1 : Int), .int .i64 (near C (P.getD j [])).2]) ∧ Drawn0 W w' from fun W hW j hj A c hr hc => by
    obtain ⟨K, hK⟩ := (Mm.near_is C (P.getD j []) m hk.vC hk.m2 (hk.vP.len j hj) (hk.vP.wide j) (by omega)).rounds
    exact Mm.means_nearest.calls K AC cC C A c (P.getD j []) _ _ W (Kd.C_below hrC hW) hcC hr hc hK)
  have HIn := Aside0.mk (fun n => cost_in hk.vC hk.vP hk.k1 hk.m2 n)
  have HFar := Aside0.mk (fun j => near_far hk.vC (hk.vP.wide j) hk.k1 hk.m2)
  clear hrP hrC he hk hm
  go_enter Try.func12, Try.ntmps12
  go_wp2_with (go_at_call 13; ((with_reducible refine HNew.out.mono ?_); rintro e w1 ⟨L, rfl, -, -, -, hb⟩; have HB0 := Aside0.mk hb; clear hb))
  go_loopw [8, 24] (fun v8 v24 wr => ∃ j : Nat, j ≤ P.length ∧ v24 = .int .i64 j ∧ v8 = .int .i64 (sumTo j (fun j => (near C (P.getD j [])).2)) ∧ Aside0 (Below w.heap.size w wr)) (fun _ v24 _ => P.length - (intOf v24).toNat)
  case atStart => exact ⟨0, Nat.zero_le _, rfl, rfl, HB0⟩
  case round =>
    obtain ⟨j, hj, rfl, rfl, HB⟩ := hrel
    have hin := HIn.out j
    by_cases hlt : j < P.length
    · obtain ⟨ad, A', c', rfl, hx, hxc, hC'⟩ := HRow.out wr HB.out j hlt
      have HN1 := Aside0.mk (fun nd => HNr.out (wr.drewN nd) (pw_below_drewN HB.out nd) j hlt A' c' (Kd.C_drewN hC' nd) hxc)
      have HN0 := Aside0.mk (HNr.out wr HB.out j hlt A' c' hC' hxc)
      have hfar := HFar.out j
      have HE := Aside0.mk (show sumTo (j + 1) (fun j => (near C (P.getD j [])).2) = sumTo j (fun j => (near C (P.getD j [])).2) + (near C (P.getD j [])).2 from rfl)
      have hin2 := HIn.out (j + 1)
      rw [HE.out] at hin2
      clear hC'
      generalize (P.getD j []).length = ml at *
      generalize (near C (P.getD j [])).2 = far at *
      generalize (near C (P.getD j [])).1 = n1 at *
      generalize sumTo j (fun j => (near C (P.getD j [])).2) = s at *
      have hw1 : Value.int .i64 (wrap64 (s + far)) = .int .i64 (s + far) := by rw [w64_in (by omega) (by omega)]
      have hw3 : wrap64 (s + far) = s + far := w64_in (by omega) (by omega)
      have hd2 : decide (s + far > 4611686018427387904) = false := decide_eq_false (by omega)
      go_wp2_with (go_at_call 33; ((with_reducible refine HN0.out.mono ?_); rintro e w3 ⟨rfl, ⟨nd, rfl⟩⟩))
      go_roundw
      case rel => exact ⟨j + 1, by omega, by go_num, by rw [HE.out], ⟨pw_below_drewN HB.out _⟩⟩
      case measure => simp [intOf]; omega
    · obtain rfl : j = P.length := by omega
      go_wp2
      go_ret2
      exact ⟨rfl, HB.out⟩
theorem Cost_bad (AP AC : Option Addr) (cP cC : Nat) (P C : List (List Int)) (w : World) (hrP : Kd.C (Kd.slice 21 (Kd.int .i32)) w AP P.length P) (hrC : Kd.C (Kd.slice 21 (Kd.int .i32)) w AC C.length C) (hcP : P.length ≤ cP) (hcC : C.length ≤ cC) (hP : P.length ≤ 1000) (hC : C.length ≤ 1000) (he : newE P C 1 ≠ 0) :
    Calls Try.prog 12 #[.slice AP P.length cP, .slice AC C.length cC] w fun e w' => e = .returned (.tuple #[.int .i64 0, .int .i64 2]) ∧ Below w.heap.size w w' := by
  have HNew := Aside0.mk (New_bad AP AC cP cC P C 1 w hrP hrC hcP hcC hP hC he)
  clear hrP hrC he
  go_enter Try.func12, Try.ntmps12
  go_wp2_with (go_at_call 13; ((with_reducible refine HNew.out.mono ?_); rintro e w1 ⟨rfl, hb⟩; have HB0 := Aside0.mk hb; clear hb))
  go_ret2
  exact ⟨rfl, HB0.out⟩
def costR (P C : List (List Int)) : Int × Int := if newE P C 1 = 0 then (costL P C, 0) else (0, 2)
theorem Cost_c (AP AC : Option Addr) (cP cC : Nat) (P C : List (List Int)) (w : World) (hrP : Kd.C (Kd.slice 21 (Kd.int .i32)) w AP P.length P) (hrC : Kd.C (Kd.slice 21 (Kd.int .i32)) w AC C.length C) (hcP : P.length ≤ cP) (hcC : C.length ≤ cC) (hP : P.length ≤ 1000) (hC : C.length ≤ 1000) (r1 r2 : Int) (hres : costR P C = (r1, r2)) :
    Calls Try.prog 12 #[.slice AP P.length cP, .slice AC C.length cC] w fun e w' => e = .returned (.tuple #[.int .i64 r1, .int .i64 r2]) ∧ Below w.heap.size w w' := by
  unfold costR at hres
  by_cases he : newE P C 1 = 0
  · rw [if_pos he] at hres
    cases hres
    exact Cost_ok AP AC cP cC P C _ w hrP hrC hcP hcC hP hC he rfl (newE_ok he)
  · rw [if_neg he] at hres
    cases hres
    exact Cost_bad AP AC cP cC P C w hrP hrC hcP hcC hP hC he
end Go.Proofs.Ytcgpkfpfpjclkaa.G
namespace Go.Proofs.Ytcgpkfpfpjclkaa.Mn
open Go.RowKit Go.Proofs.YtcgpkfpfpjclkaaW.PrintWords Go.Proofs.Ytcgpkfpfpjclkaa.G
def means_Run.f (l0 l1 : List (List Int)) (a2 : Int) : Option (List (List Int) × Int) := if l0.length ≤ 1000 ∧ l1.length ≤ 1000 then some (runL l0 l1 a2) else none
theorem means_Run.calls (A0 : Option Addr) (c0 : Nat) (l0 : List (List Int)) (A1 : Option Addr) (c1 : Nat) (l1 : List (List Int)) (a2 : Int) (r1 : List (List Int)) (r2 : Int) (w : World) (hr0 : Kd.C (Kd.slice 21 (Kd.int .i32)) w A0 l0.length l0) (hc0 : l0.length ≤ c0) (hr1 : Kd.C (Kd.slice 21 (Kd.int .i32)) w A1 l1.length l1) (hc1 : l1.length ≤ c1) (h : means_Run.f l0 l1 a2 = some (r1, r2)) :
    Calls Try.prog 10 #[.slice A0 l0.length c0, .slice A1 l1.length c1, .int .i64 a2] w fun e w' => ∃ v0_ : Value, e = .returned (.tuple #[v0_, .int .i64 r2]) ∧ Kd.R (Kd.slice 21 (Kd.int .i32)) 39 w' w.heap.size (fun _ => True) v0_ r1 ∧ Below w.heap.size w w' := by
  unfold means_Run.f at h
  split at h
  · next hl => exact Run_c A0 A1 c0 c1 l0 l1 a2 w hr0 hr1 hc0 hc1 hl.1 hl.2 r1 r2 (Option.some.inj h)
  · cases h
end Go.Proofs.Ytcgpkfpfpjclkaa.Mn
