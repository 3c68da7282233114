/- Row VecCalls: its walk. -/
import Derived.Test.YtkogapmggicanaaRef3d
import Derived.Test.YtkogapmggicanaaVecL
import Derived.Test.YtkogapmggicanaaVecSums
namespace Go.Proofs.Ytkogapmggicanaa.G
open Go.RowKit Go.Shelf Go.Proofs.YtkogapmggicanaaW.PrintWords
set_option linter.unusedVariables false
set_option linter.unusedSimpArgs false

theorem same_self (l : List Int) : sameL l l = true := by simp [sameL]
set_option maxRecDepth 100000 in
set_option maxHeartbeats 4000000 in
theorem VecCalls_calls (A0 : Option Addr) (c0 : Nat) (l0 : List Int) (A1 : Option Addr) (c1 : Nat) (l1 : List Int) (A2 : Option Addr) (c2 : Nat) (l2 : List Int) (A3 : Option Addr) (c3 : Nat) (l3 : List Int) (dim : Int) (w : World)
    (hr0 : Kd.C (Kd.int .i16) w A0 l0.length l0) (hr1 : Kd.C (Kd.int .i32) w A1 l1.length l1) (hr2 : Kd.C (Kd.int .i32) w A2 l2.length l2) (hr3 : Kd.C (Kd.int .u8) w A3 l3.length l3)
    (hw0 : ∀ x ∈ l0, (Lit.int .i16 x).wf = true) (hw1 : ∀ x ∈ l1, (Lit.int .i32 x).wf = true) (hw2 : ∀ x ∈ l2, (Lit.int .i32 x).wf = true) (hw3 : ∀ x ∈ l3, (Lit.int .u8 x).wf = true) (hwd : (Lit.int .i64 dim).wf = true)
    (hc0 : l0.length ≤ c0 ∧ c0 ≤ 9223372036854775807) (hc1 : l1.length ≤ c1 ∧ c1 ≤ 9223372036854775807) (hc2 : l2.length ≤ c2 ∧ c2 ≤ 9223372036854775807) (hc3 : l3.length ≤ c3 ∧ c3 ≤ 9223372036854775807) :
    Calls Try.prog 9 #[.slice A0 l0.length c0, .slice A1 l1.length c1, .slice A2 l2.length c2, .slice A3 l3.length c3, .int .i64 dim] w fun e w' => e = .returned (.bool true) ∧ Below w.heap.size w w' := by
  have hm0 := C_max hr0
  have hm1 := C_max hr1
  have hm2 := C_max hr2
  have hm3 := C_max hr3
  have hby : ∀ j, j < l3.length → isByte (l3.getD j 0) := fun j hj => by
    have e1 : IntKind.u8.min = 0 := by decide
    have e2 : IntKind.u8.max = 255 := by decide
    rw [List.getD_eq_getElem?_getD, List.getElem?_eq_getElem hj]
    have := hw3 _ (List.getElem_mem hj)
    simp [Lit.wf, e1, e2] at this
    unfold isByte
    simp only [Option.getD_some]
    omega
  have H0 := Aside0.mk (fun W (hB : Below w.heap.size w W) => Kd.C_below hr0 hB)
  have H1 := Aside0.mk (fun W (hB : Below w.heap.size w W) => Kd.C_below hr1 hB)
  have H2 := Aside0.mk (fun W (hB : Below w.heap.size w W) => Kd.C_below hr2 hB)
  have H3 := Aside0.mk (fun W (hB : Below w.heap.size w W) => Kd.C_below hr3 hB)
  have HBy := Aside0.mk hby
  have HC3 := Aside0.mk hc3
  clear hr0 hr1 hr2 hr3 hw0 hw1 hw2 hw3 hby hc0 hc1 hc2 hc3 hwd
  by_cases h0 : l0.length > 1100
  · have d0 : decide ((l0.length : Int) > 1100) = true := by simp; omega
    clear h0
    go_enter Try.func9, Try.ntmps9
    go_wp2_with fail
    refine (lives03_calls _).mono ?_
    rintro e w1 ⟨rfl, hb⟩
    have HB1 := Aside0.mk hb
    clear hb
    go_wp2_with fail
    go_ret
    exact ⟨rfl, HB1.out⟩
  have d0 : decide ((l0.length : Int) > 1100) = false := by simp; omega
  by_cases h1 : l1.length > 1100
  · have d1 : decide ((l1.length : Int) > 1100) = true := by simp; omega
    clear h1
    go_enter Try.func9, Try.ntmps9
    go_wp2_with fail
    refine (lives03_calls _).mono ?_
    rintro e w1 ⟨rfl, hb⟩
    have HB1 := Aside0.mk hb
    clear hb
    go_wp2_with fail
    go_ret
    exact ⟨rfl, HB1.out⟩
  have d1 : decide ((l1.length : Int) > 1100) = false := by simp; omega
  by_cases h2 : l2.length > 1100
  · have d2 : decide ((l2.length : Int) > 1100) = true := by simp; omega
    clear h2
    go_enter Try.func9, Try.ntmps9
    go_wp2_with fail
    refine (lives03_calls _).mono ?_
    rintro e w1 ⟨rfl, hb⟩
    have HB1 := Aside0.mk hb
    clear hb
    go_wp2_with fail
    go_ret
    exact ⟨rfl, HB1.out⟩
  have d2 : decide ((l2.length : Int) > 1100) = false := by simp; omega
  by_cases h3 : l3.length > 2200
  · have d3 : decide ((l3.length : Int) > 2200) = true := by simp; omega
    clear h3
    go_enter Try.func9, Try.ntmps9
    go_wp2_with fail
    refine (lives03_calls _).mono ?_
    rintro e w1 ⟨rfl, hb⟩
    have HB1 := Aside0.mk hb
    clear hb
    go_wp2_with fail
    go_ret
    exact ⟨rfl, HB1.out⟩
  have d3 : decide ((l3.length : Int) > 2200) = false := by simp; omega
  go_enter Try.func9, Try.ntmps9
  go_wp2_with fail
  have hcl := lives03_calls w
  refine hcl.mono ?_
  clear hcl
  rintro e w1 ⟨rfl, hb⟩
  have HB1 := Aside0.mk hb
  clear hb
  go_wp2_with fail
  have hcl := Dist_calls A1 c1 l1 A2 c2 l2 _ (H1.out _ HB1.out) (H2.out _ HB1.out)
  refine hcl.mono ?_
  clear hcl
  rintro e w2 ⟨rfl, hb⟩
  have HB2 := Aside0.mk (bcomp HB1.out hb)
  clear hb
  go_wp2_with fail
  have hcl := RDist_calls A1 c1 l1 A2 c2 l2 _ (H1.out _ HB2.out) (H2.out _ HB2.out)
  refine hcl.mono ?_
  clear hcl
  rintro e w3 ⟨rfl, hb⟩
  have HB3 := Aside0.mk (bcomp HB2.out hb)
  clear hb
  go_wp2_with fail
  have hcl := Own_calls A1 c1 l1 _ (H1.out _ HB3.out) (by omega)
  refine hcl.mono ?_
  clear hcl
  rintro e w4 ⟨v, rfl, hR, hb⟩
  have HB4 := Aside0.mk (bcomp HB3.out hb)
  obtain ⟨Ao, co, rfl, hlo, hCo⟩ := Kd.R_reads hR
  have HCo := Aside0.mk hCo
  clear hR hCo
  clear hb
  go_wp2_with fail
  have hcl := Sub_calls _ co l1 A2 c2 l2 _ HCo.out (H2.out _ HB4.out)
  refine hcl.mono ?_
  clear hcl
  rintro e w5 ⟨v, rfl, hR, hb⟩
  have HB5 := Aside0.mk (bcomp HB4.out hb)
  have HCo := Aside0.mk (Kd.C_below HCo.out hb)
  obtain ⟨Am, cm, rfl, hlm, hCm⟩ := Kd.R_reads hR
  have HCm := Aside0.mk hCm
  clear hR hCm
  clear hb
  go_wp2_with fail
  have hcl := RSub_calls A1 c1 l1 A2 c2 l2 _ (H1.out _ HB5.out) (H2.out _ HB5.out)
  refine hcl.mono ?_
  clear hcl
  rintro e w6 ⟨v, rfl, hR, hb⟩
  have HB6 := Aside0.mk (bcomp HB5.out hb)
  have HCm := Aside0.mk (Kd.C_below HCm.out hb)
  obtain ⟨An, cn, rfl, hln, hCn⟩ := Kd.R_reads hR
  have HCn := Aside0.mk hCn
  clear hR hCn
  clear hb
  go_wp2_with fail
  have hcl := Own_calls A1 c1 l1 _ (H1.out _ HB6.out) (by omega)
  refine hcl.mono ?_
  clear hcl
  rintro e w7 ⟨v, rfl, hR, hb⟩
  have HB7 := Aside0.mk (bcomp HB6.out hb)
  have HCm := Aside0.mk (Kd.C_below HCm.out hb)
  have HCn := Aside0.mk (Kd.C_below HCn.out hb)
  obtain ⟨Aoo, coo, rfl, hloo, hCoo⟩ := Kd.R_reads hR
  have HCoo := Aside0.mk hCoo
  clear hR hCoo
  clear hb
  go_wp2_with fail
  have hcl := Add_calls _ coo l1 A2 c2 l2 _ HCoo.out (H2.out _ HB7.out)
  refine hcl.mono ?_
  clear hcl
  rintro e w8 ⟨v, rfl, hR, hb⟩
  have HB8 := Aside0.mk (bcomp HB7.out hb)
  have HCm := Aside0.mk (Kd.C_below HCm.out hb)
  have HCn := Aside0.mk (Kd.C_below HCn.out hb)
  have HCoo := Aside0.mk (Kd.C_below HCoo.out hb)
  obtain ⟨Ap, cp, rfl, hlp, hCp⟩ := Kd.R_reads hR
  have HCp := Aside0.mk hCp
  clear hR hCp
  clear hb
  go_wp2_with fail
  have hcl := RAdd_calls A1 c1 l1 A2 c2 l2 _ (H1.out _ HB8.out) (H2.out _ HB8.out)
  refine hcl.mono ?_
  clear hcl
  rintro e w9 ⟨v, rfl, hR, hb⟩
  have HB9 := Aside0.mk (bcomp HB8.out hb)
  have HCm := Aside0.mk (Kd.C_below HCm.out hb)
  have HCn := Aside0.mk (Kd.C_below HCn.out hb)
  have HCp := Aside0.mk (Kd.C_below HCp.out hb)
  obtain ⟨Aq, cq, rfl, hlq, hCq⟩ := Kd.R_reads hR
  have HCq := Aside0.mk hCq
  clear hR hCq
  clear hb
  go_wp2_with fail
  have hcl := Read_calls A3 c3 l3 _ (H3.out _ HB9.out) HC3.out.1 HC3.out.2 (by omega) HBy.out
  refine hcl.mono ?_
  clear hcl
  rintro e w10 ⟨v, rfl, hR, hb⟩
  have HB10 := Aside0.mk (bcomp HB9.out hb)
  have HCm := Aside0.mk (Kd.C_below HCm.out hb)
  have HCn := Aside0.mk (Kd.C_below HCn.out hb)
  have HCp := Aside0.mk (Kd.C_below HCp.out hb)
  have HCq := Aside0.mk (Kd.C_below HCq.out hb)
  obtain ⟨Ar, cr, rfl, hlr, hCr⟩ := Kd.R_reads hR
  have HCr := Aside0.mk hCr
  clear hR hCr
  clear hb
  go_wp2_with fail
  have hcl := RRead_calls A3 c3 l3 _ (H3.out _ HB10.out) HC3.out.1 HBy.out
  refine hcl.mono ?_
  clear hcl
  rintro e w11 ⟨v, rfl, hR, hb⟩
  have HB11 := Aside0.mk (bcomp HB10.out hb)
  have HCm := Aside0.mk (Kd.C_below HCm.out hb)
  have HCn := Aside0.mk (Kd.C_below HCn.out hb)
  have HCp := Aside0.mk (Kd.C_below HCp.out hb)
  have HCq := Aside0.mk (Kd.C_below HCq.out hb)
  have HCr := Aside0.mk (Kd.C_below HCr.out hb)
  obtain ⟨As, cs, rfl, hls, hCs⟩ := Kd.R_reads hR
  have HCs := Aside0.mk hCs
  clear hR hCs
  clear hb
  go_wp2_with fail
  have hcl := Check_calls A0 l0.length c0 dim w11 hm0
  refine hcl.mono ?_
  clear hcl
  rintro e w12 ⟨rfl, hb⟩
  have HB12 := Aside0.mk (bcomp HB11.out hb)
  have HCm := Aside0.mk (Kd.C_below HCm.out hb)
  have HCn := Aside0.mk (Kd.C_below HCn.out hb)
  have HCp := Aside0.mk (Kd.C_below HCp.out hb)
  have HCq := Aside0.mk (Kd.C_below HCq.out hb)
  have HCr := Aside0.mk (Kd.C_below HCr.out hb)
  have HCs := Aside0.mk (Kd.C_below HCs.out hb)
  clear hb
  go_wp2_with fail
  have hcl := RCheck_calls A0 l0.length c0 dim w12 hm0
  refine hcl.mono ?_
  clear hcl
  rintro e w13 ⟨rfl, hb⟩
  have HB13 := Aside0.mk (bcomp HB12.out hb)
  have HCm := Aside0.mk (Kd.C_below HCm.out hb)
  have HCn := Aside0.mk (Kd.C_below HCn.out hb)
  have HCp := Aside0.mk (Kd.C_below HCp.out hb)
  have HCq := Aside0.mk (Kd.C_below HCq.out hb)
  have HCr := Aside0.mk (Kd.C_below HCr.out hb)
  have HCs := Aside0.mk (Kd.C_below HCs.out hb)
  clear hb
  go_wp2_with fail
  have hcl := CheckWide_calls A1 c1 l1 _ (H1.out _ HB13.out)
  refine hcl.mono ?_
  clear hcl
  rintro e w14 ⟨rfl, hb⟩
  have HB14 := Aside0.mk (bcomp HB13.out hb)
  have HCm := Aside0.mk (Kd.C_below HCm.out hb)
  have HCn := Aside0.mk (Kd.C_below HCn.out hb)
  have HCp := Aside0.mk (Kd.C_below HCp.out hb)
  have HCq := Aside0.mk (Kd.C_below HCq.out hb)
  have HCr := Aside0.mk (Kd.C_below HCr.out hb)
  have HCs := Aside0.mk (Kd.C_below HCs.out hb)
  clear hb
  go_wp2_with fail
  have hcl := RCheckWide_calls A1 c1 l1 _ (H1.out _ HB14.out)
  refine hcl.mono ?_
  clear hcl
  rintro e w15 ⟨rfl, hb⟩
  have HB15 := Aside0.mk (bcomp HB14.out hb)
  have HCm := Aside0.mk (Kd.C_below HCm.out hb)
  have HCn := Aside0.mk (Kd.C_below HCn.out hb)
  have HCp := Aside0.mk (Kd.C_below HCp.out hb)
  have HCq := Aside0.mk (Kd.C_below HCq.out hb)
  have HCr := Aside0.mk (Kd.C_below HCr.out hb)
  have HCs := Aside0.mk (Kd.C_below HCs.out hb)
  clear hb
  go_wp2_with fail
  have hcl := Wide_calls A0 c0 l0 _ (H0.out _ HB15.out) (by omega)
  refine hcl.mono ?_
  clear hcl
  rintro e w16 ⟨v, rfl, hR, hb⟩
  have HB16 := Aside0.mk (bcomp HB15.out hb)
  have HCm := Aside0.mk (Kd.C_below HCm.out hb)
  have HCn := Aside0.mk (Kd.C_below HCn.out hb)
  have HCp := Aside0.mk (Kd.C_below HCp.out hb)
  have HCq := Aside0.mk (Kd.C_below HCq.out hb)
  have HCr := Aside0.mk (Kd.C_below HCr.out hb)
  have HCs := Aside0.mk (Kd.C_below HCs.out hb)
  obtain ⟨Ax, cx, rfl, hlx, hCx⟩ := Kd.R_reads hR
  have HCx := Aside0.mk hCx
  clear hR hCx
  clear hb
  go_wp2_with fail
  have hcl := RWide_calls A0 c0 l0 _ (H0.out _ HB16.out) (by omega)
  refine hcl.mono ?_
  clear hcl
  rintro e w17 ⟨v, rfl, hR, hb⟩
  have HB17 := Aside0.mk (bcomp HB16.out hb)
  have HCm := Aside0.mk (Kd.C_below HCm.out hb)
  have HCn := Aside0.mk (Kd.C_below HCn.out hb)
  have HCp := Aside0.mk (Kd.C_below HCp.out hb)
  have HCq := Aside0.mk (Kd.C_below HCq.out hb)
  have HCr := Aside0.mk (Kd.C_below HCr.out hb)
  have HCs := Aside0.mk (Kd.C_below HCs.out hb)
  have HCx := Aside0.mk (Kd.C_below HCx.out hb)
  obtain ⟨Ay, cy, rfl, hly, hCy⟩ := Kd.R_reads hR
  have HCy := Aside0.mk hCy
  clear hR hCy
  clear hb
  go_wp2_with fail
  have hcl := Same_int32_calls _ cx _ _ cy _ _ HCx.out HCy.out
  rw [same_self] at hcl
  refine hcl.mono ?_
  clear hcl
  rintro e w18 ⟨rfl, hb⟩
  have HB18 := Aside0.mk (bcomp HB17.out hb)
  have HCm := Aside0.mk (Kd.C_below HCm.out hb)
  have HCn := Aside0.mk (Kd.C_below HCn.out hb)
  have HCp := Aside0.mk (Kd.C_below HCp.out hb)
  have HCq := Aside0.mk (Kd.C_below HCq.out hb)
  have HCr := Aside0.mk (Kd.C_below HCr.out hb)
  have HCs := Aside0.mk (Kd.C_below HCs.out hb)
  have HCx := Aside0.mk (Kd.C_below HCx.out hb)
  have HCy := Aside0.mk (Kd.C_below HCy.out hb)
  clear hb
  go_wp2_with fail
  have hcl := Same_int32_calls _ cm _ _ cn _ _ HCm.out HCn.out
  rw [same_self] at hcl
  refine hcl.mono ?_
  clear hcl
  rintro e w19 ⟨rfl, hb⟩
  have HB19 := Aside0.mk (bcomp HB18.out hb)
  have HCm := Aside0.mk (Kd.C_below HCm.out hb)
  have HCn := Aside0.mk (Kd.C_below HCn.out hb)
  have HCp := Aside0.mk (Kd.C_below HCp.out hb)
  have HCq := Aside0.mk (Kd.C_below HCq.out hb)
  have HCr := Aside0.mk (Kd.C_below HCr.out hb)
  have HCs := Aside0.mk (Kd.C_below HCs.out hb)
  clear hb
  go_wp2_with fail
  have hcl := Same_int32_calls _ cp _ _ cq _ _ HCp.out HCq.out
  rw [same_self] at hcl
  refine hcl.mono ?_
  clear hcl
  rintro e w20 ⟨rfl, hb⟩
  have HB20 := Aside0.mk (bcomp HB19.out hb)
  have HCp := Aside0.mk (Kd.C_below HCp.out hb)
  have HCq := Aside0.mk (Kd.C_below HCq.out hb)
  have HCr := Aside0.mk (Kd.C_below HCr.out hb)
  have HCs := Aside0.mk (Kd.C_below HCs.out hb)
  clear hb
  go_wp2_with fail
  have hcl := Same_int16_calls _ cr _ _ cs _ _ HCr.out HCs.out
  rw [same_self] at hcl
  refine hcl.mono ?_
  clear hcl
  rintro e w21 ⟨rfl, hb⟩
  have HB21 := Aside0.mk (bcomp HB20.out hb)
  have HCr := Aside0.mk (Kd.C_below HCr.out hb)
  have HCs := Aside0.mk (Kd.C_below HCs.out hb)
  clear hb
  go_wp2_with fail
  have hcl := Bytes_calls A0 c0 l0 _ (H0.out _ HB21.out) (by omega)
  refine hcl.mono ?_
  clear hcl
  rintro e w22 ⟨v, rfl, hR, hb⟩
  have HB22 := Aside0.mk (bcomp HB21.out hb)
  obtain ⟨At, ct, rfl, hlt, hCt⟩ := Kd.R_reads hR
  have HCt := Aside0.mk hCt
  clear hR hCt
  clear hb
  go_wp2_with fail
  have hcl := RBytes_calls A0 c0 l0 _ (H0.out _ HB22.out) (by omega)
  refine hcl.mono ?_
  clear hcl
  rintro e w23 ⟨v, rfl, hR, hb⟩
  have HB23 := Aside0.mk (bcomp HB22.out hb)
  have HCt := Aside0.mk (Kd.C_below HCt.out hb)
  obtain ⟨Au, cu, rfl, hlu, hCu⟩ := Kd.R_reads hR
  have HCu := Aside0.mk hCu
  clear hR hCu
  clear hb
  go_wp2_with fail
  have hcl := Same_byte_calls _ ct _ _ cu _ _ HCt.out HCu.out
  rw [same_self] at hcl
  refine hcl.mono ?_
  clear hcl
  rintro e w24 ⟨rfl, hb⟩
  have HB24 := Aside0.mk (bcomp HB23.out hb)
  have HCt := Aside0.mk (Kd.C_below HCt.out hb)
  have HCu := Aside0.mk (Kd.C_below HCu.out hb)
  clear hb
  go_wp2_with fail
  have hcl := VSame_calls A1 c1 l1 A2 c2 l2 _ (H1.out _ HB24.out) (H2.out _ HB24.out)
  refine hcl.mono ?_
  clear hcl
  rintro e w25 ⟨rfl, hb⟩
  have HB25 := Aside0.mk (bcomp HB24.out hb)
  clear hb
  go_wp2_with fail
  have hcl := RSame_calls A1 c1 l1 A2 c2 l2 _ (H1.out _ HB25.out) (H2.out _ HB25.out)
  refine hcl.mono ?_
  clear hcl
  rintro e w26 ⟨rfl, hb⟩
  have HB26 := Aside0.mk (bcomp HB25.out hb)
  clear hb
  go_wp2_with fail
  have hcl := Own_calls A1 c1 l1 _ (H1.out _ HB26.out) (by omega)
  refine hcl.mono ?_
  clear hcl
  rintro e w27 ⟨v, rfl, hR, hb⟩
  have HB27 := Aside0.mk (bcomp HB26.out hb)
  obtain ⟨Az, cz, rfl, hlz, hCz⟩ := Kd.R_reads hR
  have HCz := Aside0.mk hCz
  clear hR hCz
  clear hb
  go_wp2_with fail
  have hcl := VSame_calls A1 c1 l1 _ cz _ _ (H1.out _ HB27.out) HCz.out
  rw [same_self] at hcl
  refine hcl.mono ?_
  clear hcl
  rintro e w28 ⟨rfl, hb⟩
  have HB28 := Aside0.mk (bcomp HB27.out hb)
  have HCz := Aside0.mk (Kd.C_below HCz.out hb)
  clear hb
  go_wp2_with fail
  go_ret
  exact ⟨rfl, HB28.out⟩

end Go.Proofs.Ytkogapmggicanaa.G
