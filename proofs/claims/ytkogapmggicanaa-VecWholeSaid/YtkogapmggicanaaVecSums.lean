/- Row VecSums: its walk. -/
import Derived.Test.YtkogapmggicanaaSumsM
import Derived.Test.YtkogapmggicanaaVecL
import Derived.Test.YtkogapmggicanaaVecD
namespace Go.Proofs.Ytkogapmggicanaa.G
open Go.RowKit Go.Shelf Go.Proofs.YtkogapmggicanaaW.PrintWords
set_option linter.unusedVariables false
set_option linter.unusedSimpArgs false

set_option maxRecDepth 100000 in
set_option maxHeartbeats 2000000 in
theorem VecSums_calls (A0 : Option Addr) (c0 : Nat) (l0 : List Int) (A1 : Option Addr) (c1 : Nat) (l1 : List Int) (A2 : Option Addr) (c2 : Nat) (l2 : List Int) (w : World)
    (hr0 : Kd.C (Kd.int .i32) w A0 l0.length l0) (hr1 : Kd.C (Kd.int .i32) w A1 l1.length l1) (hr2 : Kd.C (Kd.int .i16) w A2 l2.length l2)
    (hw0 : ∀ x ∈ l0, (Lit.int .i32 x).wf = true) (hw1 : ∀ x ∈ l1, (Lit.int .i32 x).wf = true) (hw2 : ∀ x ∈ l2, (Lit.int .i16 x).wf = true) :
    Calls Try.prog 8 #[.slice A0 l0.length c0, .slice A1 l1.length c1, .slice A2 l2.length c2] w fun e w' => e = .returned (.bool true) ∧ Below w.heap.size w w' := by
  have hm0 := C_max hr0
  have hm1 := C_max hr1
  have hm2 := C_max hr2
  have hw : ∀ x ∈ l2, (-32768 ≤ x ∧ x ≤ 32767) := fun x hx => by
    have := hw2 x hx
    have e1 : IntKind.i16.min = -32768 := by decide
    have e2 : IntKind.i16.max = 32767 := by decide
    simp [Lit.wf, e1, e2] at this
    omega
  have H0 := Aside0.mk (fun W (hB : Below w.heap.size w W) => Kd.C_below hr0 hB)
  have H1 := Aside0.mk (fun W (hB : Below w.heap.size w W) => Kd.C_below hr1 hB)
  have H2 := Aside0.mk (fun W (hB : Below w.heap.size w W) => Kd.C_below hr2 hB)
  have HWf := Aside0.mk hw
  clear hr0 hr1 hr2 hw0 hw1 hw2 hw
  by_cases h0 : l0.length > 1100
  · have d0 : decide ((l0.length : Int) > 1100) = true := by simp; omega
    clear h0
    go_enter Try.func8, Try.ntmps8
    go_wp2_with fail
    refine (lives03_calls _).mono ?_
    rintro e w1 ⟨rfl, hb⟩
    have HB1 := Aside0.mk hb
    clear hb
    go_wp2_with fail
    go_ret
    exact ⟨rfl, HB1.out⟩
  have d0 : decide ((l0.length : Int) > 1100) = false := by simp; omega
  by_cases h1 : l1.length > 1100
  · have d1 : decide ((l1.length : Int) > 1100) = true := by simp; omega
    clear h1
    go_enter Try.func8, Try.ntmps8
    go_wp2_with fail
    refine (lives03_calls _).mono ?_
    rintro e w1 ⟨rfl, hb⟩
    have HB1 := Aside0.mk hb
    clear hb
    go_wp2_with fail
    go_ret
    exact ⟨rfl, HB1.out⟩
  have d1 : decide ((l1.length : Int) > 1100) = false := by simp; omega
  by_cases h2 : l2.length > 1024
  · have d2 : decide ((l2.length : Int) > 1024) = true := by simp; omega
    clear h2
    go_enter Try.func8, Try.ntmps8
    go_wp2_with fail
    refine (lives03_calls _).mono ?_
    rintro e w1 ⟨rfl, hb⟩
    have HB1 := Aside0.mk hb
    clear hb
    go_wp2_with fail
    go_ret
    exact ⟨rfl, HB1.out⟩
  have d2 : decide ((l2.length : Int) > 1024) = false := by simp; omega
  have HBE := Aside0.mk (read_backE l2 (by omega))
  have HBL := Aside0.mk (read_back l2 HWf.out)
  have HV := Aside0.mk (show readV (bytesOfVec l2) = l2 by unfold readV; rw [if_pos HBE.out, HBL.out])
  have hlen := Aside0.mk (bov_len l2)
  have HS2 := Aside0.mk (show sameL l2 l2 = true by simp [sameL])
  have HS0 := Aside0.mk (show sameL l0 l0 = true by simp [sameL])
  have hz : ((0 : Int) == 0) = true := rfl
  have HBy := Aside0.mk (bov_bytes l2)
  by_cases he : alongE subW l0 l1 = 0
  · obtain ⟨s1, s2, s3, s4, s5⟩ := sums he
    have hsl := Aside0.mk <| show (alongL subW l0 l1).length = l0.length by rw [(along_ok he).2.1, alongTo_length]
    generalize hgs : alongL subW l0 l1 = s at *
    have HE := Aside0.mk he
    have HGS := Aside0.mk hgs
    have S1 := Aside0.mk s1
    have S2 := Aside0.mk s2
    have S3 := Aside0.mk s3
    have S4 := Aside0.mk s4
    have S5 := Aside0.mk s5
    clear he hgs s1 s2 s3 s4 s5
    have hmk := print_make 33 21 .i32 4 Try.underlying33 info_i32 (by decide) s.length (by have := hsl.out; omega)
    go_enter Try.func8, Try.ntmps8
    go_wp2_with fail
    refine (lives03_calls _).mono ?_
    rintro e w1 ⟨rfl, hb⟩
    have HB1 := Aside0.mk hb
    clear hb
    go_wp2_with fail
    refine (Bytes_calls _ _ l2 _ (H2.out _ HB1.out) (by omega)).mono ?_
    rintro e w2 ⟨v, rfl, hR, hb⟩
    have HB2 := Aside0.mk (bcomp HB1.out hb)
    obtain ⟨A3, c3, rfl, hl3, hC3⟩ := Kd.R_reads hR
    have hc3 := R_cap hR
    have HC3 := Aside0.mk hC3
    clear hb hR hC3
    go_wp2_with fail
    have hrd := Read_calls _ c3 _ _ HC3.out hl3 hc3 (by have := hlen.out; omega) HBy.out
    rw [HV.out, HBE.out] at hrd
    refine hrd.mono ?_
    clear hrd
    rintro e w3 ⟨v, rfl, hR, hb⟩
    have HB3 := Aside0.mk (bcomp HB2.out hb)
    obtain ⟨A4, c4, rfl, hl4, hC4⟩ := Kd.R_reads hR
    have HC4 := Aside0.mk hC4
    clear hb hR hC4
    go_wp2_with fail
    refine (Same_int16_calls _ _ l2 _ _ l2 _ HC4.out (H2.out _ HB3.out)).mono ?_
    rw [HS2.out]
    rintro e w4 ⟨rfl, hb⟩
    have HB4 := Aside0.mk (bcomp HB3.out hb)
    clear hb
    go_wp2_with fail
    refine (Sub_calls _ _ l0 _ _ l1 _ (H0.out _ HB4.out) (H1.out _ HB4.out)).mono ?_
    rintro e w5 ⟨v, rfl, hR, hb⟩
    rw [HE.out]
    rw [HGS.out] at hR
    have HB5 := Aside0.mk (bcomp HB4.out hb)
    obtain ⟨A5, c5, rfl, hl5, hC5⟩ := Kd.R_reads hR
    have HC5 := Aside0.mk hC5
    clear hb hR hC5
    go_wp2_with fail
    refine (Add_calls _ _ s _ _ l1 _ HC5.out (H1.out _ HB5.out)).mono ?_
    rintro e w6 ⟨v, rfl, hR, hb⟩
    rw [S1.out]
    rw [S2.out] at hR
    have HB6 := Aside0.mk (bcomp HB5.out hb)
    have HC5b := Aside0.mk (Kd.C_below HC5.out hb)
    obtain ⟨A6, c6, rfl, hl6, hC6⟩ := Kd.R_reads hR
    have HC6 := Aside0.mk hC6
    clear hb hR hC6
    go_wp2_with fail
    refine (Dist_calls _ _ l0 _ _ l1 _ (H0.out _ HB6.out) (H1.out _ HB6.out)).mono ?_
    rintro e w7 ⟨rfl, hb⟩
    rw [S3.out]
    have HB7 := Aside0.mk (bcomp HB6.out hb)
    have HC5c := Aside0.mk (Kd.C_below HC5b.out hb)
    have HC6b := Aside0.mk (Kd.C_below HC6.out hb)
    clear hb
    have hmade := R_C (R_nums (own_made w7 w7.heap.size 21 .i32 s.length (Nat.le_refl _) (by have := hsl.out; omega)) (List.length_replicate))
    rw [List.length_replicate] at hmade
    have HM := Aside0.mk hmade.1
    have HAl := Aside0.mk ((Below.refl w7.heap.size w7).alloc (Nat.le_refl _) (.cells (madeCells #[.int .i32 0] s.length) 21))
    clear hmade
    go_wp2_with fail
    have hDz := Dist_calls A5 c5 s (some ⟨w7.heap.size, 0, none⟩) s.length (List.replicate s.length 0) (w7.alloc (.cells (madeCells #[.int .i32 0] s.length) 21)) (Kd.C_below HC5c.out HAl.out) (by rw [List.length_replicate]; exact HM.out)
    rw [S4.out, S5.out, List.length_replicate] at hDz
    refine hDz.mono ?_
    rintro e w8 ⟨rfl, hb⟩
    have HB8' := Aside0.mk (bcompN HAl.out rfl hb)
    have HB8 := Aside0.mk (bcomp HB7.out HB8'.out)
    have HC6c := Aside0.mk (Kd.C_below HC6b.out HB8'.out)
    clear hb hDz
    have hqq : (distV l0 l1 == distV l0 l1) = true := by simp
    go_wp2_with fail
    refine (Same_int32_calls _ _ l0 _ _ l0 _ HC6c.out (H0.out _ HB8.out)).mono ?_
    rw [HS0.out]
    rintro e w9 ⟨rfl, hb⟩
    have HB9 := Aside0.mk (bcomp HB8.out hb)
    clear hb
    go_wp2_with fail
    go_ret
    exact ⟨rfl, HB9.out⟩
  · have hne : (alongE subW l0 l1 != 0) = true := by simpa using he
    have HGS := Aside0.mk (show alongL subW l0 l1 = [] by simp [alongL, he])
    clear he
    generalize hge : alongE subW l0 l1 = E at *
    have HGE := Aside0.mk hge
    clear hge
    go_enter Try.func8, Try.ntmps8
    go_wp2_with fail
    refine (lives03_calls _).mono ?_
    rintro e w1 ⟨rfl, hb⟩
    have HB1 := Aside0.mk hb
    clear hb
    go_wp2_with fail
    refine (Bytes_calls _ _ l2 _ (H2.out _ HB1.out) (by omega)).mono ?_
    rintro e w2 ⟨v, rfl, hR, hb⟩
    have HB2 := Aside0.mk (bcomp HB1.out hb)
    obtain ⟨A3, c3, rfl, hl3, hC3⟩ := Kd.R_reads hR
    have hc3 := R_cap hR
    have HC3 := Aside0.mk hC3
    clear hb hR hC3
    go_wp2_with fail
    have hrd := Read_calls _ c3 _ _ HC3.out hl3 hc3 (by have := hlen.out; omega) HBy.out
    rw [HV.out, HBE.out] at hrd
    refine hrd.mono ?_
    clear hrd
    rintro e w3 ⟨v, rfl, hR, hb⟩
    have HB3 := Aside0.mk (bcomp HB2.out hb)
    obtain ⟨A4, c4, rfl, hl4, hC4⟩ := Kd.R_reads hR
    have HC4 := Aside0.mk hC4
    clear hb hR hC4
    go_wp2_with fail
    refine (Same_int16_calls _ _ l2 _ _ l2 _ HC4.out (H2.out _ HB3.out)).mono ?_
    rw [HS2.out]
    rintro e w4 ⟨rfl, hb⟩
    have HB4 := Aside0.mk (bcomp HB3.out hb)
    clear hb
    go_wp2_with fail
    refine (Sub_calls _ _ l0 _ _ l1 _ (H0.out _ HB4.out) (H1.out _ HB4.out)).mono ?_
    rintro e w5 ⟨v, rfl, hR, hb⟩
    rw [HGE.out]
    rw [HGS.out] at hR
    have HB5 := Aside0.mk (bcomp HB4.out hb)
    obtain ⟨A5, c5, rfl, hl5, hC5⟩ := Kd.R_reads hR
    clear hb hR hC5
    simp only [List.length_nil]
    go_wp2_with fail
    go_ret
    exact ⟨rfl, HB5.out⟩

end Go.Proofs.Ytkogapmggicanaa.G
