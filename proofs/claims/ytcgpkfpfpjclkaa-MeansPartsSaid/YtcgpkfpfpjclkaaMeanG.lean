/- MeansParts, walked. -/
import Derived.Test.YtcgpkfpfpjclkaaMeanC
namespace Go.Proofs.Ytcgpkfpfpjclkaa.G
open Go.RowKit Go.Shelf Go.Proofs.YtcgpkfpfpjclkaaW.PrintWords
set_option linter.unusedVariables false
set_option linter.unusedSimpArgs false
/-- Own points, own cents, the means, a list. -/
structure PSt (w : World) (L : Lay) (m b6 b7 b8 : Nat) (gc k cc : Nat) (Az : Option Addr) (cz : Nat) (Y : List (List Int)) (Q D : List (List Int)) (s : St) (vp : Value) (W : World) : Prop where
  p : Kd.S rowsK 39 W b6 (fun q => q < b7) vp Q
  c : Kd.S rowsK 39 W b7 (fun q => q < b8) (.slice (some ⟨gc, 0, none⟩) k cc) D
  z : rowsK.R 39 W 0 (fun q => q < b6) (.slice Az Y.length cz) Y
  m : MSt L W (s.raw m)
  lo : b8 ≤ L.lo
  l78 : b7 ≤ b8
  l67 : b6 ≤ b7
  b0 : w.heap.size ≤ b6
  bel : Below w.heap.size w W
section
variable {w : World} {L : Lay} {m b6 b7 b8 gp n cp gc k cc : Nat} {Az : Option Addr} {cz : Nat} {Y Q D : List (List Int)} {s : St} {vp : Value} {W : World}
theorem PSt.drewN (h : PSt w L m b6 b7 b8 gc k cc Az cz Y Q D s vp W) (j : Nat) : PSt w L m b6 b7 b8 gc k cc Az cz Y Q D s vp (W.drewN j) :=
  ⟨Kd.S_drewN h.p j, Kd.S_drewN h.c j, Kd.R_drewN h.z j, h.m.drewN j, h.lo, h.l78, h.l67, h.b0, pw_below_drewN h.bel j⟩
theorem PSt.stepM (h : PSt w L m b6 b7 b8 gc k cc Az cz Y Q D s vp W) {W1 : World} {s1 : St} (hm : MSt L W1 (s1.raw m)) (hf : Fr L.lo L.hi W W1) : PSt w L m b6 b7 b8 gc k cc Az cz Y Q D s1 vp W1 := by
  have h1 := h.lo
  have h2 := h.l78
  have h3 := h.l67
  have h4 := h.b0
  exact ⟨S_stepB h.p (fun q (hq : q < b7) _ hl => hf.block q hl (by omega)), S_stepB h.c (fun q (hq : q < b8) _ hl => hf.block q hl (by omega)), R_stepB h.z (fun q (hq : q < b6) _ hl => hf.block q hl (by omega)), hm, h.lo, h.l78, h.l67, h.b0, h.bel.trans (hf.below (by omega) h.bel.size)⟩
/-- The first number of an own point. -/
theorem PSt.rowp (h : PSt w L m b6 b7 b8 gc k cc Az cz Y Q D s (.slice (some ⟨gp, 0, none⟩) n cp) W) (j : Nat) (hj : j < n) (hl : 0 < (Q.getD j []).length) :
    ∃ b c, W.cell? ⟨gp, j, none⟩ = some (.slice (some ⟨b, 0, none⟩) (Q.getD j []).length c) ∧ W.frozen? ⟨b, 0, none⟩ = false ∧ W.cell? ⟨b, 0, none⟩ = some (.int .i32 ((Q.getD j []).getD 0 0)) ∧
      ∀ x, PSt w L m b6 b7 b8 gc k cc Az cz Y (Q.set j ((Q.getD j []).set 0 x)) D s (.slice (some ⟨gp, 0, none⟩) n cp) (W.setCell ⟨b, 0, none⟩ (.int .i32 x)) := by
  obtain ⟨A, c, hc, _, _, hr⟩ := S_row h.p j hj
  obtain ⟨b, cells, rfl, hok, hb, hbg, hbl, hcv, hset⟩ := hr 0 hl
  have h1 := h.lo
  have h2 := h.l78
  have h3 := h.l67
  have h4 := h.b0
  have hok : b < b7 := hok
  refine ⟨b, c, hc, blk_frozen hbl 0, hcv, fun x => ⟨hset x, S_stepB h.c (fun q _ hb2 _ => Below.heap_setCell _ _ _ _ (show q ≠ b by omega)), R_stepB h.z (fun q (hq : q < b6) _ _ => Below.heap_setCell _ _ _ _ (show q ≠ b by omega)), h.m.keep (fun q hq _ _ => Below.heap_setCell _ _ _ _ (show q ≠ b by omega)), h.lo, h.l78, h.l67, h.b0, h.bel.setCell (show w.heap.size ≤ b by omega) _⟩⟩
theorem PSt.rowc (h : PSt w L m b6 b7 b8 gc k cc Az cz Y Q D s vp W) (j : Nat) (hj : j < k) (hl : 0 < (D.getD j []).length) :
    ∃ b c, W.cell? ⟨gc, j, none⟩ = some (.slice (some ⟨b, 0, none⟩) (D.getD j []).length c) ∧ W.frozen? ⟨b, 0, none⟩ = false ∧ W.cell? ⟨b, 0, none⟩ = some (.int .i32 ((D.getD j []).getD 0 0)) ∧
      ∀ x, PSt w L m b6 b7 b8 gc k cc Az cz Y Q (D.set j ((D.getD j []).set 0 x)) s vp (W.setCell ⟨b, 0, none⟩ (.int .i32 x)) := by
  obtain ⟨A, c, hc, _, _, hr⟩ := S_row h.c j hj
  obtain ⟨b, cells, rfl, hok, hb, hbg, hbl, hcv, hset⟩ := hr 0 hl
  have h1 := h.lo
  have h2 := h.l78
  have h3 := h.l67
  have h4 := h.b0
  have hok : b < b8 := hok
  refine ⟨b, c, hc, blk_frozen hbl 0, hcv, fun x => ⟨S_stepB h.p (fun q (hq : q < b7) _ _ => Below.heap_setCell _ _ _ _ (show q ≠ b by omega)), hset x, R_stepB h.z (fun q (hq : q < b6) _ _ => Below.heap_setCell _ _ _ _ (show q ≠ b by omega)), h.m.keep (fun q hq _ _ => Below.heap_setCell _ _ _ _ (show q ≠ b by omega)), h.lo, h.l78, h.l67, h.b0, h.bel.setCell (show w.heap.size ≤ b by omega) _⟩⟩
end
set_option maxRecDepth 100000 in
set_option maxHeartbeats 8000000 in
theorem MeansParts_c (A0 A1 : Option Addr) (c0 c1 : Nat) (P C : List (List Int)) (a b : Int) (w : World) (hrP : Kd.C (Kd.slice 21 (Kd.int .i32)) w A0 P.length P) (hc0 : P.length ≤ c0) (hrC : Kd.C (Kd.slice 21 (Kd.int .i32)) w A1 C.length C) (hc1 : C.length ≤ c1) :
    Calls Try.prog 5 #[.slice A0 P.length c0, .slice A1 C.length c1, .int .i64 a, .int .i64 b] w fun e w' => e = .returned (.bool true) ∧ Below w.heap.size w w' := by
  have HLv := Aside0.mk (Mn.wayfinderlaw12_lives.calls 100 true w Mn.lives_is)
  have HRP := Aside0.mk (fun W (hW : Below w.heap.size w W) => Kd.C_below hrP hW)
  have HRC := Aside0.mk (fun W (hW : Below w.heap.size w W) => Kd.C_below hrC hW)
  obtain ⟨KL, hKL⟩ := (Mm.light_is P C (C_max hrP) (C_max hrC)).rounds
  cases hlt : (Mm.lightL P && Mm.lightL C)
  · rw [hlt] at hKL
    have HLi := Aside0.mk (fun W (hW : Below w.heap.size w W) => Mm.wayfinderlaw12_light.calls KL A0 c0 P A1 c1 C false W (HRP.out W hW) hc0 (HRC.out W hW) hc1 hKL)
    clear hrP hrC hKL hlt
    go_enter Try.func5, Try.ntmps5
    go_wp2_with (first | (go_at_call 7; ((with_reducible refine HLv.out.mono ?_); rintro e w1 ⟨rfl, hb⟩; have HB1 := Aside0.mk hb; clear hb)) | (go_at_call 8; ((with_reducible refine (HLi.out _ HB1.out).mono ?_); rintro e w2 ⟨rfl, ⟨nd, rfl⟩⟩)))
    go_ret
    exact ⟨rfl, pw_below_drewN HB1.out _⟩
  rw [hlt] at hKL
  have HLi := Aside0.mk (fun W (hW : Below w.heap.size w W) => Mm.wayfinderlaw12_light.calls KL A0 c0 P A1 c1 C true W (HRP.out W hW) hc0 (HRC.out W hW) hc1 hKL)
  have HLt : Aside0 (Mm.lightL P = true ∧ Mm.lightL C = true) := ⟨by simpa using hlt⟩
  obtain ⟨x1, hx1⟩ : ∃ x, x = a % 5 := ⟨_, rfl⟩
  obtain ⟨x2, hx2⟩ : ∃ x, x = b % 5 := ⟨_, rfl⟩
  have HPk1 := Aside0.mk (fun W => Mm.wayfinderkit_Pick.calls a 5 x1 W (by rw [hx1]; exact Pick_ex a 5 (by omega) (by omega)))
  have HPk2 := Aside0.mk (fun W => Mm.wayfinderkit_Pick.calls b 5 x2 W (by rw [hx2]; exact Pick_ex b 5 (by omega) (by omega)))
  have h1 : 0 ≤ x1 ∧ x1 ≤ 4 := by omega
  have h2 : 0 ≤ x2 ∧ x2 ≤ 4 := by omega
  clear hx1 hx2
  obtain ⟨ia, hia⟩ : ∃ ia : Nat, (ia : Int) = 1 + x1 := ⟨(1 + x1).toNat, by omega⟩
  obtain ⟨ib, hib⟩ : ∃ ib : Nat, (ib : Int) = 1 + x2 := ⟨(1 + x2).toNat, by omega⟩
  have hva : Value.int .i64 (wrap64 (1 + x1)) = .int .i64 (ia : Int) := by rw [w64_in (by omega) (by omega), hia]
  have hvb : Value.int .i64 (wrap64 (1 + x2)) = .int .i64 (ib : Int) := by rw [w64_in (by omega) (by omega), hib]
  have hia1 : 1 ≤ ia ∧ ia ≤ 5 := by omega
  have hib1 : 1 ≤ ib ∧ ib ≤ 5 := by omega
  obtain ⟨iab, hiab⟩ : ∃ iab, iab = ia + ib := ⟨_, rfl⟩
  have hvab : Value.int .i64 (wrap64 ((ia : Int) + (ib : Int))) = .int .i64 (iab : Int) := by rw [w64_in (by omega) (by omega), hiab]; simp
  have hab1 : 1 ≤ iab ∧ iab ≤ 10 := by omega
  have HAB := Aside0.mk hiab
  have hP60 := (Mm.lightL_len HLt.out.1).1
  have hC60 := (Mm.lightL_len HLt.out.2).1
  have HPr := Aside0.mk (Mm.light_rows HLt.out.1)
  have HCr := Aside0.mk (Mm.light_rows HLt.out.2)
  clear hia hib h1 h2 hrP hrC hKL hlt hiab
  have HRun := Aside0.mk (fun W (hW : Below w.heap.size w W) it r1 r2 (hres : runL P C it = (r1, r2)) => Run_c A0 A1 c0 c1 P C it W (HRP.out W hW) (HRC.out W hW) hc0 hc1 (by omega) (by omega) r1 r2 hres)
  go_enter Try.func5, Try.ntmps5
  go_wp2_with (first | (go_at_call 7; ((with_reducible refine HLv.out.mono ?_); rintro e w1 ⟨rfl, hb⟩; have HB1 := Aside0.mk hb; clear hb)) | (go_at_call 8; ((with_reducible refine (HLi.out _ HB1.out).mono ?_); rintro e w2 ⟨rfl, ⟨nd, rfl⟩⟩)) | (go_at_call 9; ((with_reducible refine (HPk1.out _).mono ?_); rintro e w3 ⟨rfl, ⟨nd3, rfl⟩⟩)) | (go_at_call 9; ((with_reducible refine (HPk2.out _).mono ?_); rintro e w3 ⟨rfl, ⟨nd4, rfl⟩⟩)))
  by_cases hE : newE P C ia = 0
  · have hok := newE_ok hE
    obtain ⟨m, hm⟩ : ∃ m, (C.getD 0 []).length = m := ⟨_, rfl⟩
    rw [hm] at hok
    obtain ⟨X, hX⟩ : ∃ X, X = rounds P ia C := ⟨_, rfl⟩
    obtain ⟨Y, hY⟩ : ∃ Y, Y = rounds P ib X := ⟨_, rfl⟩
    have hYX : Y = rounds P iab C := by rw [hY, hX, rounds_add, HAB.out]
    have hXl : X.length = C.length := by rw [hX]; exact (rounds_wid (P := P) hok.vC.len ia).2
    have hYl : Y.length = C.length := by rw [hYX]; exact (rounds_wid (P := P) hok.vC.len iab).2
    have hXok : NewOk P X ib m := by rw [hX]; exact hok.rounds_ (by omega) (by omega) ia
    have hres1 : runL P C ia = (X, 0) := by unfold runL; rw [if_pos hE, hX]; rfl
    have hres2 : runL P X ib = (Y, 0) := by unfold runL; rw [if_pos (newE_mk hXok), hY]; rfl
    have hoab : NewOk P C (iab : Int) m := hok.with_it (by omega) (by omega)
    have hEab : newE P C iab = 0 := newE_mk hoab
    have hres3 : runL P C iab = (Y, 0) := by unfold runL; rw [if_pos hEab, hYX]; rfl
    have hiabI : (iab : Int) = (ia : Int) + (ib : Int) := by rw [HAB.out]; simp
    have HABi := Aside0.mk hiabI
    rw [hiabI] at hres3
    clear hiabI
    have hYv : Mm.Val m Y := by rw [hYX]; exact rounds_val hok.vP hok.vC iab
    obtain ⟨KY, hKY⟩ := (Mm.Lists_refl Y (by omega) (fun j => by
      by_cases hj : j < Y.length
      · rw [hYv.len j hj]; have := hok.m2; omega
      · rw [List.getD_eq_getElem?_getD, List.getElem?_eq_none (by omega)]; simp)).rounds
    obtain ⟨KP, hKP⟩ := (Mm.OwnLists_is P (by omega) (fun j => by have := HPr.out j; omega)).rounds
    obtain ⟨KC, hKC⟩ := (Mm.OwnLists_is C (by omega) (fun j => by have := HCr.out j; omega)).rounds
    have HYX := Aside0.mk hYX
    have HEab := Aside0.mk hEab
    clear hEab
    have HK := Aside0.mk hoab
    have HGd := Aside0.mk (St0_good (it := iab) hoab (by omega) (by omega))
    have hk1 := hok.k1
    have hm1 := hok.m1
    have HMl := Aside0.mk (And.intro hok.vP.len hok.vC.len)
    have HXok := Aside0.mk hXok
    clear hX hY hYX hok hE hYv hXok hoab
    have HXl := Aside0.mk hXl
    have HYl := Aside0.mk hYl
    clear hXl hYl
    refine (HRun.out _ (pw_below_drewN HB1.out _) _ _ _ hres1).mono ?_
    rintro e w4 ⟨v4, rfl, hR4, hb4⟩
    obtain ⟨A4, c4, rfl⟩ := Kd.R_slice hR4
    obtain ⟨-, hc4, hC4⟩ := Kd.R_reads' hR4
    have HB4 := Aside0.mk (below_then (pw_below_drewN HB1.out _) (Below.size (pw_below_drewN HB1.out _)) hb4)
    have HRun2 := Aside0.mk (fun W (hW : Below w4.heap.size w4 W) => Run_c A0 A4 c0 c4 P X ib W (HRP.out _ (below_then HB4.out HB4.out.size hW)) (Kd.C_below hC4 hW) hc0 hc4 (by omega) (by rw [HXl.out]; omega) Y 0 hres2)
    clear hR4 hb4 hC4 hres1 hres2 HLi HLv HPk1 HPk2
    go_wp2_with fail
    refine (HRun2.out _ (by first | exact Below.refl _ _ | exact pw_below_drewN (Below.refl _ _) _)).mono ?_
    rintro e w5 ⟨v5, rfl, hR5, hb5⟩
    obtain ⟨A5, c5, rfl⟩ := Kd.R_slice hR5
    obtain ⟨-, hc5, hC5⟩ := Kd.R_reads' hR5
    have HB5 := Aside0.mk (below_then (below_then HB4.out HB4.out.size (by first | exact Below.refl _ _ | exact pw_below_drewN (Below.refl _ _) _)) (Below.size (below_then HB4.out HB4.out.size (by first | exact Below.refl _ _ | exact pw_below_drewN (Below.refl _ _) _))) hb5)
    have HC5 := Aside0.mk hC5
    clear hR5 hb5 hC5 HRun2
    go_wp2_with fail
    have HRun3 := Aside0.mk (fun W (hW : Below w5.heap.size w5 W) => HRun.out W (below_then HB5.out HB5.out.size hW) _ _ _ hres3)
    refine (HRun3.out _ (by first | exact Below.refl _ _ | exact pw_below_drewN (Below.refl _ _) _)).mono ?_
    rintro e w6 ⟨v6, rfl, hR6, hb6⟩
    obtain ⟨A6, c6, rfl⟩ := Kd.R_slice hR6
    obtain ⟨-, hc6, hC6⟩ := Kd.R_reads' hR6
    have HZ6 := Aside0.mk (Kd.R_lower (Kd.R_mono (ok' := fun q => q < w6.heap.size) (Kd.R_bound hR6) (fun q hq => hq.2.2.1)) (Nat.zero_le _))
    have hb56 : Below w5.heap.size w5 w6 := by first | exact hb6 | exact below_then (pw_below_drewN (Below.refl _ _) _) (Nat.le_refl _) hb6
    have HB6 := Aside0.mk (below_then HB5.out HB5.out.size hb56)
    have HC56 := Aside0.mk (Kd.C_below HC5.out hb56)
    have HOw := Aside0.mk (fun W (hW : Below w6.heap.size w6 W) => Mm.wayfinderkit_OwnLists_int32.calls KP A0 c0 P P W (HRP.out _ (below_then HB6.out HB6.out.size hW)) hc0 hKP)
    have HOwC := Aside0.mk (fun W (hW : Below w6.heap.size w6 W) => Mm.wayfinderkit_OwnLists_int32.calls KC A1 c1 C C W (HRC.out _ (below_then HB6.out HB6.out.size hW)) hc1 hKC)
    clear hR6 hb6 hC6 hb56 HRun3 HRun hres3
    go_wp2_with fail
    refine (HOw.out _ (by first | exact Below.refl _ _ | exact pw_below_drewN (Below.refl _ _) _)).mono ?_
    rintro e w7 ⟨v7, rfl, hS7, hb7⟩
    obtain ⟨A7, c7, rfl⟩ := Kd.S_slice hS7
    have hb67 : Below w6.heap.size w6 w7 := by first | exact hb7 | exact below_then (pw_below_drewN (Below.refl _ _) _) (Nat.le_refl _) hb7
    have HS7 := Aside0.mk (Kd.S_mono (ok' := fun q => q < w7.heap.size) (Kd.S_bound hS7) (fun q hq => hq.2.2.1))
    have HB67 := Aside0.mk hb67
    clear hS7 hb7 hb67
    go_wp2_with fail
    have HOwC7 := Aside0.mk (fun W (hW : Below w7.heap.size w7 W) => HOwC.out W (bcomp HB67.out hW))
    refine (HOwC7.out _ (by first | exact Below.refl _ _ | exact pw_below_drewN (Below.refl _ _) _)).mono ?_
    rintro e w8 ⟨v8, rfl, hS8, hb8⟩
    obtain ⟨g8, c8, e8, _, _, cells8, hbl8⟩ := Kd.S_form hS8 (by omega)
    subst e8
    have hb78 : Below w7.heap.size w7 w8 := by first | exact hb8 | exact below_then (pw_below_drewN (Below.refl _ _) _) (Nat.le_refl _) hb8
    have HS8 := Aside0.mk (Kd.S_mono (ok' := fun q => q < w8.heap.size) (Kd.S_bound hS8) (fun q hq => hq.2.2.1))
    have HS78 := Aside0.mk (Kd.S_below HS7.out hb78)
    have HB78 := Aside0.mk hb78
    have HB8 := Aside0.mk (below_then HB6.out HB6.out.size (bcomp HB67.out hb78))
    obtain ⟨-, hc7', hC7⟩ := Kd.S_reads' HS78.out
    obtain ⟨-, hc8', hC8⟩ := Kd.S_reads' HS8.out
    have HNew := Aside0.mk (fun W (hW : Below w8.heap.size w8 W) => New_ok A7 (some ⟨g8, 0, none⟩) c7 c8 P C iab m W (Kd.C_below hC7 hW) (Kd.C_below hC8 hW) hc7' hc8' (by omega) (by omega) HEab.out hm HK.out.vP HK.out.vC HK.out.m2)
    rw [HABi.out] at HNew
    clear hS8 hb8 hb78 hbl8 hC7 hC8 HOw HOwC HOwC7
    go_wp2_with fail
    refine (HNew.out _ (by first | exact Below.refl _ _ | exact pw_below_drewN (Below.refl _ _) _)).mono ?_
    rintro e w9 ⟨L, rfl, hlo, hhi, hM, hb9⟩
    have hb89 : Below w8.heap.size w8 w9 := by first | exact hb9 | exact below_then (pw_below_drewN (Below.refl _ _) _) (Nat.le_refl _) hb9
    have HP9 : Aside0 (PSt w L m w6.heap.size w7.heap.size w8.heap.size g8 C.length c8 A6 c6 Y P C (St0 P C iab) (.slice A7 P.length c7) w9) := ⟨Kd.S_below HS78.out hb89, Kd.S_below HS8.out hb89, Kd.R_below (Kd.R_below HZ6.out (bcomp HB67.out HB78.out)) hb89, hM, hlo, HB78.out.size, HB67.out.size, HB6.out.size, below_then HB8.out HB8.out.size hb89⟩
    have HC59 := Aside0.mk (Kd.C_below (Kd.C_below HC56.out (bcomp HB67.out HB78.out)) hb89)
    have HLs := Aside0.mk (fun n => Mm.wayfinderkit_Lists_int32.calls KY A5 c5 Y A6 c6 Y true (w9.drewN n) (Kd.C_drewN HC59.out n) hc5 (Kd.C_drewN (Kd.R_reads' HP9.out.z).2.2 n) hc6 hKY)
    have HLs0 := Aside0.mk (Mm.wayfinderkit_Lists_int32.calls KY A5 c5 Y A6 c6 Y true w9 HC59.out hc5 (Kd.R_reads' HP9.out.z).2.2 hc6 hKY)
    clear hlo hhi hM hb9 hb89 HNew HZ6 HS78 HS8 HS7 HC56 hc7' hc8' HC5
    go_wp2_with fail
    first | refine HLs0.out.mono ?_ | refine (HLs.out _).mono ?_
    rintro e w10 ⟨rfl, ⟨nd10, rfl⟩⟩
    have hm0 : 0 < m := hm1
    clear HLs HLs0 HC59
    go_wp2
    go_loopw [19] (fun v19 wr => ∃ (i : Nat) (Q : List (List Int)), i ≤ P.length ∧ v19 = .int .i64 i ∧ Aside0 (PSt w L m w6.heap.size w7.heap.size w8.heap.size g8 C.length c8 A6 c6 Y Q C (St0 P C iab) (.slice A7 P.length c7) wr) ∧ Aside0 (Q.length = P.length ∧ ∀ j, j < P.length → (Q.getD j []).length = m)) (fun v19 _ => P.length - (intOf v19).toNat)
    case atStart => exact ⟨0, P, Nat.zero_le _, rfl, ⟨HP9.out.drewN _⟩, ⟨rfl, HMl.out.1⟩⟩
    case round =>
      clear HP9
      obtain ⟨i, Q, hi, rfl, HP, HQ⟩ := hrel
      by_cases hlti : i < P.length
      · obtain ⟨gp, cp, ep, _⟩ := Kd.S_form HP.out.p (by rw [HQ.out.1]; omega)
        injection ep with ep1 ep2 ep3
        subst ep1
        obtain ⟨b1, cb, hcb, hfb, hvb1, hset⟩ := PSt.rowp (gp := gp) (n := P.length) (cp := c7) HP.out i hlti (by rw [HQ.out.2 i hlti]; exact hm0)
        rw [HQ.out.2 i hlti] at hcb
        have HSet := Aside0.mk hset
        have HQ2 := Aside0.mk (show ∀ x, (Q.set i ((Q.getD i []).set 0 x)).length = P.length ∧ ∀ j, j < P.length → ((Q.set i ((Q.getD i []).set 0 x)).getD j []).length = m from fun x => ⟨by rw [List.length_set]; exact HQ.out.1, fun j hj => by
          by_cases hji : j = i
          · rw [hji, List.getD_eq_getElem?_getD, List.getElem?_set_self (by rw [HQ.out.1]; exact hlti), Option.getD_some, List.length_set]
            exact HQ.out.2 i hlti
          · rw [List.getD_eq_getElem?_getD, List.getElem?_set_ne (Ne.symm hji), ← List.getD_eq_getElem?_getD]
            exact HQ.out.2 j hj⟩)
        clear hset ep2 ep3
        generalize (Q.getD i []).getD 0 0 = xv at *
        go_wp2
        go_roundw
        case rel => exact ⟨i + 1, _, by omega, by go_num, ⟨HSet.out _⟩, ⟨HQ2.out _⟩⟩
        case measure => simp [intOf]; omega
      · obtain rfl : i = P.length := by omega
        obtain ⟨b1, cb, hcb, hfb, hvb1, hset⟩ := PSt.rowc HP.out 0 (by omega) (by rw [HMl.out.2 0 (by omega)]; exact hm0)
        rw [HMl.out.2 0 (by omega)] at hcb
        have HSet := Aside0.mk hset
        have hg0 : 0 < C.length := by omega
        have HVp := Aside0.mk (And.intro HP.out.m HP.out.z)
        clear hset
        generalize (C.getD 0 []).getD 0 0 = xv at *
        obtain ⟨U, hU⟩ : ∃ U : Nat, iab * (P.length + 1) = U := ⟨_, rfl⟩
        have hUn := Mm.Units_is P.length iab (by omega) hab1.1 (by omega)
        rw [hU, HABi.out] at hUn
        have HUn := Aside0.mk (fun W => Mm.means_Units.calls (P.length : Int) ((ia : Int) + (ib : Int)) U W hUn)
        have HU := Aside0.mk hU
        have hUb : U ≤ 100000 := by rw [← hU]; exact Nat.le_trans (Nat.mul_le_mul hab1.2 (show P.length + 1 ≤ 61 by omega)) (by decide)
        clear hU hUn
        go_wp2
        generalize hwc : World.setCell wr _ _ = wc
        have HPc : Aside0 (∃ D, PSt w L m w6.heap.size w7.heap.size w8.heap.size g8 C.length c8 A6 c6 Y Q D (St0 P C iab) (.slice A7 P.length c7) wc) := ⟨by rw [← hwc]; exact ⟨_, HSet.out _⟩⟩
        clear hwc HSet hcb hfb hvb1
        obtain ⟨D, hPc⟩ := HPc.out
        have HPd := Aside0.mk hPc
        clear hPc HPc HP
        go_loopw [20] (fun v20 wr => ∃ (i : Nat) (s : St), v20 = .int .i64 i ∧ Aside0 (Inv P C iab s ∧ Good m s ∧ leftS s + i = U ∧ PSt w L m w6.heap.size w7.heap.size w8.heap.size g8 C.length c8 A6 c6 Y Q D s (.slice A7 P.length c7) wr)) (fun v20 _ => U + 1 - (intOf v20).toNat)
        case atStart => exact ⟨0, St0 P C iab, rfl, ⟨St0_inv P C iab, HGd.out, by rw [leftS_0]; exact HU.out, HPd.out⟩⟩
        case round =>
          clear HPd HVp
          obtain ⟨i, s, rfl, HS⟩ := hrel
          have hiU : i ≤ U := by have := HS.out.2.2.1; omega
          have hd1 : decide ((i : Int) ≤ (U : Int)) = true := decide_eq_true (by omega)
          by_cases hr : s.r = iab
          · have HDn := Aside0.mk (fun n => Done_c (HS.out.2.2.2.m.drewN n) true (decide_eq_true (hr.trans HS.out.1.pit.symm)))
            have HDm := Aside0.mk (fun W (hW : PSt w L m w6.heap.size w7.heap.size w8.heap.size g8 C.length c8 A6 c6 Y Q D s (.slice A7 P.length c7) W) => Cents_c hW.m HS.out.2.1)
            have hsC : s.C = Y := by rw [HS.out.1.pC, hr]; exact HYX.out.symm
            rw [hsC] at HDm
            have HLz := Aside0.mk (fun W A c (hC : Kd.C rowsK W A Y.length Y) (hc : Y.length ≤ c) (hz : Kd.C rowsK W A6 Y.length Y) => Mm.wayfinderkit_Lists_int32.calls KY A c Y A6 c6 Y true W hC hc hz hc6 hKY)
            go_wp2_with (first | (go_at_call 16; ((with_reducible refine (HUn.out _).mono ?_); rintro e w11 ⟨rfl, ⟨nd11, rfl⟩⟩)) | (go_at_call 14; ((with_reducible refine (HDn.out _).mono ?_); rintro e w12 ⟨rfl, ⟨nd12, rfl⟩⟩)))
            have HPn := Aside0.mk (fun n => HS.out.2.2.2.drewN n)
            refine (HDm.out _ (HPn.out _)).mono ?_
            rintro e w13 ⟨v13, rfl, hR13, hb13⟩
            obtain ⟨A13, c13, rfl⟩ := Kd.R_slice hR13
            obtain ⟨-, hc13, hC13⟩ := Kd.R_reads' hR13
            have HB13 := Aside0.mk (below_then (HPn.out _).bel (HPn.out _).bel.size hb13)
            have HL1 := Aside0.mk (HLz.out _ A13 c13 hC13 hc13 (Kd.R_reads' (Kd.R_below (HPn.out _).z hb13)).2.2)
            clear hR13 hb13 hC13 HDm HLz HPn HS
            go_wp2_with fail
            refine HL1.out.mono ?_
            rintro e w14 ⟨rfl, ⟨nd14, rfl⟩⟩
            go_wp2
            go_ret
            exact ⟨rfl, pw_below_drewN HB13.out _⟩
          · have hlt : s.r < iab := by have := HS.out.1.pr; omega
            have HDn := Aside0.mk (fun n => Done_c (HS.out.2.2.2.m.drewN n) false (decide_eq_false (by rw [HS.out.1.pit]; exact hr)))
            have HSt := Aside0.mk (fun n => Step_ok (HS.out.2.2.2.m.drewN n) HS.out.2.1 (by rw [HS.out.1.pit]; omega) (by rw [HS.out.1.pit]; exact hlt))
            go_wp2_with (first | (go_at_call 16; ((with_reducible refine (HUn.out _).mono ?_); rintro e w11 ⟨rfl, ⟨nd11, rfl⟩⟩)) | (go_at_call 14; ((with_reducible refine (HDn.out _).mono ?_); rintro e w12 ⟨rfl, ⟨nd12, rfl⟩⟩)))
            refine (HSt.out _).mono ?_
            rintro e w13 ⟨rfl, hM13, hF13⟩
            have HR : Aside0 (Inv P C iab (stepS s) ∧ Good m (stepS s) ∧ leftS (stepS s) + (i + 1) = U ∧ PSt w L m w6.heap.size w7.heap.size w8.heap.size g8 C.length c8 A6 c6 Y Q D (stepS s) (.slice A7 P.length c7) w13) := ⟨HS.out.1.step HS.out.2.1 hlt, HS.out.2.1.step (by omega), by
              have h1 := leftS_exact HS.out.2.1 (show s.r < s.it by rw [HS.out.1.pit]; exact hlt)
              have h2 := HS.out.2.2.1
              omega, (HS.out.2.2.2.drewN _).stepM hM13 hF13⟩
            clear hM13 hF13 HSt HDn
            go_wp2
            go_roundw
            case rel => exact ⟨i + 1, stepS s, by go_num, HR⟩
            case measure => simp [intOf]; omega
  · have hres : runL P C ia = ([], 2) := by unfold runL; rw [if_neg hE]
    refine (HRun.out _ (pw_below_drewN HB1.out _) _ _ _ hres).mono ?_
    rintro e w4 ⟨v4, rfl, hR4, hb4⟩
    obtain ⟨A4, c4, rfl⟩ := Kd.R_slice hR4
    have HB4 := Aside0.mk (below_then (pw_below_drewN HB1.out _) (Below.size (pw_below_drewN HB1.out _)) hb4)
    clear hR4 hb4 HRun hres hE
    go_wp2
    go_ret
    exact ⟨rfl, HB4.out⟩
theorem MeansParts_walk (a0 : Option Addr) (len0 cap0 : Nat) (l0 : List (List Int)) {w : World} (w0 : len0 = l0.length ∧ l0.length ≤ cap0 ∧ Kd.C (Kd.slice 21 (Kd.int .i32)) w a0 l0.length l0) (a1 : Option Addr) (len1 cap1 : Nat) (l1 : List (List Int)) (w1 : len1 = l1.length ∧ l1.length ≤ cap1 ∧ Kd.C (Kd.slice 21 (Kd.int .i32)) w a1 l1.length l1) (a2 : Int) (w2 : (Lit.int .i64 a2).wf = true) (a3 : Int) (w3 : (Lit.int .i64 a3).wf = true) (W : World) (hW : w = W) :
    Calls Try.prog 5 #[.slice a0 len0 cap0, .slice a1 len1 cap1, .int .i64 a2, .int .i64 a3] W fun e w' => e = .returned (.bool true) ∧ Below W.heap.size W w' := by
  subst hW
  obtain ⟨rfl, hc0, hr0⟩ := w0
  obtain ⟨rfl, hc1, hr1⟩ := w1
  exact MeansParts_c a0 a1 cap0 cap1 l0 l1 a2 a3 w hr0 hc0 hr1 hc1
end Go.Proofs.Ytcgpkfpfpjclkaa.G
