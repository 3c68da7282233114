/- MeansStays, walked. -/
import Derived.Test.YtcgpkfpfpjclkaaMeanD
namespace Go.Proofs.Ytcgpkfpfpjclkaa.G
open Go.RowKit Go.Shelf Go.Proofs.YtcgpkfpfpjclkaaW.PrintWords
set_option linter.unusedVariables false
set_option linter.unusedSimpArgs false
theorem info_slI : (Try.prog.info? 39).map (fun i => (i.zero, i.size, i.bytes)) = some (some (.slice none 0 0), 1, 24) := by kernel_rfl
theorem stepN_le {m : Nat} {s : St} : stepN m s ≤ (s.C.length + 1) * m := by
  unfold stepN
  rw [Nat.add_mul, Nat.one_mul]
  split <;> omega
theorem leftS_end {s : St} (h : s.r = s.it) : leftS s = 0 := by unfold leftS; rw [h]; simp
theorem take_turn {P : List (List Int)} {b i : Nat} (hi : i < P.length) : (turned P b).take (i + 1) = (turned P b).take i ++ [P.getD ((i + b) % P.length) []] := by
  rw [List.take_succ_eq_append_getElem (by rw [turned_len]; exact hi)]
  have h := turned_at (b := b) hi
  rw [List.getD_eq_getElem?_getD, List.getElem?_eq_getElem (by rw [turned_len]; exact hi), Option.getD_some] at h
  rw [h]
set_option maxRecDepth 100000 in
set_option maxHeartbeats 8000000 in
theorem MeansStays_c (A0 A1 : Option Addr) (c0 c1 : Nat) (P C : List (List Int)) (a t : Int) (w : World) (hrP : Kd.C (Kd.slice 21 (Kd.int .i32)) w A0 P.length P) (hc0 : P.length ≤ c0) (hrC : Kd.C (Kd.slice 21 (Kd.int .i32)) w A1 C.length C) (hc1 : C.length ≤ c1) :
    Calls Try.prog 4 #[.slice A0 P.length c0, .slice A1 C.length c1, .int .i64 a, .int .i64 t] w fun e w' => e = .returned (.bool true) ∧ Below w.heap.size w w' := by
  have HLv := Aside0.mk (Mn.wayfinderlaw12_lives.calls 100 true w Mn.lives_is)
  have HRP := Aside0.mk (fun W (hW : Below w.heap.size w W) => Kd.C_below hrP hW)
  have HRC := Aside0.mk (fun W (hW : Below w.heap.size w W) => Kd.C_below hrC hW)
  obtain ⟨KL, hKL⟩ := (Mm.light_is P C (C_max hrP) (C_max hrC)).rounds
  cases hlt : (Mm.lightL P && Mm.lightL C)
  · rw [hlt] at hKL
    have HLi := Aside0.mk (fun W (hW : Below w.heap.size w W) => Mm.wayfinderlaw12_light.calls KL A0 c0 P A1 c1 C false W (HRP.out W hW) hc0 (HRC.out W hW) hc1 hKL)
    clear hrP hrC hKL hlt
    go_enter Try.func4, Try.ntmps4
    go_wp2_with (first | (go_at_call 7; ((with_reducible refine HLv.out.mono ?_); rintro e w1 ⟨rfl, hb⟩; have HB1 := Aside0.mk hb; clear hb)) | (go_at_call 8; ((with_reducible refine (HLi.out _ HB1.out).mono ?_); rintro e w2 ⟨rfl, ⟨nd, rfl⟩⟩)))
    go_ret
    exact ⟨rfl, pw_below_drewN HB1.out _⟩
  rw [hlt] at hKL
  have HLi := Aside0.mk (fun W (hW : Below w.heap.size w W) => Mm.wayfinderlaw12_light.calls KL A0 c0 P A1 c1 C true W (HRP.out W hW) hc0 (HRC.out W hW) hc1 hKL)
  have HLt : Aside0 (Mm.lightL P = true ∧ Mm.lightL C = true) := ⟨by simpa using hlt⟩
  obtain ⟨x1, hx1⟩ : ∃ x, x = a % 6 := ⟨_, rfl⟩
  have HPk1 := Aside0.mk (fun W => Mm.wayfinderkit_Pick.calls a 6 x1 W (by rw [hx1]; exact Pick_ex a 6 (by omega) (by omega)))
  have h1 : 0 ≤ x1 ∧ x1 ≤ 5 := by omega
  obtain ⟨y, hy⟩ : ∃ y : Nat, (y : Int) = t % 60 := ⟨(t % 60).toNat, by omega⟩
  have HPk2 := Aside0.mk (fun W => Mm.wayfinderkit_Pick.calls t 60 y W (by rw [hy]; exact Pick_ex t 60 (by omega) (by omega)))
  have hy60 : y < 60 := by omega
  clear hx1 hy
  obtain ⟨ia, hia⟩ : ∃ ia : Nat, (ia : Int) = 1 + x1 := ⟨(1 + x1).toNat, by omega⟩
  have hva : Value.int .i64 (wrap64 (1 + x1)) = .int .i64 (ia : Int) := by rw [w64_in (by omega) (by omega), hia]
  have hia1 : 1 ≤ ia ∧ ia ≤ 6 := by omega
  have hP60 := (Mm.lightL_len HLt.out.1).1
  have hC60 := (Mm.lightL_len HLt.out.2).1
  have HCr := Aside0.mk (Mm.light_rows HLt.out.2)
  clear hia h1 hrP hrC hKL hlt
  have HNb := Aside0.mk (fun W (hW : Below w.heap.size w W) (he : newE P C ia ≠ 0) => New_bad A0 A1 c0 c1 P C ia W (HRP.out W hW) (HRC.out W hW) hc0 hc1 (by omega) (by omega) he)
  have HNo := Aside0.mk (fun W (hW : Below w.heap.size w W) m (he : newE P C ia = 0) (hm : (C.getD 0 []).length = m) (hk : NewOk P C ia m) => New_ok A0 A1 c0 c1 P C ia m W (HRP.out W hW) (HRC.out W hW) hc0 hc1 (by omega) (by omega) he hm hk.vP hk.vC hk.m2)
  go_enter Try.func4, Try.ntmps4
  go_wp2_with (first | (go_at_call 7; ((with_reducible refine HLv.out.mono ?_); rintro e w1 ⟨rfl, hb⟩; have HB1 := Aside0.mk hb; clear hb)) | (go_at_call 8; ((with_reducible refine (HLi.out _ HB1.out).mono ?_); rintro e w2 ⟨rfl, ⟨nd, rfl⟩⟩)) | (go_at_call 9; ((with_reducible refine (HPk1.out _).mono ?_); rintro e w3 ⟨rfl, ⟨nd3, rfl⟩⟩)))
  by_cases hE : newE P C ia = 0
  · have hok := newE_ok hE
    obtain ⟨m, hm⟩ : ∃ m, (C.getD 0 []).length = m := ⟨_, rfl⟩
    rw [hm] at hok
    have HK := Aside0.mk hok
    have hm20 : m ≤ 20 := by rw [← hm]; exact HCr.out 0
    have hk1 := hok.k1
    have hm1 := hok.m1
    have hN := fun W hW => HNo.out W hW m hE hm hok
    obtain ⟨U, hU⟩ : ∃ U : Nat, ia * (P.length + 1) = U := ⟨_, rfl⟩
    have hU366 : U ≤ 366 := by rw [← hU]; exact Nat.le_trans (Nat.mul_le_mul hia1.2 (show P.length + 1 ≤ 61 by omega)) (by decide)
    have HUn := Aside0.mk (fun W => Mm.means_Units.calls (P.length : Int) (ia : Int) U W (by rw [← hU]; exact Mm.Units_is P.length ia (by omega) hia1.1 (by omega)))
    have hpr : wrap64 ((ia : Int) * ((P.length : Int) + 1)) = (U : Int) := by
      have e : (ia : Int) * ((P.length : Int) + 1) = (U : Int) := by rw [← hU]; simp
      rw [e, w64_in (by omega) (by omega)]
    have hd5 : ((U : Int) != wrap64 ((ia : Int) * ((P.length : Int) + 1))) = false := by rw [hpr]; simp
    have hpk : wrap64 (((C.length : Int) + 1) * (m : Int)) = (((C.length + 1) * m : Nat) : Int) := by
      have e : ((C.length : Int) + 1) * (m : Int) = (((C.length + 1) * m : Nat) : Int) := by simp
      have hb : (C.length + 1) * m ≤ 61 * 20 := Nat.mul_le_mul (by omega) hm20
      rw [e, w64_in (by omega) (by omega)]
    have HPk := Aside0.mk hpk
    have HU := Aside0.mk hU
    have HGd := Aside0.mk (St0_good (it := ia) hok (by omega) (by omega))
    obtain ⟨aC, A0c, c0c, hAC, hx0, _, _⟩ := rows_get (HRC.out w (Below.refl _ _)) 0 (by omega)
    have ha0 : aC.add 0 = aC := by simp [Addr.add]
    rw [ha0, hm] at hx0
    have HX0 := Aside0.mk (fun Z (hZ : Below w.heap.size w Z) => pw_cell_below hZ hx0)
    subst hAC
    clear hok hpr hpk hU hx0 HNb HNo HCr
    refine (hN _ (pw_below_drewN HB1.out _)).mono ?_
    rintro e w4 ⟨L, rfl, hlo, hhi, hM, hb⟩
    have HB4 := Aside0.mk (below_then (pw_below_drewN HB1.out _) (Below.size (pw_below_drewN HB1.out _)) hb)
    have HM4 := Aside0.mk hM
    have HL := Aside0.mk (show w.heap.size ≤ L.lo by have := HB1.out.size; exact Nat.le_trans this hlo)
    clear hN hlo hhi hM hb HLi HLv HPk1
    go_wp2_with fail
    go_loopw [11] (fun v11 wr => ∃ (i : Nat) (s : St), v11 = .int .i64 i ∧ Aside0 (Inv P C ia s ∧ Good m s ∧ leftS s + i = U ∧ MSt L wr (s.raw m) ∧ Fr L.lo L.hi w4 wr)) (fun v11 _ => U + 1 - (intOf v11).toNat)
    case atStart => exact ⟨0, St0 P C ia, rfl, ⟨St0_inv P C ia, HGd.out, by rw [leftS_0]; exact HU.out, HM4.out, Fr.refl _ _ _⟩⟩
    case round =>
      clear HM4 HGd
      obtain ⟨i, s, rfl, HS⟩ := hrel
      have hiU : i ≤ U := by have := HS.out.2.2.1; omega
      have hd1 : decide ((i : Int) ≤ 400) = true := decide_eq_true (by omega)
      have HBr := Aside0.mk (HB4.out.trans (HS.out.2.2.2.2.below HL.out HB4.out.size))
      by_cases hr : s.r = ia
      · have hri : s.r = s.it := hr.trans HS.out.1.pit.symm
        have hiU : i = U := by have h1 := HS.out.2.2.1; rw [leftS_end hri] at h1; omega
        subst hiU
        have HDn := Aside0.mk (fun n => Done_c (HS.out.2.2.2.1.drewN n) true (decide_eq_true hri))
        have HD0 := Aside0.mk (Done_c HS.out.2.2.2.1 true (decide_eq_true hri))
        have hsC : s.C = rounds P ia C := by rw [HS.out.1.pC, hr]
        have HCe := Aside0.mk (fun n => Cents_c (HS.out.2.2.2.1.drewN n) HS.out.2.1)
        rw [hsC] at HCe
        obtain ⟨Y, hY⟩ : ∃ Y, Y = rounds P ia C := ⟨_, rfl⟩
        rw [← hY] at HCe
        have HYe := Aside0.mk hY
        clear hY hsC
        go_wp2_with (first | (go_at_call 14; ((with_reducible refine HD0.out.mono ?_); rintro e w12 ⟨rfl, ⟨nd12, rfl⟩⟩)) | (go_at_call 16; ((with_reducible refine (HUn.out _).mono ?_); rintro e w11 ⟨rfl, ⟨nd11, rfl⟩⟩)))
        refine (HCe.out _).mono ?_
        rintro e w13 ⟨v13, rfl, hR13, hb13⟩
        obtain ⟨A13, c13, rfl⟩ := Kd.R_slice hR13
        obtain ⟨-, hc13, hC13⟩ := Kd.R_reads' hR13
        have HB13 := Aside0.mk (below_then (pw_below_drewN HBr.out _) (Below.size (pw_below_drewN HBr.out _)) hb13)
        have HC13 := Aside0.mk hC13
        clear hR13 hb13 hC13 HCe HDn HD0 HS HBr
        go_wp2_with fail
        go_loopw [15, 16] (fun v15 v16 wr2 => ∃ (j : Nat) (hs : List H3), j ≤ P.length ∧ v16 = .int .i64 j ∧ Aside0 (wr2.ownsRow w13.heap.size 39 1 v15 hs.length (encs encH hs)) ∧ Aside0 (Hdr w13 hs ((turned P y).take j)) ∧ Aside0 (Below w13.heap.size w13 wr2)) (fun _ v16 _ => P.length - (intOf v16).toNat)
        case atStart => exact ⟨0, [], Nat.zero_le _, rfl, ⟨own_nil _ _ _ _⟩, ⟨Hdr.nil _⟩, ⟨Below.refl _ _⟩⟩
        case round =>
          obtain ⟨j, hs, hj, rfl, HO, HH, HB⟩ := hrel
          have hhl : hs.length ≤ 1000 := by rw [HH.out.1, List.length_take]; omega
          by_cases hltj : j < P.length
          · have hq : (j + y) % P.length < P.length := Nat.mod_lt _ (by omega)
            have HTk := Aside0.mk (take_turn (b := y) hltj)
            obtain ⟨q, hqe⟩ : ∃ q, q = (j + y) % P.length := ⟨_, rfl⟩
            rw [← hqe] at hq HTk
            have HPk3 := Aside0.mk (fun W => Mm.wayfinderkit_Pick.calls ((j : Int) + (y : Int)) (P.length : Int) (q : Int) W (by rw [Pick_ex _ _ (by omega) (by omega), hqe]; rfl))
            obtain ⟨ad, A', c', rfl, hx, hxc, hC'⟩ := rows_get (HRP.out w13 HB13.out) q hq
            have hx := pw_cell_below HB.out hx
            have HH1 := Aside0.mk (HH.out.append (hdr_one hC' hxc))
            have HOn := Aside0.mk (fun n => pw_own_below HO.out (pw_below_drewN (Below.refl _ _) n))
            have HBn := Aside0.mk (fun n => pw_below_drewN HB.out n)
            have HLim := Aside0.mk (show (hs.length + 1) * 24 ≤ 140737488355328 by omega)
            rw [← HTk.out] at HH1
            clear hC' hqe HO HB HH
            generalize (P.getD q []).length = lq at *
            go_wp2_with (first | (go_at_call 9; ((with_reducible refine (HPk2.out _).mono ?_); rintro e w15 ⟨rfl, ⟨nd15, rfl⟩⟩)) | (go_at_call 9; ((with_reducible refine (HPk3.out _).mono ?_); rintro e w15 ⟨rfl, ⟨nd16, rfl⟩⟩)) | (at_builtin; refine print_append_of (w0 := w13) encH w13.heap.size rfl (.tmp 99) (.tmp 110) 22 39 (.slice none 0 0) 24 rfl Try.underlying22 info_slI rfl (by decide) _ hs (A', lq, c') rfl rfl (encH1 _) (HOn.out _) (HBn.out _) (HBn.out _).size HLim.out ?_; intro v1 w3 ho hb hg hat; have HO3 := Aside0.mk ho; have HB3 := Aside0.mk hb; clear ho hb hg hat))
            go_roundw
            case rel => exact ⟨j + 1, _, by omega, by go_num, HO3, HH1, HB3⟩
            case measure => simp [intOf]; omega
          · obtain rfl : j = P.length := by omega
            rw [List.take_of_length_le (by rw [turned_len]; omega)] at HH
            obtain ⟨AT, cT, eT, hcT, hRT⟩ := own_reads_of_le (d := d3) HO.out
            have hl : hs.length = P.length := by rw [HH.out.1, turned_len]
            have hCT : Kd.C rowsK wr AT (turned P y).length (turned P y) := by
              have h9 := C_of_hdr hRT (HH.out.below HB.out)
              rw [hl] at h9
              rw [turned_len]
              exact h9
            rw [hl] at eT hcT
            subst eT
            have hTok : NewOk (turned P y) C ia m := ⟨HK.out.i1, HK.out.i2, HK.out.k1, HK.out.m1, HK.out.m2, HK.out.vC, turned_val HK.out.vP⟩
            have hresT : runL (turned P y) C ia = (Y, 0) := by
              unfold runL
              rw [if_pos (newE_mk hTok), HYe.out]
              show (rounds (turned P y) ia C, (0 : Int)) = _
              rw [rounds_turn]
            have hTl := turned_len P y
            have HB2 := Aside0.mk (below_then HB13.out HB13.out.size HB.out)
            have hRn := fun W (hW : Below wr.heap.size wr W) => Run_c AT (some aC) cT c1 (turned P y) C ia W (Kd.C_below hCT hW) (HRC.out W (below_then HB2.out HB2.out.size hW)) (by rw [hTl]; exact hcT) hc1 (by rw [hTl]; omega) (by omega) Y 0 hresT
            simp only [hTl] at hRn
            have HRn := Aside0.mk hRn
            have HC13r := Aside0.mk (Kd.C_below HC13.out HB.out)
            have hYl : Y.length = C.length := by rw [HYe.out]; exact (rounds_wid (P := P) HK.out.vC.len ia).2
            have hYw : ∀ j, j < Y.length → (Y.getD j []).length = m := by rw [HYe.out]; exact (rounds_wid (P := P) HK.out.vC.len ia).1
            obtain ⟨KY, hKY⟩ := (Mm.Lists_refl Y (by omega) (fun j => by
              by_cases hj : j < Y.length
              · rw [hYw j hj]; omega
              · rw [List.getD_eq_getElem?_getD, List.getElem?_eq_none (by omega)]; simp)).rounds
            have HYw := Aside0.mk hYw
            have hd6 : ((Y.length : Int) != (C.length : Int)) = false := by rw [hYl]; simp
            have HYl := Aside0.mk hYl
            clear hRn hTl hresT hTok hCT hRT hl hcT HH HO HC13 hYw hYl hj hhl hltj HPk2
            go_wp2_with fail
            refine (HRn.out _ (by first | exact Below.refl _ _ | exact pw_below_drewN (Below.refl _ _) _)).mono ?_
            rintro e w20 ⟨v20, rfl, hR20, hb20⟩
            obtain ⟨A20, c20, rfl⟩ := Kd.R_slice hR20
            obtain ⟨-, hc20, hC20⟩ := Kd.R_reads' hR20
            have hb2 : Below wr.heap.size wr w20 := by first | exact hb20 | exact below_then (pw_below_drewN (Below.refl _ _) _) (Nat.le_refl _) hb20
            have HB20 := Aside0.mk (below_then HB2.out HB2.out.size hb2)
            have HCl := Aside0.mk (Kd.C_below HC13r.out hb2)
            have HLs := Aside0.mk (Mm.wayfinderkit_Lists_int32.calls KY A20 c20 Y A13 c13 Y true w20 hC20 hc20 HCl.out hc13 hKY)
            have HCc := Aside0.mk (HRC.out w20 HB20.out)
            have HCp := Aside0.mk (HRP.out w20 HB20.out)
            clear hR20 hb20 hC20 hb2 HRn HC13r HB2 HB
            go_wp2_with fail
            refine HLs.out.mono ?_
            rintro e w21 ⟨rfl, ⟨nd21, rfl⟩⟩
            clear HLs
            go_wp2
            go_loopw [19] (fun v19 wr3 => ∃ (i3 n3 : Nat), i3 ≤ Y.length ∧ v19 = .int .i64 i3 ∧ wr3 = w20.drewN n3) (fun v19 _ => Y.length - (intOf v19).toNat)
            case atStart => exact ⟨0, _, Nat.zero_le _, rfl, by first | rfl | exact World.drewN_drewN _ _ _⟩
            case round =>
              obtain ⟨i3, n3, hi3, rfl, rfl⟩ := hrel
              have hYl := HYl.out
              by_cases hlt3 : i3 < Y.length
              · have hltC : i3 < C.length := by omega
                obtain ⟨ad13, Al, cl, e13, hxl, _, hCl⟩ := rows_get HCl.out i3 hlt3
                obtain ⟨aC', Ac, cc, ec, hxc, _, hCc⟩ := rows_get HCc.out i3 hltC
                cases ec
                subst e13
                rw [HYw.out i3 hlt3] at hxl hCl
                rw [HK.out.vC.len i3 hltC] at hxc hCc
                have HCl3 := Aside0.mk (C_ints hCl)
                have HCc3 := Aside0.mk (C_ints hCc)
                clear hCl hCc hYl
                go_wp2
                go_quiet (fail)
                go_wp2
                go_loopw [20] (fun v20 wr4 => ∃ (k4 n4 : Nat), k4 ≤ m ∧ v20 = .int .i64 k4 ∧ wr4 = w20.drewN n4) (fun v20 _ => m - (intOf v20).toNat)
                case atStart => exact ⟨0, _, Nat.zero_le _, rfl, by first | rfl | exact World.drewN_drewN _ _ _⟩
                case round =>
                  obtain ⟨k4, n4, hk4, rfl, rfl⟩ := hrel
                  by_cases hlt4 : k4 < m
                  · obtain ⟨al, eal, hvl⟩ := HCl3.out k4 hlt4
                    obtain ⟨ac, eac, hvc⟩ := HCc3.out k4 hlt4
                    subst eal
                    subst eac
                    have HBd := Aside0.mk (rounds_bounds (P := P) HK.out.vC.len hltC hlt4 ia)
                    rw [← HYe.out] at HBd
                    replace hvl : w20.cell? (al.add k4) = some (.int .i32 (at2 Y i3 k4)) := hvl
                    replace hvc : w20.cell? (ac.add k4) = some (.int .i32 (at2 C i3 k4)) := hvc
                    generalize at2 C i3 k4 = cik at *
                    generalize at2 Y i3 k4 = yik at *
                    go_wp2
                    go_quiet (fail)
                    go_wp2
                    go_loopw [21, 22, 23] (fun v21 v22 v23 wr5 => ∃ (j5 n5 : Nat), j5 ≤ P.length ∧ v23 = .int .i64 j5 ∧ v21 = .int .i32 (lowTo P cik k4 j5) ∧ v22 = .int .i32 (highTo P cik k4 j5) ∧ wr5 = w20.drewN n5) (fun _ _ v23 _ => P.length - (intOf v23).toNat)
                    case atStart => exact ⟨0, _, Nat.zero_le _, rfl, rfl, rfl, by first | rfl | exact World.drewN_drewN _ _ _⟩
                    case round =>
                      obtain ⟨j5, n5, hj5, rfl, rfl, rfl, rfl⟩ := hrel
                      by_cases hlt5 : j5 < P.length
                      · obtain ⟨adP, Ap, cp, eP, hxp, _, hCp⟩ := rows_get HCp.out j5 hlt5
                        subst eP
                        rw [HK.out.vP.len j5 hlt5] at hxp hCp
                        obtain ⟨ap, eap, hvp⟩ := C_ints hCp k4 hlt4
                        subst eap
                        replace hvp : w20.cell? (ap.add k4) = some (.int .i32 (at2 P j5 k4)) := hvp
                        have HE1 := Aside0.mk (show lowTo P cik k4 (j5 + 1) = min (lowTo P cik k4 j5) (at2 P j5 k4) from rfl)
                        have HE2 := Aside0.mk (show highTo P cik k4 (j5 + 1) = max (highTo P cik k4 j5) (at2 P j5 k4) from rfl)
                        clear hCp
                        generalize lowTo P cik k4 j5 = lo5 at *
                        generalize highTo P cik k4 j5 = hi5 at *
                        generalize at2 P j5 k4 = pjk at *
                        have hmin := fun ats ty W => run_min .i32 lo5 pjk ats ty W
                        have hmax := fun ats ty W => run_max .i32 hi5 pjk ats ty W
                        go_wp2
                        go_quiet (fail)
                        go_wp2
                        go_roundw
                        case rel => exact ⟨j5 + 1, _, by omega, by go_num, by rw [HE1.out], by rw [HE2.out], by first | rfl | exact World.drewN_drewN _ _ _⟩
                        case measure => simp [intOf]; omega
                      · obtain rfl : j5 = P.length := by omega
                        have hd8 : decide (yik < lowTo P cik k4 P.length) = false := decide_eq_false (by have := HBd.out.1; omega)
                        have hd9 : decide (yik > highTo P cik k4 P.length) = false := decide_eq_false (by have := HBd.out.2; omega)
                        generalize lowTo P cik k4 P.length = lo5 at *
                        generalize highTo P cik k4 P.length = hi5 at *
                        go_wp2
                        go_roundw
                        case rel => exact ⟨k4 + 1, _, by omega, by go_num, rfl⟩
                        case measure => simp [intOf]; omega
                  · obtain rfl : k4 = m := by omega
                    go_wp2
                    go_roundw
                    case rel => exact ⟨i3 + 1, _, by omega, by go_num, rfl⟩
                    case measure => simp [intOf]; omega
              · obtain rfl : i3 = Y.length := by omega
                clear hYl
                go_wp2
                go_ret
                exact ⟨rfl, pw_below_drewN HB20.out _⟩
      · have hlt : s.r < ia := by have := HS.out.1.pr; omega
        have hit : s.r < s.it := by rw [HS.out.1.pit]; exact hlt
        have HD0 := Aside0.mk (Done_c HS.out.2.2.2.1 false (decide_eq_false (by omega)))
        have HSt := Aside0.mk (fun n => Step_ok (HS.out.2.2.2.1.drewN n) HS.out.2.1 (by rw [HS.out.1.pit]; omega) hit)
        have hsk : s.C.length = C.length := by rw [HS.out.1.pC]; exact (rounds_wid (P := P) HK.out.vC.len s.r).2
        have hle : stepN m s ≤ (C.length + 1) * m := by rw [← hsk]; exact stepN_le
        have hd2 : decide ((stepN m s : Int) < 0) = false := decide_eq_false (by omega)
        have hd3 : decide ((stepN m s : Int) > wrap64 (((C.length : Int) + 1) * (m : Int))) = false := by rw [HPk.out]; exact decide_eq_false (by omega)
        have hg0 : 0 < C.length := by omega
        clear hle hsk
        go_wp2_with (first | (go_at_call 14; ((with_reducible refine HD0.out.mono ?_); rintro e w12 ⟨rfl, ⟨nd12, rfl⟩⟩)))
        refine (HSt.out _).mono ?_
        rintro e w13 ⟨rfl, hM13, hF13⟩
        have HR : Aside0 (Inv P C ia (stepS s) ∧ Good m (stepS s) ∧ leftS (stepS s) + (i + 1) = U ∧ MSt L w13 ((stepS s).raw m) ∧ Fr L.lo L.hi w4 w13) := ⟨HS.out.1.step HS.out.2.1 hlt, HS.out.2.1.step (by omega), by
          have h1 := leftS_exact HS.out.2.1 hit
          have h2 := HS.out.2.2.1
          omega, hM13, (HS.out.2.2.2.2.drewN _).trans hF13⟩
        have hx0 := HX0.out w13 (HB4.out.trans (HR.out.2.2.2.2.below HL.out HB4.out.size))
        clear hM13 hF13 HSt HD0
        generalize stepN m s = sN at *
        go_wp2
        go_roundw
        case rel => exact ⟨i + 1, stepS s, by go_num, HR⟩
        case measure => simp [intOf]; omega
  · refine (HNb.out _ (pw_below_drewN HB1.out _) hE).mono ?_
    rintro e w4 ⟨rfl, hb⟩
    have HB4 := Aside0.mk (below_then (pw_below_drewN HB1.out _) (Below.size (pw_below_drewN HB1.out _)) hb)
    clear hb HNb HNo hE
    go_wp2
    go_ret
    exact ⟨rfl, HB4.out⟩
theorem MeansStays_walk (a0 : Option Addr) (len0 cap0 : Nat) (l0 : List (List Int)) {w : World} (w0 : len0 = l0.length ∧ l0.length ≤ cap0 ∧ Kd.C (Kd.slice 21 (Kd.int .i32)) w a0 l0.length l0) (a1 : Option Addr) (len1 cap1 : Nat) (l1 : List (List Int)) (w1 : len1 = l1.length ∧ l1.length ≤ cap1 ∧ Kd.C (Kd.slice 21 (Kd.int .i32)) w a1 l1.length l1) (a2 : Int) (w2 : (Lit.int .i64 a2).wf = true) (a3 : Int) (w3 : (Lit.int .i64 a3).wf = true) (W : World) (hW : w = W) :
    Calls Try.prog 4 #[.slice a0 len0 cap0, .slice a1 len1 cap1, .int .i64 a2, .int .i64 a3] W fun e w' => e = .returned (.bool true) ∧ Below W.heap.size W w' := by
  subst hW
  obtain ⟨rfl, hc0, hr0⟩ := w0
  obtain ⟨rfl, hc1, hr1⟩ := w1
  exact MeansStays_c a0 a1 cap0 cap1 l0 l1 a2 a3 w hr0 hc0 hr1 hc1
end Go.Proofs.Ytcgpkfpfpjclkaa.G
