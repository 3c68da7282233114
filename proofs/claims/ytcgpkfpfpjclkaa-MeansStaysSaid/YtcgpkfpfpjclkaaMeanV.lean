/- means.unit: the cents are moved. -/
import Derived.Test.YtcgpkfpfpjclkaaMeanU
namespace Go.Proofs.Ytcgpkfpfpjclkaa.G
open Go.RowKit Go.Shelf Go.Proofs.YtcgpkfpfpjclkaaW.PrintWords
set_option linter.unusedVariables false
set_option linter.unusedSimpArgs false
/-- Number y of cent x, moved. -/
def movC (f : Nat → Nat → Int) (c : Nat → Int) (C : List (List Int)) (x y : Nat) : Int := if 0 < c x then meanI (f x y) (c x) else at2 C x y
set_option maxRecDepth 100000 in
set_option maxHeartbeats 4000000 in
theorem unit_mov {L : Lay} {w : World} {P C : List (List Int)} {it r a : Nat} {of : List Int} {f : Nat → Nat → Int} {c : Nat → Int} {k m : Nat} (h : MSt L w ⟨P, C, it, r, a, of, tab k m f, vec k c⟩) (hk : C.length = k) (hC : Mm.Val m C) (ha : ¬ a < P.length) (hk1 : 1 ≤ k) (hk2 : k ≤ 1000000) (hm1 : 1 ≤ m) (hm2 : m ≤ 1024) (hr : r ≤ 1000000)
    (hf : ∀ n i, -1152921504606846976 ≤ f n i ∧ f n i ≤ 1152921504606846976) (hc : ∀ n, 0 ≤ c n ∧ c n ≤ 1152921504606846976) (hmn : ∀ n i, 0 < c n → Mm.isWide (meanI (f n i) (c n))) :
    Calls Try.prog 39 #[.pointer (some ⟨L.g, 0, none⟩)] w fun e w' => e = .returned (.int .i64 ((k * m : Nat) : Int)) ∧
      MSt L w' ⟨P, tab k m (movC f c C), it, r + 1, 0, of, tab k m (fun _ _ => 0), vec k (fun _ => 0)⟩ ∧ Fr L.lo L.hi w w' := by
  have hkm : k * m ≤ 1024000000 := Nat.mul_le_mul hk2 hm2
  have HOp := Aside0.mk (show wrap64 ((k : Int) * (m : Int)) = ((k * m : Nat) : Int) by
    have e1 : (k : Int) * (m : Int) = ((k * m : Nat) : Int) := by simp
    rw [e1, w64_in (x := ((k * m : Nat) : Int)) (by generalize k * m = q at *; omega) (by generalize k * m = q at *; omega)])
  clear hkm
  have hMn := fun n i (hp : 0 < c n) W => Mm.root_Mean.calls (f n i) (c n) _ _ W (Mm.mean_is (f n i) (c n) hp (hc n).2 (hf n i).1 (hf n i).2)
  have HMn := Aside0.mk hMn
  have HWd := Aside0.mk hmn
  have eC := tab_self hC.len
  rw [hk] at eC
  have HM0 : Aside0 (MSt L w ⟨P, tab k m (fun x y => if x < 0 then movC f c C x y else at2 C x y), it, r, a, of, tab k m (fun x y => if x < 0 then 0 else f x y), vec k c⟩ ∧ Fr L.lo L.hi w w) := ⟨by
    have e1 : tab k m (fun x y => if x < 0 then movC f c C x y else at2 C x y) = C := by
      rw [eC]
      refine tab_congr (fun x y hx hy => ?_)
      rw [if_neg (by omega), tab_at hx hy]
    have e2 : tab k m (fun x y => if x < 0 then 0 else f x y) = tab k m f := by
      refine tab_congr (fun x y hx hy => ?_)
      rw [if_neg (by omega)]
    rw [e1, e2]
    exact ⟨h, Fr.refl _ _ _⟩⟩
  obtain ⟨hcC, hrC⟩ := h.readC
  obtain ⟨c0, c1, c2, c3, c4, c5, c6, c7, c8⟩ := h.cells
  obtain ⟨adC, AC', cC', hAC, hxC, hxcC, hCC⟩ := rows_cell hrC (j := 0) (by show 0 < C.length; omega)
  simp only at hAC hxC hrC hcC hxcC hCC
  rw [hC.len 0 (by omega)] at hxC
  have hd1 : decide ((a : Int) < (P.length : Int)) = false := by simp; omega
  cases hAC
  rw [add_plain] at hxC
  have hg0 : 0 < C.length := by omega
  clear h hrC hCC hC hf hc hMn hmn eC
  go_enter Try.func39, Try.ntmps39
  go_wp2
  go_quiet (fail)
  go_wp2
  go_quiet (fail)
  go_wp2
  clear c0 c1 c2 c3 c4 c5 c6 c7 c8 hxC
  go_loopw [114] (fun v114 wr => ∃ j : Nat, j ≤ k ∧ v114 = .int .i64 j ∧ Aside0 (MSt L wr ⟨P, tab k m (fun x y => if x < j then movC f c C x y else at2 C x y), it, r, a, of, tab k m (fun x y => if x < j then 0 else f x y), vec k c⟩ ∧ Fr L.lo L.hi w wr)) (fun v114 _ => k - (intOf v114).toNat)
  case atStart => exact ⟨0, Nat.zero_le _, rfl, ⟨HM0.out.1.drewN _, HM0.out.2.drewN _⟩⟩
  case round =>
    clear HM0
    obtain ⟨j, hj, rfl, HM⟩ := hrel
    by_cases hlt : j < k
    · obtain ⟨AR, cR, hcR, hlR, hCR, _⟩ := HM.out.1.rowC j (by show j < (tab k m _).length; rw [tab_len]; exact hlt)
      simp only [tab_rowlen hlt] at hcR hlR
      obtain ⟨gC, capC, eC, _, _, cellsC, hblC⟩ := Kd.S_form HM.out.1.C (by show 0 < (tab k m _).length; rw [tab_len]; omega)
      have hgC : L.gC = gC := by injection eC with e1; injection e1 with e1; injection e1
      subst hgC
      have HH : Aside0 (∀ w4, Fr L.lo L.hi wr w4 → w4.cell? ⟨L.gC, j, none⟩ = some (.slice AR m cR)) := ⟨fun w4 hf4 => by rw [blk_cell (hf4.hd _ _ hblC), ← blk_cell hblC]; exact hcR⟩
      have HM1 : Aside0 (MSt L wr ⟨P, tab k m (fun x y => if x < j ∨ x = j ∧ y < 0 then movC f c C x y else at2 C x y), it, r, a, of, tab k m (fun x y => if x < j then 0 else f x y), vec k c⟩ ∧ Fr L.lo L.hi w wr ∧ Fr L.lo L.hi wr wr) := ⟨by
        refine ⟨?_, HM.out.2, Fr.refl _ _ _⟩
        have e1 : tab k m (fun x y => if x < j ∨ x = j ∧ y < 0 then movC f c C x y else at2 C x y) = tab k m (fun x y => if x < j then movC f c C x y else at2 C x y) := by
          refine tab_congr (fun x y hx hy => ?_)
          by_cases h1 : x < j
          · rw [if_pos h1, if_pos (Or.inl h1)]
          · rw [if_neg h1, if_neg (by omega)]
        rw [e1]
        exact HM.out.1⟩
      clear hblC eC hCR hlR
      have hjC : j < C.length := by omega
      go_wp2
      generalize wr = wv at *
      clear hcR
      go_loopw [121] (fun v121 w4 => ∃ i : Nat, i ≤ m ∧ v121 = .int .i64 i ∧ Aside0 (MSt L w4 ⟨P, tab k m (fun x y => if x < j ∨ x = j ∧ y < i then movC f c C x y else at2 C x y), it, r, a, of, tab k m (fun x y => if x < j then 0 else f x y), vec k c⟩ ∧ Fr L.lo L.hi w w4 ∧ Fr L.lo L.hi wv w4)) (fun v121 _ => m - (intOf v121).toNat)
      case atStart => exact ⟨0, Nat.zero_le _, rfl, HM1⟩
      case round =>
        clear HM1 HM
        obtain ⟨i, hi, rfl, HM⟩ := hrel
        obtain ⟨c0, c1, c2, c3, c4, c5, c6, c7, c8⟩ := HM.out.1.cells
        rw [tab_len] at c6
        rw [vec_len] at c7
        by_cases hlti : i < m
        · obtain ⟨_, _, hck, _⟩ := HM.out.1.rowK j (by show j < (vec k c).length; rw [vec_len]; exact hlt)
          replace hck : wr.cell? ⟨L.gK, j, none⟩ = some (.int .i64 (c j)) := by rw [hck]; show some (Value.int .i64 ((vec k c).getD j 0)) = _; rw [vec_at hlt]
          by_cases hp : 0 < c j
          · obtain ⟨AS, cS, hcS, hrS⟩ := HM.out.1.rowS j (by show j < (tab k m _).length; rw [tab_len]; exact hlt)
            simp only [tab_rowlen hlt] at hcS hrS
            obtain ⟨bS, rfl, _, _, _, hvS, _⟩ := hrS i hlti
            simp only [tab_at hlt hlti] at hvS
            rw [if_neg (by omega)] at hvS
            obtain ⟨A2, cR2, hcR2, _, _, hrC⟩ := HM.out.1.rowC j (by show j < (tab k m _).length; rw [tab_len]; exact hlt)
            simp only [tab_rowlen hlt] at hcR2 hrC
            rw [HH.out wr HM.out.2.2] at hcR2
            cases hcR2
            obtain ⟨bC, rfl, hfrC, hfC, hvC, hsetC⟩ := hrC i hlti
            have hwd := HWd.out j i hp
            have HR : Aside0 (∀ N, MSt L ((wr.drewN N).setCell ⟨bC, i, none⟩ (.int .i32 (meanI (f j i) (c j)))) ⟨P, tab k m (fun x y => if x < j ∨ x = j ∧ y < i + 1 then movC f c C x y else at2 C x y), it, r, a, of, tab k m (fun x y => if x < j then 0 else f x y), vec k c⟩ ∧ Fr L.lo L.hi w ((wr.drewN N).setCell ⟨bC, i, none⟩ (.int .i32 (meanI (f j i) (c j)))) ∧ Fr L.lo L.hi wv ((wr.drewN N).setCell ⟨bC, i, none⟩ (.int .i32 (meanI (f j i) (c j))))) := ⟨fun N => by
              obtain ⟨A3, cR3, hcR3, _, _, hrC3⟩ := (HM.out.1.drewN N).rowC j (by show j < (tab k m _).length; rw [tab_len]; exact hlt)
              simp only [tab_rowlen hlt] at hcR3 hrC3
              rw [HH.out _ (HM.out.2.2.drewN N)] at hcR3
              cases hcR3
              obtain ⟨b3, e3, hfr3, _, _, hs3⟩ := hrC3 i hlti
              cases e3
              refine ⟨?_, (HM.out.2.1.drewN N).trans (hfr3 _), (HM.out.2.2.drewN N).trans (hfr3 _)⟩
              have h4 := hs3 (meanI (f j i) (c j))
              rw [tab_set hlt hlti] at h4
              have e4 : tab k m (fun a b => if a = j ∧ b = i then meanI (f j i) (c j) else if a < j ∨ a = j ∧ b < i then movC f c C a b else at2 C a b) = tab k m (fun x y => if x < j ∨ x = j ∧ y < i + 1 then movC f c C x y else at2 C x y) := by
                refine tab_congr (fun x y _ _ => ?_)
                by_cases h1 : x = j ∧ y = i
                · rw [if_pos h1, if_pos (Or.inr ⟨h1.1, by omega⟩), h1.1, h1.2]
                  unfold movC
                  rw [if_pos hp]
                · rw [if_neg h1]
                  by_cases h2 : x < j ∨ x = j ∧ y < i
                  · rw [if_pos h2, if_pos (by omega)]
                  · rw [if_neg h2, if_neg (by omega)]
              rw [← e4]
              exact h4⟩
            have HMj := Aside0.mk (HMn.out j i hp)
            have hd2 : decide (c j > 0) = true := decide_eq_true hp
            clear hrS hrC hfrC hsetC c0 c1 c2 c3 c4 c5 c8 hp
            unfold Mm.isWide at hwd
            generalize meanI (f j i) (c j) = mj at *
            generalize f j i = fj at *
            generalize c j = cj at *
            have hx1 : Value.int .i32 (wrap32 mj) = .int .i32 mj := by rw [show wrap32 mj = mj by unfold wrap32; omega]
            have hx2 : Value.int .i32 (IntKind.i32.wrap mj) = .int .i32 mj := by rw [IntKind.wrap_i32, show (mj + 2147483648) % 4294967296 - 2147483648 = mj by omega]
            go_wp2
            go_quiet (first | (go_at_call 53; ((with_reducible refine (HMj.out _).mono ?_); rintro e w7 ⟨rfl, ⟨nd, rfl⟩⟩; (first | exact ⟨rfl, _, World.drewN_drewN _ _ _⟩ | exact ⟨rfl, _, rfl⟩))))
            go_wp2
            go_roundw
            case rel => exact ⟨i + 1, by omega, by go_num, ⟨HR.out _⟩⟩
            case measure => simp [intOf]; omega
          · have hd2 : decide (c j > 0) = false := decide_eq_false hp
            have HR : Aside0 (MSt L wr ⟨P, tab k m (fun x y => if x < j ∨ x = j ∧ y < i + 1 then movC f c C x y else at2 C x y), it, r, a, of, tab k m (fun x y => if x < j then 0 else f x y), vec k c⟩ ∧ Fr L.lo L.hi w wr ∧ Fr L.lo L.hi wv wr) := ⟨by
              refine ⟨?_, HM.out.2⟩
              have e4 : tab k m (fun x y => if x < j ∨ x = j ∧ y < i + 1 then movC f c C x y else at2 C x y) = tab k m (fun x y => if x < j ∨ x = j ∧ y < i then movC f c C x y else at2 C x y) := by
                refine tab_congr (fun x y _ _ => ?_)
                by_cases h2 : x < j ∨ x = j ∧ y < i
                · rw [if_pos h2, if_pos (by omega)]
                · rw [if_neg h2]
                  by_cases h1 : x = j ∧ y = i
                  · rw [if_pos (Or.inr ⟨h1.1, by omega⟩)]
                    unfold movC
                    rw [h1.1, if_neg hp]
                  · rw [if_neg (by omega)]
              rw [e4]
              exact HM.out.1⟩
            clear c0 c1 c2 c3 c4 c5 c8 hp
            generalize c j = cj at *
            go_wp2
            go_roundw
            case rel => exact ⟨i + 1, by omega, by go_num, HR⟩
            case measure => simp [intOf]; omega
        · obtain rfl : i = m := by omega
          obtain ⟨AS, cS, w5, hcS, hcl, hM5, hF5⟩ := HM.out.1.clearS j (by show j < (tab k i _).length; rw [tab_len]; exact hlt) (by show 0 < (List.getD (tab k i _) j []).length; rw [tab_rowlen hlt]; omega)
          simp only [tab_rowlen hlt] at hcS hcl hM5
          have HR : Aside0 (MSt L w5 ⟨P, tab k i (fun x y => if x < j + 1 then movC f c C x y else at2 C x y), it, r, a, of, tab k i (fun x y => if x < j + 1 then 0 else f x y), vec k c⟩ ∧ Fr L.lo L.hi w w5) := ⟨by
            refine ⟨?_, HM.out.2.1.trans hF5⟩
            rw [tab_zero hlt] at hM5
            have e1 : tab k i (fun x y => if x < j + 1 then movC f c C x y else at2 C x y) = tab k i (fun x y => if x < j ∨ x = j ∧ y < i then movC f c C x y else at2 C x y) := by
              refine tab_congr (fun x y _ hy => ?_)
              by_cases h1 : x < j + 1
              · rw [if_pos h1, if_pos (by omega)]
              · rw [if_neg h1, if_neg (by omega)]
            have e2 : tab k i (fun x y => if x < j + 1 then 0 else f x y) = tab k i (fun a b => if a = j then 0 else if a < j then 0 else f a b) := by
              refine tab_congr (fun x y _ hy => ?_)
              by_cases h1 : x = j
              · rw [if_pos h1, if_pos (by omega)]
              · rw [if_neg h1]
                by_cases h2 : x < j
                · rw [if_pos h2, if_pos (by omega)]
                · rw [if_neg h2, if_neg (by omega)]
            rw [e1, e2]
            exact hM5⟩
          clear hM5 hF5 c0 c1 c2 c3 c4 c5 c8
          go_wp2
          go_roundw
          case rel => exact ⟨j + 1, by omega, by go_num, HR⟩
          case measure => simp [intOf]; omega
    · obtain rfl : j = k := by omega
      obtain ⟨w5, hcl, hM5, hF5⟩ := HM.out.1.clearK (by show 0 < (vec j c).length; rw [vec_len]; omega)
      obtain ⟨c0, c1, c2, c3, c4, c5, c6, c7, c8⟩ := HM.out.1.cells
      simp only [vec_len] at hcl hM5
      rw [vec_len] at c7
      rw [vec_zero] at hM5
      obtain ⟨d0, d1, d2, d3, d4, d5, d6, d7, d8⟩ := hM5.cells
      have hfz3 := hM5.fz 3
      have hfz4 := hM5.fz 4
      have hM6 := hM5.setA 0
      have hF6 := hF5.trans (hM5.frG 4 (.int .i64 ((0 : Nat) : Int)))
      have hM7 := hM6.setR (r + 1)
      have hF7 := HM.out.2.trans (hF6.trans (hM6.frG 3 (.int .i64 ((r + 1 : Nat) : Int))))
      have HR : Aside0 (MSt L ((w5.setCell ⟨L.g, 4, none⟩ (.int .i64 0)).setCell ⟨L.g, 3, none⟩ (.int .i64 ((r : Int) + 1))) ⟨P, tab j m (movC f c C), it, r + 1, 0, of, tab j m (fun _ _ => 0), vec j (fun _ => 0)⟩ ∧ Fr L.lo L.hi w ((w5.setCell ⟨L.g, 4, none⟩ (.int .i64 0)).setCell ⟨L.g, 3, none⟩ (.int .i64 ((r : Int) + 1)))) := ⟨by
        refine ⟨?_, hF7⟩
        have e1 : tab j m (fun x y => if x < j then movC f c C x y else at2 C x y) = tab j m (movC f c C) := tab_congr (fun x y hx _ => if_pos hx)
        have e2 : tab j m (fun x y => if x < j then 0 else f x y) = tab j m (fun _ _ => 0) := tab_congr (fun x y hx _ => if_pos hx)
        rw [← e1, ← e2]
        exact hM7⟩
      clear hM5 hM6 hM7 hF5 hF6 hF7
      have hrw : Value.int .i64 (wrap64 ((r : Int) + 1)) = .int .i64 ((r : Int) + 1) := by rw [w64_in (by omega) (by omega)]
      go_wp2
      go_ret
      exact ⟨by rw [HOp.out]; simp, HR.out.1, HR.out.2⟩
end Go.Proofs.Ytcgpkfpfpjclkaa.G
