/- means.unit: a point is assigned, or the cents are moved. -/
import Derived.Test.YtcgpkfpfpjclkaaMeanM
import Derived.Test.YtcgpkfpfpjclkaaMeanQ
import Derived.Test.YtcgpkfpfpjclkaaMeanH
import Derived.Deep.RegionWith
namespace Go.Proofs.Ytcgpkfpfpjclkaa.G
open Go.RowKit Go.Shelf Go.Proofs.YtcgpkfpfpjclkaaW.PrintWords
set_option linter.unusedVariables false
set_option linter.unusedSimpArgs false
theorem MSt.cells {L : Lay} {w : World} {P C : List (List Int)} {it r a : Nat} {of : List Int} {S : List (List Int)} {K : List Int} (h : MSt L w ⟨P, C, it, r, a, of, S, K⟩) :
    w.cell? ⟨L.g, 0, none⟩ = some (.slice L.AP P.length L.cP) ∧ w.cell? ⟨L.g, 1, none⟩ = some (.slice (some ⟨L.gC, 0, none⟩) C.length L.cC) ∧ w.cell? ⟨L.g, 2, none⟩ = some (.int .i64 it) ∧ w.cell? ⟨L.g, 3, none⟩ = some (.int .i64 r) ∧ w.cell? ⟨L.g, 4, none⟩ = some (.int .i64 a) ∧
      w.cell? ⟨L.g, 5, none⟩ = some (.slice L.AO of.length L.cO) ∧ w.cell? ⟨L.g, 6, none⟩ = some (.slice (some ⟨L.gS, 0, none⟩) S.length L.cS) ∧ w.cell? ⟨L.g, 7, none⟩ = some (.slice (some ⟨L.gK, 0, none⟩) K.length L.cK) ∧ w.cell? ⟨L.g, 8, none⟩ = some L.units :=
  ⟨(h.cell 0).trans rfl, (h.cell 1).trans rfl, (h.cell 2).trans rfl, (h.cell 3).trans rfl, (h.cell 4).trans rfl, (h.cell 5).trans rfl, (h.cell 6).trans rfl, (h.cell 7).trans rfl, (h.cell 8).trans rfl⟩
theorem rows_cell {w : World} {A : Option Addr} {xs : List (List Int)} (h : Kd.C (Kd.slice 21 (Kd.int .i32)) w A xs.length xs) {j : Nat} (hj : j < xs.length) :
    ∃ ad A' c, A = some ad ∧ w.cell? (ad.add j) = some (.slice A' (xs.getD j []).length c) ∧ (xs.getD j []).length ≤ c ∧ Kd.C (Kd.int .i32) w A' (xs.getD j []).length (xs.getD j []) := rows_get h j hj
theorem i64_in {x : Int} (h0 : -9223372036854775808 ≤ x) (h1 : x ≤ 9223372036854775807) : IntKind.i64.wrap x = x := by rw [IntKind.wrap_i64]; omega
theorem w64_in {x : Int} (h0 : -9223372036854775808 ≤ x) (h1 : x ≤ 9223372036854775807) : wrap64 x = x := by unfold wrap64; omega
/-- What a unit comes to, where a point is left. -/
def asgC (P C : List (List Int)) (a : Nat) : Nat := (near C (P.getD a [])).1
set_option maxRecDepth 100000 in
set_option maxHeartbeats 4000000 in
theorem unit_asg {L : Lay} {w : World} {P C : List (List Int)} {it r a : Nat} {of : List Int} {f : Nat → Nat → Int} {c : Nat → Int} {k m : Nat} (h : MSt L w ⟨P, C, it, r, a, of, tab k m f, vec k c⟩) (hk : C.length = k) (hC : Mm.Val m C) (hP : Mm.Val m P) (ha : a < P.length) (ho : of.length = P.length) (hk1 : 1 ≤ k) (hk2 : k ≤ 1000000) (hm1 : 1 ≤ m) (hm2 : m ≤ 1024) (hpl : P.length ≤ 1000000)
    (hf : ∀ n i, -1152921504606846976 ≤ f n i ∧ f n i ≤ 1152921504606846976) (hc : ∀ n, 0 ≤ c n ∧ c n ≤ 1152921504606846976) :
    Calls Try.prog 39 #[.pointer (some ⟨L.g, 0, none⟩)] w fun e w' => e = .returned (.int .i64 ((k * m + m : Nat) : Int)) ∧
      MSt L w' ⟨P, C, it, r, a + 1, of.set a (asgC P C a : Int), tab k m (fun x y => if x = asgC P C a then f x y + at2 P a y else f x y), vec k (fun x => if x = asgC P C a then c x + 1 else c x)⟩ ∧ Fr L.lo L.hi w w' := by
  have hn : asgC P C a < k := by unfold asgC; rw [← hk]; exact (nearTo_spec C _ _ (by omega)).1
  obtain ⟨K, hK⟩ := (Mm.near_is C (P.getD a []) m hC hm2 (hP.len a ha) (hP.wide a) (by omega)).rounds
  have hw := hP.wide a
  have hpn := hP.len a ha
  obtain ⟨n, hn0⟩ : ∃ n, n = asgC P C a := ⟨_, rfl⟩
  obtain ⟨dd, hdd⟩ : ∃ dd, dd = (near C (P.getD a [])).2 := ⟨_, rfl⟩
  rw [show (near C (P.getD a [])).1 = n from hn0.symm, ← hdd] at hK
  rw [← hn0] at hn ⊢
  clear hdd hn0
  have hkm : k * m + m ≤ 1025024000 := by
    have := Nat.mul_le_mul hk2 hm2
    omega
  have HOp := Aside0.mk (show wrap64 (wrap64 ((k : Int) * (m : Int)) + (m : Int)) = ((k * m + m : Nat) : Int) by
    have e1 : (k : Int) * (m : Int) = ((k * m : Nat) : Int) := by simp
    have e2 : ((k * m : Nat) : Int) + (m : Int) = ((k * m + m : Nat) : Int) := by simp
    have e3 : (((k * m : Nat) : Int) + (m : Int)) ≤ 1025024000 := by rw [e2]; omega
    rw [e1, w64_in (x := ((k * m : Nat) : Int)) (by generalize k * m = q at *; omega) (by generalize k * m = q at *; omega), w64_in (by omega) (by omega), e2])
  clear hkm
  have HK := Aside0.mk hK
  obtain ⟨hcC, hrC⟩ := h.readC
  obtain ⟨hcP, hrP⟩ := h.readP
  obtain ⟨c0, c1, c2, c3, c4, c5, c6, c7, c8⟩ := h.cells
  obtain ⟨gP, capP, eP, _, _, cellsP, hblP⟩ := Kd.R_form h.P (by show 0 < P.length; omega)
  have hAP : L.AP = some ⟨gP, 0, none⟩ := by injection eP
  clear eP
  obtain ⟨adP, AP', cP', hAP', hxP, hxc, hCP⟩ := rows_cell hrP ha
  rw [hAP] at hAP'
  cases hAP'
  rw [add_plain] at hxP
  have HRow : Aside0 (∀ W q', MSt L W q' → q'.P = P → Fr L.lo L.hi w W → Kd.C (Kd.int .i32) W AP' m (P.getD a [])) := ⟨fun W q' h' e' hf' => by
    obtain ⟨_, hr'⟩ := h'.readP
    rw [e'] at hr'
    obtain ⟨ad2, A2, c2, e2, hx2, _, hC2⟩ := rows_cell hr' ha
    rw [hAP] at e2
    cases e2
    rw [add_plain, blk_cell (hf'.hd gP cellsP hblP), ← blk_cell hblP, hxP] at hx2
    rw [hpn] at hC2
    cases hx2
    exact hC2⟩
  obtain ⟨adC, AC', cC', hAC, hxC, hxcC, hCC⟩ := rows_cell hrC (j := 0) (by show 0 < C.length; omega)
  obtain ⟨bo, hAO, hbo1, hfo, hco, hset⟩ := h.rowO a (by show a < of.length; omega)
  have HSO : Aside0 (∀ N, MSt L ((w.drewN N).setCell ⟨bo, a, none⟩ (.int .i64 n)) ⟨P, C, it, r, a, of.set a (n : Int), tab k m f, vec k c⟩ ∧ Fr L.lo L.hi w ((w.drewN N).setCell ⟨bo, a, none⟩ (.int .i64 n))) := ⟨fun N => by
    obtain ⟨b, e, hfr, _, _, hs⟩ := (h.drewN N).rowO a (by show a < of.length; omega)
    rw [hAO] at e
    cases e
    exact ⟨hs n, ((Fr.refl _ _ w).drewN N).trans (hfr _)⟩⟩
  have hao : a < of.length := by omega
  rw [hAO] at c5
  simp only at hAC hxP hxC hrC hrP hcC hcP hxc hxcC hCP hCC
  have hN := (fun W (hd : Drawn0 w W) => Mm.means_nearest.calls K (some ⟨L.gC, 0, none⟩) L.cC C AP' cP' (P.getD a []) (n : Int) dd W (Kd.C_below hrC hd.below) hcC (Kd.C_below hCP hd.below) hxc HK.out)
  simp only [hk, hpn] at hN
  have HN := Aside0.mk hN
  rw [hpn] at hxP
  rw [hC.len 0 (by omega)] at hxC
  have hd1 : decide ((a : Int) < (P.length : Int)) = true := by simp; exact ha
  have hkp : (0 : Int) < (C.length : Int) := by omega
  have hV : ∀ y, at2 P a y = (P.getD a []).getD y 0 := fun y => rfl
  have HPk := Aside0.mk (fun lo hi W (hf : Fr lo hi w W) => hf)
  rw [hAP] at c0
  cases hAC
  rw [add_plain] at hxC
  have hg0 : 0 < C.length := by omega
  generalize P.getD a [] = v at *
  have HVn := Aside0.mk hpn
  have HW := Aside0.mk hw
  have HV := Aside0.mk hV
  have HF := Aside0.mk hf
  have HC := Aside0.mk hc
  clear h hN hK hset hbo1 hblP hrC hrP hCP hCC hC hP hf hc HK hw hV
  go_enter Try.func39, Try.ntmps39
  go_wp2
  go_quiet (fail)
  go_wp2
  go_quiet (fail)
  go_wp2
  go_quiet (fail)
  go_wp2_with (go_at_call 33; ((with_reducible refine (HN.out _ ⟨_, rfl⟩).mono ?_); rintro e w1 ⟨rfl, ⟨nd, rfl⟩⟩))
  go_region
  clear c0 c1 c2 c3 c4 c5 c6 c7 c8 hxP hxC hfo hco HN
  generalize hw2 : World.setCell (World.drewN w _) _ _ = w2
  have HM2 : Aside0 (MSt L w2 ⟨P, C, it, r, a, of.set a (n : Int), tab k m f, vec k c⟩ ∧ Fr L.lo L.hi w w2) := ⟨by rw [← hw2]; exact HSO.out _⟩
  clear hw2 HSO
  obtain ⟨c0, c1, c2, c3, c4, c5, c6, c7, c8⟩ := HM2.out.1.cells
  obtain ⟨hfrK, hfk, hck, hsetK⟩ := HM2.out.1.rowK n (by show n < (vec k c).length; rw [vec_len]; exact hn)
  replace hck : w2.cell? ⟨L.gK, n, none⟩ = some (.int .i64 (c n)) := by rw [hck]; show some (Value.int .i64 ((vec k c).getD n 0)) = _; rw [vec_at hn]
  rw [vec_len] at c7
  have hcn := HC.out n
  have hcw : Value.int .i64 (IntKind.i64.wrap (c n + 1)) = .int .i64 (c n + 1) := by rw [i64_in (by omega) (by omega)]
  have hcw' : Value.int .i64 (wrap64 (c n + 1)) = .int .i64 (c n + 1) := by rw [show wrap64 (c n + 1) = c n + 1 by unfold wrap64; omega]
  have HM3 : Aside0 (MSt L (w2.setCell ⟨L.gK, n, none⟩ (.int .i64 (c n + 1))) ⟨P, C, it, r, a, of.set a (n : Int), tab k m f, vec k (fun x => if x = n then c x + 1 else c x)⟩ ∧ Fr L.lo L.hi w (w2.setCell ⟨L.gK, n, none⟩ (.int .i64 (c n + 1)))) := ⟨by
    refine ⟨?_, HM2.out.2.trans (hfrK _)⟩
    have h3 := hsetK (c n + 1)
    have e3 : (vec k c).set n (c n + 1) = vec k (fun x => if x = n then c x + 1 else c x) := by
      rw [vec_set hn]
      refine vec_congr (fun x _ => ?_)
      by_cases hx : x = n
      · rw [if_pos hx, if_pos hx, hx]
      · rw [if_neg hx, if_neg hx]
    rw [← e3]
    exact h3⟩
  clear hfrK hsetK hcn
  generalize c n = cn at *
  go_wp2
  generalize hw3 : World.setCell w2 _ _ = w3 at HM3 ⊢
  clear hw3 HM2 hfk hck hcw hcw' c0 c1 c2 c3 c4 c5 c6 c7 c8
  have HM3' : Aside0 (MSt L w3 ⟨P, C, it, r, a, of.set a (n : Int), tab k m (fun x y => if x = n ∧ y < 0 then f x y + v.getD y 0 else f x y), vec k (fun x => if x = n then c x + 1 else c x)⟩ ∧ Fr L.lo L.hi w w3) := ⟨by
    refine ⟨?_, HM3.out.2⟩
    have e3 : tab k m (fun x y => if x = n ∧ y < 0 then f x y + v.getD y 0 else f x y) = tab k m f := by
      refine tab_congr (fun x y _ _ => ?_)
      rw [if_neg (by omega)]
    rw [e3]
    exact HM3.out.1⟩
  clear HM3
  go_loopw [77] (fun v77 wr => ∃ i : Nat, i ≤ m ∧ v77 = .int .i64 i ∧ Aside0 (MSt L wr ⟨P, C, it, r, a, of.set a (n : Int), tab k m (fun x y => if x = n ∧ y < i then f x y + v.getD y 0 else f x y), vec k (fun x => if x = n then c x + 1 else c x)⟩ ∧ Fr L.lo L.hi w wr)) (fun v77 _ => m - (intOf v77).toNat)
  case atStart => exact ⟨0, Nat.zero_le _, rfl, HM3'⟩
  case round =>
    clear HM3'
    obtain ⟨i, hi, rfl, HM⟩ := hrel
    by_cases hlt : i < m
    · obtain ⟨c0, c1, c2, c3, c4, c5, c6, c7, c8⟩ := HM.out.1.cells
      obtain ⟨AS, cS, hcS, hrS⟩ := HM.out.1.rowS n (by show n < (tab k m _).length; rw [tab_len]; exact hn)
      simp only [tab_rowlen hn] at hcS hrS
      obtain ⟨bS, rfl, _, hfrS, hfS, hvS, hsetS⟩ := hrS i hlt
      rw [tab_len] at c6
      simp only [tab_at hn hlt] at hvS
      rw [if_neg (by omega)] at hvS
      obtain ⟨adv, hadv, hxv⟩ := C_ints (HRow.out wr _ HM.out.1 rfl HM.out.2) i hlt
      cases hadv
      have hwi := HW.out i
      have hfi := HF.out n i
      have HS4 : Aside0 (MSt L (wr.setCell ⟨bS, i, none⟩ (.int .i64 (f n i + v.getD i 0))) ⟨P, C, it, r, a, of.set a (n : Int), tab k m (fun x y => if x = n ∧ y < i + 1 then f x y + v.getD y 0 else f x y), vec k (fun x => if x = n then c x + 1 else c x)⟩ ∧ Fr L.lo L.hi w (wr.setCell ⟨bS, i, none⟩ (.int .i64 (f n i + v.getD i 0)))) := ⟨by
        refine ⟨?_, HM.out.2.trans (hfrS _)⟩
        have h4 := hsetS (f n i + v.getD i 0)
        rw [tab_set hn hlt] at h4
        have e4 : tab k m (fun a b => if a = n ∧ b = i then f n i + v.getD i 0 else if a = n ∧ b < i then f a b + v.getD b 0 else f a b) = tab k m (fun x y => if x = n ∧ y < i + 1 then f x y + v.getD y 0 else f x y) := by
          refine tab_congr (fun x y _ _ => ?_)
          by_cases h1 : x = n ∧ y = i
          · rw [if_pos h1, if_pos ⟨h1.1, by omega⟩, h1.1, h1.2]
          · rw [if_neg h1]
            by_cases h2 : x = n ∧ y < i
            · rw [if_pos h2, if_pos ⟨h2.1, by omega⟩]
            · rw [if_neg h2, if_neg (by omega)]
        rw [← e4]
        exact h4⟩
      clear hrS hfrS hsetS c0 c1 c2 c3 c4 c5 c7 c8
      unfold Mm.isWide at hwi
      generalize v.getD i 0 = vi at *
      generalize f n i = fni at *
      have hx1 : Value.int .i64 (wrap64 vi) = .int .i64 vi := by rw [show wrap64 vi = vi by unfold wrap64; omega]
      have hx2 : Value.int .i64 (wrap64 (fni + vi)) = .int .i64 (fni + vi) := by rw [show wrap64 (fni + vi) = fni + vi by unfold wrap64; omega]
      go_wp2
      go_roundw
      case rel => exact ⟨i + 1, by omega, by go_num, HS4⟩
      case measure => simp [intOf]; omega
    · obtain rfl : i = m := by omega
      obtain ⟨c0, c1, c2, c3, c4, c5, c6, c7, c8⟩ := HM.out.1.cells
      have hfz := HM.out.1.fz 4
      have HA : Aside0 (MSt L (wr.setCell ⟨L.g, 4, none⟩ (.int .i64 ((a : Int) + 1))) ⟨P, C, it, r, a + 1, of.set a (n : Int), tab k i (fun x y => if x = n then f x y + at2 P a y else f x y), vec k (fun x => if x = n then c x + 1 else c x)⟩ ∧ Fr L.lo L.hi w (wr.setCell ⟨L.g, 4, none⟩ (.int .i64 ((a : Int) + 1)))) := ⟨by
        rw [show (a : Int) + 1 = ((a + 1 : Nat) : Int) from rfl]
        have e5 : tab k i (fun x y => if x = n then f x y + at2 P a y else f x y) = tab k i (fun x y => if x = n ∧ y < i then f x y + v.getD y 0 else f x y) := by
          refine tab_congr (fun x y _ hy => ?_)
          rw [HV.out y]
          by_cases h1 : x = n
          · rw [if_pos h1, if_pos ⟨h1, hy⟩]
          · rw [if_neg h1, if_neg (fun h2 => h1 h2.1)]
        rw [e5]
        exact And.intro (HM.out.1.setA (a + 1)) (HM.out.2.trans (HM.out.1.frG 4 (.int .i64 ((a + 1 : Nat) : Int))))⟩
      go_wp2
      go_ret
      exact ⟨by rw [HOp.out]; simp, HA.out.1, HA.out.2⟩
end Go.Proofs.Ytcgpkfpfpjclkaa.G
