/- Statement PartTwice, over numbers and lists: parts of parts are smaller parts. -/
import Derived.Test.YticpdlaiindlfaaPureParts
import Derived.Test.YticpdlaiindlfaaPax4
namespace Go.Proofs.Yticpdlaiindlfaa.Pure
open Go.RowKit Go.Proofs.Yticpdlaiindlfaa.Pa Go.Proofs.YticpdlaiindlfaaW.PrintWords Go.Proofs.YticpdlaiindlfaaW.PrintLast Go.Proofs.Yticpdlaiindlfaa.G
set_option linter.unusedVariables false

theorem piece_piece {v : List Int} {w u i j b : Nat} (hb : b * u = w) (hj : j < b) : pieceL (pieceL v w i) u j = pieceL v u (i * b + j) := by
  have h1 : j * u + u ≤ w := piece_in hb hj
  unfold pieceL
  rw [List.drop_take, List.drop_drop, List.take_take]
  have e : i * w + j * u = (i * b + j) * u := by rw [Nat.add_mul, ← hb, Nat.mul_assoc]
  rw [e]
  congr 1
  omega
theorem cut_cut {v : List Int} {w u i q b : Nat} (hb : b * u = w) (hq : i * b + b ≤ q) : (List.range b).map (pieceL (pieceL v w i) u) = (((List.range q).map (pieceL v u)).take (i * b + b)).drop (i * b) := by
  rw [← List.map_take, ← List.map_drop, List.take_range, Nat.min_eq_left hq]
  generalize hs : i * b = s at *
  apply List.ext_getElem
  · simp
  · intro j h3 h4
    simp only [List.length_map, List.length_range] at h3
    simp only [List.getElem_map, List.getElem_range, List.getElem_drop]
    rw [← hs]
    exact piece_piece hb h3
theorem wrap_add {s b q n : Nat} (h : s + b ≤ q) (h1 : q ≤ n) (h2 : n ≤ 1024) : wrap64 ((s : Int) + (b : Int)) = ((s + b : Nat) : Int) := by rw [← Int.natCast_add, wrap_nat (by omega)]
theorem twice_round {v : List Int} {n a b u w i : Nat} (hn : v.length = n) (h1 : 1 ≤ n) (h2 : n ≤ 1024) (hb : 1 ≤ b) (hw : 1 ≤ w) (hu : 1 ≤ u) (hbw : b ≤ w) (hwn : w ≤ n) (han : a ≤ n) (hbn : a * b ≤ n) (hm : a * w = n) (hm2 : b * u = w) (hd2 : w % b = 0) (hud : w / b = u) (hc1 : cutL v (a : Int) = (List.range a).map (pieceL v w)) (hc2 : cutL v ((a * b : Nat) : Int) = (List.range (a * b)).map (pieceL v u)) (hi : i < a)
    (hnext : Ev (fun r => wayfinderlaw14_PartTwice.l2 r v (a : Int) (b : Int) (cutL v (a : Int)) (cutL v ((a * b : Nat) : Int)) ((i + 1 : Nat) : Int)) true) :
    Ev (fun r => wayfinderlaw14_PartTwice.l2 r v (a : Int) (b : Int) (cutL v (a : Int)) (cutL v ((a * b : Nat) : Int)) (i : Int)) true := by
  have hl1 : (cutL v (a : Int)).length = a := by rw [hc1]; simp
  have hl2 : (cutL v ((a * b : Nat) : Int)).length = a * b := by rw [hc2]; simp
  have hpl : (pieceL v w i).length = w := piece_length (by rw [hn]; exact piece_in hm hi)
  have e6 : rd_L1 (cutL v (a : Int)) (i : Int) = pieceL v w i := by rw [rd_L1_get (by omega)]; simp [hc1]
  have hib : i * b + b ≤ a * b := piece_in (k := a) (w := b) (n := a * b) rfl hi
  have hc3 := cutL_is hpl hw (by omega) hb hd2
  have hE3 : Aside0 (cutE (pieceL v w i) (b : Int) = 0) := Aside0.mk (cutE_ok hpl hw (by omega) hb hd2)
  rw [hud] at hc3
  have hsame : cutL (pieceL v w i) (b : Int) = ((cutL v ((a * b : Nat) : Int)).take (i * b + b)).drop (i * b) := by
    rw [hc3, hc2]
    exact cut_cut hm2 hib
  have hpu : ∀ p, p < b → (pieceL (pieceL v w i) u p).length = u := fun p hp => piece_length (by rw [hpl]; exact piece_in hm2 hp)
  have huw : u ≤ w := by rw [← hud]; exact Nat.div_le_self w b
  have e7' : (i : Int) * (b : Int) = ((i * b : Nat) : Int) := by simp
  clear hm hm2 hd2 hud hc1 hc2
  generalize a * b = q at *
  generalize i * b = s at *
  have e7 := Aside0.mk (show wrap64 ((i : Int) * (b : Int)) = (s : Int) by rw [e7', wrap_nat (by omega)])
  have e8 := Aside0.mk (wrap_add hib hbn h2)
  clear e7'
  refine Ev.step (f := fun r => (part_Cut.f (pieceL v w i) (b : Int)).bind fun bt210 => (if bt210.2 = 0 then (if 0 ≤ (s : Int) then (if (s : Int) ≤ ((s + b : Nat) : Int) then (if ((s + b : Nat) : Int) ≤ ((cutL v (q : Int)).length : Int) then ((wayfinderkit_Lists_int32.f r bt210.1 (((cutL v (q : Int)).take (((s + b : Nat) : Int) : Int).toNat).drop ((s : Int) : Int).toNat)).bind fun t218 => (if t218 = true then (wayfinderlaw14_PartTwice.l2 r v (a : Int) (b : Int) (cutL v (a : Int)) (cutL v (q : Int)) ((i + 1 : Nat) : Int)) else (none))) else (none)) else (none)) else (none)) else (none))) (fun r => by
    simp only [wayfinderlaw14_PartTwice.l2]
    rw [if_pos (by omega), if_pos (by omega), if_pos (by omega), e6, e7.out, e8.out, wrap_succ (by omega)]) ?_
  refine Ev.bindc (a := (cutL (pieceL v w i) b, cutE (pieceL v w i) b)) rfl (Ev.pos hE3.out (Ev.pos (by omega) (Ev.pos (by omega) (Ev.pos (by omega) ?_))))
  rw [Int.toNat_natCast, Int.toNat_natCast, ← hsame]
  refine Ev.bind (a := true) (Lists_int32_self (cutL (pieceL v w i) b) (by rw [hc3]; simp; omega) (fun x hx => ?_)) (Ev.pos rfl hnext)
  rw [hc3] at hx
  obtain ⟨p, hp, rfl⟩ := List.mem_map.1 hx
  rw [hpu p (List.mem_range.1 hp)]
  omega
theorem twice_rest {v : List Int} {n a b u w : Nat} (hn : v.length = n) (h1 : 1 ≤ n) (h2 : n ≤ 1024) (ha : 1 ≤ a) (hb : 1 ≤ b) (hw : 1 ≤ w) (hu : 1 ≤ u) (hbw : b ≤ w) (hwn : w ≤ n) (han : a ≤ n) (hab1 : 1 ≤ a * b) (habn : a * b ≤ n) (hm : a * w = n) (hm2 : b * u = w) (hd2 : w % b = 0) (hud : w / b = u) (hd3 : n % (a * b) = 0) (hc1 : cutL v (a : Int) = (List.range a).map (pieceL v w)) (hc2 : cutL v ((a * b : Nat) : Int) = (List.range (a * b)).map (pieceL v u)) :
    Ev (fun r => wayfinderlaw14_PartTwice.j3 r v (a : Int) (b : Int) (cutL v (a : Int)) (cutL v ((a * b : Nat) : Int)) ((((cutL v ((a * b : Nat) : Int)).length : Nat) : Int) != ((a * b : Nat) : Int))) true := by
  have hl1 : (cutL v (a : Int)).length = a := by rw [hc1]; simp
  have hl2 : (cutL v ((a * b : Nat) : Int)).length = a * b := by rw [hc2]; simp
  refine Ev.step (f := fun r => wayfinderlaw14_PartTwice.l2 r v (a : Int) (b : Int) (cutL v (a : Int)) (cutL v ((a * b : Nat) : Int)) 0) (fun r => by simp only [wayfinderlaw14_PartTwice.j3]; rw [if_neg (by rw [hl2]; simp)]) ?_
  refine Ev.forE (l := fun i r => wayfinderlaw14_PartTwice.l2 r v (a : Int) (b : Int) (cutL v (a : Int)) (cutL v ((a * b : Nat) : Int)) (i : Int)) (Nat.zero_le a) (fun i _ hi hnext => twice_round hn h1 h2 hb hw hu hbw hwn han habn hm hm2 hd2 hud hc1 hc2 hi hnext) ?_
  clear hm hm2 hd2 hud hc1
  refine Ev.step (f := fun r => (part_Join.f (cutL v ((a * b : Nat) : Int))).bind fun bt204 => (if bt204.2 = 0 then ((wayfinderkit_Same_int32.f r bt204.1 v).bind fun t208 => (some t208)) else (none))) (fun r => by simp only [wayfinderlaw14_PartTwice.l2]; rw [if_neg (by omega)]) ?_
  exact Ev.bindc (cut_join hn h1 h2 hab1 hd3) (Ev.pos rfl (Ev.bind (a := true) (Same_int32_self v (by omega)) (Ev.some_ true)))
set_option maxHeartbeats 1000000 in
theorem PartTwice : wayfinderlaw14_PartTwice.Pure := by
  intro v a1 a2 hm0 hr0 hw0 hw1 hw2
  refine Ev.rounds ?_
  have b1 := wf_i64 hw1
  have b2 := wf_i64 hw2
  unfold wayfinderlaw14_PartTwice.f
  refine Ev.bind lives_is (Ev.pos rfl ?_)
  by_cases h1 : (v.length : Int) < 1
  · exact Ev.pos h1 (Ev.step (f := fun _ => some true) (fun k => by simp only [wayfinderlaw14_PartTwice.j0]; rw [if_pos trivial]) (Ev.some_ true))
  refine Ev.neg h1 ?_
  by_cases h2 : (v.length : Int) > 1024
  · exact Ev.step (f := fun _ => some true) (fun k => by simp only [wayfinderlaw14_PartTwice.j0]; rw [if_pos (by simpa using h2)]) (Ev.some_ true)
  refine Ev.step (fun k => by simp only [wayfinderlaw14_PartTwice.j0]; rw [if_neg (by simpa using h2)]) ?_
  refine Ev.bindc (Pick_is b1 (by omega) (by omega)) ?_
  obtain ⟨n, hn⟩ : ∃ n, v.length = n := ⟨_, rfl⟩
  rw [hn]
  have hn1 : 1 ≤ n ∧ n ≤ 1024 := by omega
  have e1 := Int.emod_nonneg a1 (show (n : Int) ≠ 0 by omega)
  have e2 := Int.emod_lt_of_pos a1 (show (0 : Int) < (n : Int) by omega)
  obtain ⟨s, hs⟩ : ∃ s : Nat, 1 + a1 % (n : Int) = s := ⟨(1 + a1 % (n : Int)).toNat, by omega⟩
  rw [hs, wrap_nat (by omega)]
  refine Ev.down (l := fun k r => wayfinderlaw14_PartTwice.l0 r v a2 (n : Int) (k : Int)) (fun k => n % k = 0) (Nat.mod_one n) s (by omega) (fun i hi his hp r => ?_) (fun a ha has hd => ?_)
  · simp only [wayfinderlaw14_PartTwice.l0]
    rw [if_neg (by omega), Int.tmod_eq_emod_of_nonneg (by omega), if_neg (by omega), wrap_in (by omega) (by omega), show ((i - 1 : Nat) : Int) = (i : Int) - 1 by omega]
  have hm := width_mul hd
  have hw := width_pos hn1.1 hd
  have han : a ≤ n := by have := Nat.le_mul_of_pos_right a hw; omega
  have hwn : n / a ≤ n := Nat.div_le_self n a
  have e5 : wrap64 (Int.tdiv (n : Int) (a : Int)) = ((n / a : Nat) : Int) := by
    rw [Int.tdiv_eq_ediv_of_nonneg (by omega), show (n : Int) / (a : Int) = ((n / a : Nat) : Int) from rfl, wrap_nat (by omega)]
  refine Ev.step (fun r => by
    simp only [wayfinderlaw14_PartTwice.l0]
    rw [if_neg (by omega), Int.tmod_eq_emod_of_nonneg (by omega), if_pos (by omega), e5]) ?_
  obtain ⟨w, hwd⟩ : ∃ w, n / a = w := ⟨_, rfl⟩
  rw [hwd] at hm hw hwn e5 ⊢
  refine Ev.bindc (Pick_is b2 (by omega) (by omega)) ?_
  have e3 := Int.emod_nonneg a2 (show (w : Int) ≠ 0 by omega)
  have e4 := Int.emod_lt_of_pos a2 (show (0 : Int) < (w : Int) by omega)
  obtain ⟨s2, hs2⟩ : ∃ s : Nat, 1 + a2 % (w : Int) = s := ⟨(1 + a2 % (w : Int)).toNat, by omega⟩
  rw [hs2, wrap_nat (by omega)]
  refine Ev.down (l := fun k r => wayfinderlaw14_PartTwice.l1 r v (n : Int) (a : Int) (k : Int)) (fun k => w % k = 0) (Nat.mod_one w) s2 (by omega) (fun i hi his hp r => ?_) (fun b hb hbs hd2 => ?_)
  · simp only [wayfinderlaw14_PartTwice.l1]
    rw [if_neg (by omega), if_neg (by omega), e5, Int.tmod_eq_emod_of_nonneg (by omega), if_neg (by omega), wrap_in (by omega) (by omega), show ((i - 1 : Nat) : Int) = (i : Int) - 1 by omega]
  have hm2 := width_mul hd2
  have hu := width_pos hw hd2
  obtain ⟨u, hud⟩ : ∃ u, w / b = u := ⟨_, rfl⟩
  rw [hud] at hm2 hu
  have hbw : b ≤ w := by have := Nat.le_mul_of_pos_right b hu; omega
  have habu : a * b * u = n := by rw [Nat.mul_assoc, hm2, hm]
  have hab1 : 1 ≤ a * b := Nat.mul_pos ha hb
  have habn : a * b ≤ n := by have := Nat.le_mul_of_pos_right (a * b) hu; omega
  have hd3 : n % (a * b) = 0 := by rw [← habu]; exact Nat.mul_mod_right _ _
  have hq3 : n / (a * b) = u := by rw [← habu]; exact Nat.mul_div_cancel_left _ (by omega)
  have hcast : (a : Int) * (b : Int) = ((a * b : Nat) : Int) := by simp
  have hc1 := cutL_is hn hn1.1 hn1.2 ha hd
  have hc2 := cutL_is hn hn1.1 hn1.2 hab1 hd3
  rw [hwd] at hc1
  rw [hq3] at hc2
  have hl1 : (cutL v (a : Int)).length = a := by rw [hc1]; simp
  have hl2 : (cutL v ((a * b : Nat) : Int)).length = a * b := by rw [hc2]; simp
  refine Ev.step (fun r => by
    simp only [wayfinderlaw14_PartTwice.l1]
    rw [if_neg (by omega), if_neg (by omega), e5, Int.tmod_eq_emod_of_nonneg (by omega), if_pos (by omega), hcast, wrap_nat (by omega)]) ?_
  refine Ev.bindc (a := (cutL v a, cutE v a)) rfl (Ev.bindc (a := (cutL v ((a * b : Nat) : Int), cutE v ((a * b : Nat) : Int))) rfl (Ev.pos (cutE_ok hn hn1.1 hn1.2 ha hd) (Ev.pos (cutE_ok hn hn1.1 hn1.2 hab1 hd3) (Ev.pos (by show ((cutL v (a : Int)).length : Int) = (a : Int); rw [hl1]) ?_))))
  exact twice_rest hn hn1.1 hn1.2 ha hb hw hu hbw hwn han hab1 habn hm hm2 hd2 hud hd3 hc1 hc2

end Go.Proofs.Yticpdlaiindlfaa.Pure
