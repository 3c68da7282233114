/- Contract of vec.Read. -/
import Derived.Test.YtkogapmggicanaaChunk
import Derived.Test.YtkogapmggicanaaOctet
import Derived.Test.YtkogapmggicanaaReg
namespace Go.Proofs.Ytkogapmggicanaa.G
open Go.RowKit Go.Shelf Go.Proofs.YtkogapmggicanaaW.PrintWords
attribute [local go_sem] Oper.semAt_some
set_option linter.unusedVariables false
set_option linter.unusedSimpArgs false

/-- A number of 16 bits, out of two bytes. -/
def num2 (a b : Int) : Int := IntKind.i16.wrap (signedV (ofTo [a, b] 2) 2)
/-- The numbers that bytes are read as. -/
def readL (l : List Int) : List Int := (List.range (l.length / 2)).map fun k => num2 (l.getD (2 * k) 0) (l.getD (2 * k + 1) 0)
def readE (l : List Int) : Int := if l.length > 2048 then 3 else if l.length % 2 ≠ 0 then 4 else 0
def readV (l : List Int) : List Int := if readE l = 0 then readL l else []
/-- Piece k's number. -/
def pieceN (l : List Int) {N : Nat} (k : Fin N) : Int := num2 (l.getD (2 * k.1) 0) (l.getD (2 * k.1 + 1) 0)
def pair2 (l : List Int) (k : Nat) : List Int := [l.getD (2 * k) 0, l.getD (2 * k + 1) 0]
theorem piece_two (l : List Int) (k : Nat) (h : 2 * k + 2 ≤ l.length) : (l.drop (k * 2)).take 2 = pair2 l k := by
  rw [Nat.mul_comm]
  apply List.ext_getElem
  · simp [pair2]; omega
  · intro i h1 h2
    simp only [pair2, List.length_cons, List.length_nil] at h2
    have hi : i = 0 ∨ i = 1 := by omega
    rcases hi with rfl | rfl
    · simp [pair2, List.getD_eq_getElem?_getD, List.getElem?_eq_getElem (show 2 * k < l.length by omega)]
    · simp [pair2, List.getD_eq_getElem?_getD, List.getElem?_eq_getElem (show 2 * k + 1 < l.length by omega)]

set_option maxRecDepth 100000 in
set_option maxHeartbeats 2000000 in
theorem Read_calls (A0 : Option Addr) (c0 : Nat) (l0 : List Int) (w : World) (hr0 : Kd.C (Kd.int .u8) w A0 l0.length l0) (hc0 : l0.length ≤ c0) (hcap : c0 ≤ 9223372036854775807) (hlim : l0.length ≤ 140737488351232) (hb : ∀ j, j < l0.length → isByte (l0.getD j 0)) :
    Calls Try.prog 26 #[.slice A0 l0.length c0] w fun e w' => ∃ v : Value, e = .returned (.tuple #[v, .int .i64 (readE l0)]) ∧ Kd.R (Kd.int .i16) 24 w' w.heap.size (fun _ => True) v (readV l0) ∧ Below w.heap.size w w' := by
  by_cases h1 : l0.length > 2048
  · have HE := Aside0.mk (show readE l0 = 3 by simp [readE, h1])
    have HV := Aside0.mk (show readV l0 = [] by simp [readV, HE.out])
    have d1 : decide ((l0.length : Int) > 2048) = true := by simp; omega
    clear hr0 hb h1
    go_enter Try.func26, Try.ntmps26
    go_wp2
    go_ret2
    exact ⟨_, by rw [HE.out]; rfl, by rw [HV.out]; exact Kd.R_nil _ _ _ _ _, Below.refl _ _⟩
  · have d1 : decide ((l0.length : Int) > 2048) = false := by simp; omega
    by_cases h2 : l0.length % 2 = 0
    · have HE := Aside0.mk (show readE l0 = 0 by simp [readE, h1, h2])
      have HV := Aside0.mk (show readV l0 = readL l0 by simp [readV, HE.out])
      rw [HE.out, HV.out]
      have d2 : ((l0.length : Int) % 2 != 0) = false := by simp; omega
      have hA : 0 < l0.length → ∃ ad, A0 = some ad := fun h => by obtain ⟨ad, e, _⟩ := C_ints hr0 0 h; exact ⟨ad, e⟩
      have hN : pieces l0.length 2 = l0.length / 2 := by unfold pieces; omega
      obtain ⟨i0, hi, hz0, hz1, hz2⟩ := info_parts info_i16
      have HR := Aside0.mk hr0
      have HBy := Aside0.mk hb
      have HA := Aside0.mk hA
      have HN := Aside0.mk hN
      have H2 := Aside0.mk h2
      have hfc : Fence.wide.fn 66 := trivial
      have hfo : Fence.wide.fn 68 := trivial
      have hfs : Fence.wide.fn 67 := trivial
      clear hr0 hb hA hN h2 HE HV
      refine (callsIn_wide (n := 4)).1 ?_
      refine callsIn_of_wp_marks Try.func26 rfl trivial ?_ rfl
      simp only [Try.ntmps26, List.size_toArray, List.length_cons, List.length_nil, Nat.reduceAdd, Nat.reduceSub, Array.replicate_succ, Array.replicate_zero, List.push_toArray, List.append_toArray, List.nil_append, List.cons_append]
      gi_wp2_with (gi_at_call 66; refine (chunk_in _ _ _ _ 2 (by omega) (by omega) _).mono ?_; rintro e w' ⟨rfl, rfl⟩)
      have bO := Boxed.new w 43 (.slice none 0 0)
      have bS := Boxed.new (w.alloc (.cells #[.slice none 0 0] 43)) 46 (.slice A0 l0.length c0)
      have bC := Boxed.new ((w.alloc (.cells #[.slice none 0 0] 43)).alloc (.cells #[.slice A0 l0.length c0] 46)) 3 (.int .i64 2)
      rw [World.size_alloc] at bS
      rw [World.size_alloc, World.size_alloc] at bC
      have hB0 : Below w.heap.size w (((w.alloc (.cells #[.slice none 0 0] 43)).alloc (.cells #[.slice A0 l0.length c0] 46)).alloc (.cells #[.int .i64 2] 3)) := (((Below.refl _ w).alloc (Nat.le_refl _) _).alloc (by simp) _).alloc (by simp; omega) _
      refine wpIn_rangeFunc_ownG rfl (by omega) (gf := 88) (lb := #[.pointer (some ⟨w.heap.size + 1, 0, none⟩), .pointer (some ⟨w.heap.size + 1 + 1, 0, none⟩)]) rfl trivial (enters_of Try.func88 (by kernel_rfl) rfl)
        (chunk_stops 3 (by omega) (w.heap.size + 1) (w.heap.size + 1 + 1) A0 l0.length c0 2 HA.out (by omega) (by omega) hc0 hcap hlim _ (by simp) (by simp) (bS.alloc _).cell bC.cell) Keep2.t (Keep2.b (by simp) (by simp)) (Below.refl _ _) (fun _ => rfl)
        (fun (pre : List (Fin (pieces l0.length 2))) W => (∃ v, Boxed W w.heap.size 43 v ∧ W.ownsRow w.heap.size 24 1 v pre.length (nums .i16 (pre.map (pieceN l0))) ∧ True) ∧ (Boxed W (w.heap.size + 1) 46 (.slice A0 l0.length c0) ∧ Boxed W (w.heap.size + 1 + 1) 3 (.int .i64 2)) ∧ Below w.heap.size w W)
        (fun _ _ _ => False)
        (OwnFrom.and (Own.from (holdsRow_own w.heap.size w.heap.size 43 24 1 (fun (pre : List (Fin (pieces l0.length 2))) => pre.length) (fun pre => nums .i16 (pre.map (pieceN l0))) (fun pre v => True)) _) (OwnFrom.and (OwnFrom.and (Own.from (boxed_own _ _ _) _) (Own.from (boxed_own _ _ _) _)) (ownFrom_below (Nat.le_refl _) (by simp; omega))))
        (fun _ _ _ _ _ hs _ _ => hs)
        ⟨⟨_, (bO.alloc _).alloc _, World.ownsRow_nil _ _ _ _, trivial⟩, ⟨bS.alloc _, bC⟩, hB0⟩ ?a1 ?assign ?body ?done ?stop
      case assign =>
        intro l x W K hK
        gi_wp2
        exact hK
      case body =>
        rintro l pre x W ⟨⟨v, hv, hrow, _⟩, ⟨bS1, bC1⟩, hB⟩ hlt
        have hx : x.1 < l0.length / 2 := by have h := x.2; have e := HN.out; omega
        have hx2 : 2 * x.1 + 2 ≤ l0.length := by have := H2.out; omega
        have hlt : pre.length < l0.length / 2 := by have e := HN.out; omega
        obtain ⟨ad, rfl⟩ := HA.out (by omega)
        have hPV : pieceV ((some ad : Option Addr).getD default) l0.length 2 x = .slice (some (ad.add (x.1 * 2))) 2 2 := by
          unfold pieceV
          rw [show min 2 (l0.length - x.1 * 2) = 2 by omega]
          rfl
        rw [hPV]
        have hpc := C_piece (Kd.C_below HR.out hB) (x.1 * 2) 2 (by omega)
        rw [piece_two l0 x.1 hx2] at hpc
        have hOf : Calls Try.prog 68 #[.slice (some (ad.add (x.1 * 2))) 2 2] W.drew fun e w' => e = .returned (.int .u64 (ofTo (pair2 l0 x.1) 2)) ∧ W.drew = w' :=
          Of_calls (some (ad.add (x.1 * 2))) 2 (pair2 l0 x.1) W.drew (Kd.C_drew hpc) (fun j hj => by
            have hj2 : j < 2 := hj
            rcases (show j = 0 ∨ j = 1 by omega) with rfl | rfl
            · exact HBy.out (2 * x.1) (by omega)
            · exact HBy.out (2 * x.1 + 1) (by omega))
        have hSg := Signed_calls (ofTo (pair2 l0 x.1) 2) 2 W.drew
        have hN2 : pieceN l0 x = IntKind.i16.wrap (signedV (ofTo (pair2 l0 x.1) 2) 2) := rfl
        generalize ofTo (pair2 l0 x.1) 2 = o at hOf hSg hN2
        generalize signedV o 2 = sg at hSg hN2
        obtain ⟨v1, w1, hap, hown1, hgrow⟩ := app1_run 43 24 .i16 2 Try.underlying43 info_i16 w.heap.size W.drew v (pre.map (pieceN l0)) (IntKind.i16.wrap sg) (by rw [List.length_map]; exact hrow) (by rw [List.length_map]; omega) (by rw [List.length_map]; omega) hB.size
        rw [List.length_map] at hown1
        have hap' : (Builtin.append_ #[43, 43] 43 #[v, .slice (some ⟨W.heap.size, 0, none⟩) 1 1]).run Try.prog (W.alloc (.cells #[.int .i16 (IntKind.i16.wrap sg)] 24)).drew = .ok v1 w1 := hap
        have hap2 : (Builtin.append_ #[43, 43] 43 #[v, .slice (some ⟨W.heap.size, 0, none⟩) 1 1]).run Try.prog (W.drew.alloc (.cells #[.int .i16 (IntKind.i16.wrap sg)] 24)) = .ok v1 w1 := hap
        obtain ⟨g', cap', rfl⟩ := ownsRow_succ hown1
        obtain ⟨hv1, hv2, hr2, hk2, hb2⟩ := Boxed.appended (W := W.drew) (t := 43) (e := 24) hv (by decide) hrow hB.size (Nat.le_refl _) hown1 hgrow
        have hS1 : Boxed w1 (w.heap.size + 1) 46 (.slice (some ad) l0.length c0) := (Boxed.alloc (W := W.drew) bS1 _).kept hgrow (bS1.not_row (by decide) hrow)
        have hC1 : Boxed w1 (w.heap.size + 1 + 1) 3 (.int .i64 2) := (Boxed.alloc (W := W.drew) bC1 _).kept hgrow (bC1.not_row (by decide) hrow)
        have hc := hv.cell
        have hcA : (W.drew.alloc (.cells #[.int .i16 (IntKind.i16.wrap sg)] 24)).cell? ⟨w.heap.size, 0, none⟩ = some v := (Boxed.alloc (W := W.drew) hv _).cell
        have hcB : ((W.alloc (.cells #[.int .i16 (IntKind.i16.wrap sg)] 24)).drew).cell? ⟨w.heap.size, 0, none⟩ = some v := hcA
        have hc1 := hv1.cell
        have hf1 := hv1.frozen
        have HF := Aside0.mk (show KeepsFrom (((w.alloc (.cells #[.slice none 0 0] 43)).alloc (.cells #[.slice (some ad) l0.length c0] 46)).alloc (.cells #[.int .i64 2] 3)).heap.size W (w1.setCell ⟨w.heap.size, 0, none⟩ (.slice (some ⟨g', 0, none⟩) (pre.length + 1) cap')) ∧
            Keep2 (w.heap.size + 1) (w.heap.size + 1 + 1) W (w1.setCell ⟨w.heap.size, 0, none⟩ (.slice (some ⟨g', 0, none⟩) (pre.length + 1) cap')) ∧
            ((∃ v, Boxed (w1.setCell ⟨w.heap.size, 0, none⟩ (.slice (some ⟨g', 0, none⟩) (pre.length + 1) cap')) w.heap.size 43 v ∧ (w1.setCell ⟨w.heap.size, 0, none⟩ (.slice (some ⟨g', 0, none⟩) (pre.length + 1) cap')).ownsRow w.heap.size 24 1 v (pre ++ [x]).length (nums .i16 ((pre ++ [x]).map (pieceN l0))) ∧ True) ∧
              (Boxed (w1.setCell ⟨w.heap.size, 0, none⟩ (.slice (some ⟨g', 0, none⟩) (pre.length + 1) cap')) (w.heap.size + 1) 46 (.slice (some ad) l0.length c0) ∧ Boxed (w1.setCell ⟨w.heap.size, 0, none⟩ (.slice (some ⟨g', 0, none⟩) (pre.length + 1) cap')) (w.heap.size + 1 + 1) 3 (.int .i64 2)) ∧ Below w.heap.size w (w1.setCell ⟨w.heap.size, 0, none⟩ (.slice (some ⟨g', 0, none⟩) (pre.length + 1) cap')))
          from ⟨((KeepsOthers.drew W).trans hk2).from _, ⟨((hS1.other (by omega) _ : _ = _)).trans bS1.symm, ((hC1.other (by omega) _ : _ = _)).trans bC1.symm⟩, ⟨_, hv2, by rw [List.length_append, List.map_append, List.map_cons, List.map_nil, hN2]; exact hr2, trivial⟩, ⟨hS1.other (by omega) _, hC1.other (by omega) _⟩, hB.drew.trans hb2⟩)
        have HO := Aside0.mk hOf
        have HS := Aside0.mk hSg
        have hmx : Try.prog.follows .mixedOrders = true := by kernel_rfl
        clear hOf hSg hap hown1 hgrow hv2 hr2 hk2 hb2 hS1 hC1 hN2 hpc hrow hB bS1 bC1 hPV hv hv1
        gi_wp2
        refine wpIn_region_any (by assumption) ?_
        change wpAnyIn _ _ _ _ _ _ _ _ _ (World.drew _)
        repeat' (first | exact AllReadyIn.nil | refine AllReadyIn.cons rfl (fun K hK => ?_) ?_ | refine wpAnyIn_done (by decide +kernel) ?_ _ | refine wpAnyIn_ready (rs := [0, 1]) (by decide +kernel) (by simp) ?_ | refine wpAnyIn_ready (rs := [1]) (by decide +kernel) (by simp) ?_ | refine wpAnyIn_ready (rs := [0, 2]) (by decide +kernel) (by simp) ?_ | refine wpAnyIn_ready (rs := [2]) (by decide +kernel) (by simp) ?_ | refine wpAnyIn_ready (rs := [0, 3]) (by decide +kernel) (by simp) ?_ | refine wpAnyIn_ready (rs := [3]) (by decide +kernel) (by simp) ?_ | refine wpAnyIn_ready (rs := [0, 4]) (by decide +kernel) (by simp) ?_ | refine wpAnyIn_ready (rs := [4]) (by decide +kernel) (by simp) ?_ | refine wpAnyIn_ready (rs := [0, 5]) (by decide +kernel) (by simp) ?_ | refine wpAnyIn_ready (rs := [5]) (by decide +kernel) (by simp) ?_ | refine wpAnyIn_ready (rs := [6]) (by decide +kernel) (by simp) ?_ | refine wpAnyIn_ready (rs := [7]) (by decide +kernel) (by simp) ?_ | refine wpAnyIn_ready (rs := [0]) (by decide +kernel) (by simp) ?_ | (refine at_append2 hap' rfl rfl rfl rfl rfl ?_; refine hK _ _ ?_; clear hK K) | (refine at_append2 hap2 rfl rfl rfl rfl rfl ?_; refine hK _ _ ?_; clear hK K) | (go_simp; refine hK _ _ ?_; clear hK K) | (revert hK; intro hK; go_simp; gi_wp2_with (first | (gi_at_call 68; refine (CallsIn.inRound l (callsIn_wide.2 HO.out)).mono ?_; rintro e w' ⟨rfl, rfl⟩) | (gi_at_call 67; refine (CallsIn.inRound l (callsIn_wide.2 HS.out)).mono ?_; rintro e w' ⟨rfl, rfl⟩)); (try refine hK _ _ ?_); (try clear hK K)))
        all_goals gi_wp2
        all_goals exact HF.out
      case done =>
        rintro D ys W hD rfl ⟨⟨v, hv, hrow, _⟩, _, hB⟩ hK
        have hc := hv.cell
        gi_wp2
        refine ⟨by simp, .inl ⟨_, _, rfl, run_takeDeferred hK, ?_⟩⟩
        refine ⟨_, results_tmp2 rfl _ _ _, v, rfl, ?_, hB.trans (belowK_b (w := w) (Nat.le_refl _) W D _ _ (by simp at hD; omega) hK rfl rfl)⟩
        have hl2 : (firsts (pieces l0.length 2) (pieces l0.length 2)).map (pieceN l0) = readL l0 := by
          rw [HN.out]
          apply List.ext_getElem
          · simp [readL, firsts]
          · intro i h1 h2
            simp [readL, firsts, pieceN]
        have hlen : (readL l0).length = (firsts (pieces l0.length 2) (pieces l0.length 2)).length := by rw [← hl2, List.length_map]
        rw [hl2] at hrow
        exact R_nums (ownsRow_putObj hrow _ hK rfl) hlen
      case stop =>
        rintro D c pre W _ _ h _
        exact h.elim
    · have HE := Aside0.mk (show readE l0 = 4 by simp [readE, h1, h2])
      have HV := Aside0.mk (show readV l0 = [] by simp [readV, HE.out])
      have d2 : ((l0.length : Int) % 2 != 0) = true := by simp; omega
      clear hr0 hb h1 h2
      go_enter Try.func26, Try.ntmps26
      go_wp2
      go_ret2
      exact ⟨_, by rw [HE.out]; rfl, by rw [HV.out]; exact Kd.R_nil _ _ _ _ _, Below.refl _ _⟩

end Go.Proofs.Ytkogapmggicanaa.G
