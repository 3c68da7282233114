/- The walk of DiskNil. -/
import Derived.Test.YtcgincjgcdbcfaaDiskP
namespace Go.Proofs.Ytcgincjgcdbcfaa.G
open Go.RowKit Go.Proofs.Ytcgincjgcdbcfaa.Dk Go.Proofs.YtcgincjgcdbcfaaW.PrintWords
set_option linter.unusedVariables false
set_option linter.unusedSimpArgs false
set_option maxRecDepth 100000
set_option maxHeartbeats 4000000
theorem light_is (x : S46) : ∃ k, wayfinderlaw06_light.f k [x] = some (decide (x.f4.length ≤ 120) && decide (x.f5.length ≤ 120)) := by
  refine ⟨6, ?_⟩
  have e : rd_T46 [x] 0 = x := rfl
  have w1 : wrap64 (0 + 1) = 1 := by unfold wrap64; omega
  have hl : ((([x] : List S46).length : Nat) : Int) = 1 := rfl
  simp only [wayfinderlaw06_light.f, wayfinderlaw06_light.l0, wayfinderlaw06_light.j1, e, w1, hl]
  by_cases h4 : x.f4.length ≤ 120 <;> by_cases h5 : x.f5.length ≤ 120
  · have g4 : ¬ (x.f4.length : Int) > 120 := by omega
    have g5 : ¬ (x.f5.length : Int) > 120 := by omega
    simp [g4, g5, h4, h5]
  · have g4 : ¬ (x.f4.length : Int) > 120 := by omega
    have g5 : (x.f5.length : Int) > 120 := by omega
    simp [g4, g5, h4, h5]
  · have g4 : (x.f4.length : Int) > 120 := by omega
    simp [g4, h4]
  · have g4 : (x.f4.length : Int) > 120 := by omega
    simp [g4, h4]
theorem act_row (x : S46) {A4 A5 : Option Addr} {c4 c5 : Nat} {W : World} {g : Nat} {t : TypeId} {fz : Nat × Nat} (hg : W.heap[g]? = some (.cells #[.int .i64 x.f0, .int .i64 x.f1, .int .i64 x.f2, .int .i64 x.f3, .slice A4 x.f4.length c4, .slice A5 x.f5.length c5] t fz))
    (h4 : Kd.C (Kd.int .u8) W A4 x.f4.length x.f4) (hc4 : x.f4.length ≤ c4) (h5 : Kd.C (Kd.int .i64) W A5 x.f5.length x.f5) (hc5 : x.f5.length ≤ c5) : Kd.C k46 W (some ⟨g, 0, none⟩) 1 [x] := by
  refine ⟨rfl, by simp, fun _ => ⟨_, rfl, fun j p hj => ?_⟩⟩
  match j, hj with
  | 0, hj =>
    cases hj
    refine ⟨_, rfl, k46_mk W x hc4 h4 hc5 h5, fun i u hu => ?_⟩
    have e : W.cell? (Addr.add ⟨g, 0, none⟩ (0 * k46.sz + i)) = #[Value.int .i64 x.f0, .int .i64 x.f1, .int .i64 x.f2, .int .i64 x.f3, .slice A4 x.f4.length c4, .slice A5 x.f5.length c5][i]? := by
      have ea : Addr.add ⟨g, 0, none⟩ (0 * k46.sz + i) = ⟨g, i, none⟩ := by
        rw [Nat.zero_mul, Nat.zero_add]
        unfold Addr.add
        split
        · next h0 => first | (subst h0; rfl) | (simp at h0; subst h0; rfl)
        · first | rfl | simp
      rw [ea]
      simp [World.cell?, hg]
    rw [e]
    simpa using hu
def Cells6 (a0 a1 a2 a3 : Int) (A4 : Option Addr) (c4 : Nat) (l4 : List Int) (A5 : Option Addr) (c5 : Nat) (l5 : List Int) (W : World) (g : Nat) : Prop := W.cell? ⟨g, 0, none⟩ = some (.int .i64 a0) ∧ W.cell? ⟨g, 1, none⟩ = some (.int .i64 a1) ∧ W.cell? ⟨g, 2, none⟩ = some (.int .i64 a2) ∧ W.cell? ⟨g, 3, none⟩ = some (.int .i64 a3) ∧ W.cell? ⟨g, 4, none⟩ = some (.slice A4 l4.length c4) ∧ W.cell? ⟨g, 5, none⟩ = some (.slice A5 l5.length c5)
section
variable {a0 a1 a2 a3 : Int} {A4 : Option Addr} {c4 : Nat} {l4 : List Int} {A5 : Option Addr} {c5 : Nat} {l5 : List Int} {W W' : World} {g : Nat}
theorem Cells6.below (h : Cells6 a0 a1 a2 a3 A4 c4 l4 A5 c5 l5 W g) (hb : Below W.heap.size W W') : Cells6 a0 a1 a2 a3 A4 c4 l4 A5 c5 l5 W' g :=
  ⟨pw_cell_below hb h.1, pw_cell_below hb h.2.1, pw_cell_below hb h.2.2.1, pw_cell_below hb h.2.2.2.1, pw_cell_below hb h.2.2.2.2.1, pw_cell_below hb h.2.2.2.2.2⟩
theorem Cells6.drewN (h : Cells6 a0 a1 a2 a3 A4 c4 l4 A5 c5 l5 W g) (n : Nat) : Cells6 a0 a1 a2 a3 A4 c4 l4 A5 c5 l5 (W.drewN n) g := h.below (pw_below_drewN (Below.refl _ _) n)
theorem Cells6.drew (h : Cells6 a0 a1 a2 a3 A4 c4 l4 A5 c5 l5 W g) : Cells6 a0 a1 a2 a3 A4 c4 l4 A5 c5 l5 W.drew g := h.below (below_drew1 (Below.refl _ _))
theorem Cells6.alloc (h : Cells6 a0 a1 a2 a3 A4 c4 l4 A5 c5 l5 W g) (o : Obj) : Cells6 a0 a1 a2 a3 A4 c4 l4 A5 c5 l5 (W.alloc o) g := h.below ((Below.refl _ W).alloc (Nat.le_refl _) o)
end
theorem light_c (a0 a1 a2 a3 : Int) (A4 : Option Addr) (c4 : Nat) (l4 : List Int) (A5 : Option Addr) (c5 : Nat) (l5 : List Int) (w : World) (h : ActIn a0 a1 a2 a3 A4 c4 l4 A5 c5 l5 w) (b : Bool) (hb : (decide (l4.length ≤ 120) && decide (l5.length ≤ 120)) = b) (W : World) (hW : Below w.heap.size w W) :
    Calls Try.prog 30 #[.slice (some ⟨W.heap.size, 0, none⟩) 1 1] (W.alloc (.cells #[.int .i64 a0, .int .i64 a1, .int .i64 a2, .int .i64 a3, .slice A4 l4.length c4, .slice A5 l5.length c5] 46)) fun e w' => e = .returned (.bool b) ∧ Below (W.alloc (.cells #[.int .i64 a0, .int .i64 a1, .int .i64 a2, .int .i64 a3, .slice A4 l4.length c4, .slice A5 l5.length c5] 46)).heap.size (W.alloc (.cells #[.int .i64 a0, .int .i64 a1, .int .i64 a2, .int .i64 a3, .slice A4 l4.length c4, .slice A5 l5.length c5] 46)) w' := by
  subst hb
  obtain ⟨k, hk⟩ := light_is ⟨a0, a1, a2, a3, l4, l5⟩
  have hB := hW.alloc hW.size (.cells #[.int .i64 a0, .int .i64 a1, .int .i64 a2, .int .i64 a3, .slice A4 l4.length c4, .slice A5 l5.length c5] 46)
  have h2 := h.below hB
  refine (wayfinderlaw06_light.calls k (some ⟨W.heap.size, 0, none⟩) 1 [⟨a0, a1, a2, a3, l4, l5⟩] _ _ (act_row ⟨a0, a1, a2, a3, l4, l5⟩ (heap_alloc_new W _) h2.r4 h2.c4 h2.r5 h2.c5) (Nat.le_refl _) hk).mono ?_
  rintro e w' ⟨rfl, nd, rfl⟩
  exact ⟨rfl, pw_below_drewN (Below.refl _ _) nd⟩
theorem DiskNil_c (a0 a1 a2 a3 : Int) (A4 : Option Addr) (c4 : Nat) (l4 : List Int) (A5 : Option Addr) (c5 : Nat) (l5 : List Int) (w : World) (h : ActIn a0 a1 a2 a3 A4 c4 l4 A5 c5 l5 w) :
    Calls Try.prog 7 #[.agg #[.int .i64 a0, .int .i64 a1, .int .i64 a2, .int .i64 a3, .slice A4 l4.length c4, .slice A5 l5.length c5]] w fun e w' => e = .returned (.bool true) ∧ Below w.heap.size w w' := by
  obtain ⟨r1, hr1⟩ := name_c a1
  have HN1 := Aside0.mk hr1
  have HB := Aside0.mk ((Below.refl w.heap.size w).alloc (Nat.le_refl _) (.cells #[.int .i64 a0, .int .i64 a1, .int .i64 a2, .int .i64 a3, .slice A4 l4.length c4, .slice A5 l5.length c5] 46))
  have HC := Aside0.mk (show Cells6 a0 a1 a2 a3 A4 c4 l4 A5 c5 l5 (w.alloc (.cells #[.int .i64 a0, .int .i64 a1, .int .i64 a2, .int .i64 a3, .slice A4 l4.length c4, .slice A5 l5.length c5] 46)) w.heap.size from ⟨by simp, by simp, by simp, by simp, by simp, by simp⟩)
  have HA := Aside0.mk h
  obtain ⟨b, hb⟩ : ∃ b, (decide (l4.length ≤ 120) && decide (l5.length ≤ 120)) = b := ⟨_, rfl⟩
  have HL := Aside0.mk (light_c a0 a1 a2 a3 A4 c4 l4 A5 c5 l5 w h b hb)
  cases b with
  | false =>
    clear h hr1 hb
    go_enter Try.func7, Try.ntmps7
    go_wp2_with (first | (go_at_call 14; ((with_reducible refine (lives_c _).mono ?_); rintro e w9 ⟨rfl, hb⟩; have n0_ := Aside0.mk (below_step (by repeat (first | (with_reducible first | exact HB.out | apply below_alloc | apply pw_below_drewN | apply below_drew1) | exact HB.out)) hb); have n1_ := Aside0.mk (Cells6.below (by repeat (first | exact HC.out | exact Cells6.drewN HC.out _ | exact Cells6.drew HC.out | exact Cells6.alloc HC.out _ | refine Cells6.drewN ?_ _ | refine Cells6.drew ?_ | refine Cells6.alloc ?_ _)) hb); clear HB HC; have HB := n0_; have HC := n1_; obtain ⟨hd0, hd1, hd2, hd3, hd4, hd5⟩ := HC.out; clear hb n0_ n1_)) | (go_at_call 30; ((with_reducible refine (HL.out _ (by repeat (first | (with_reducible first | exact HB.out | apply below_alloc | apply pw_below_drewN | apply below_drew1) | exact HB.out))).mono ?_); rintro e w9 ⟨rfl, hb⟩; have n0_ := Aside0.mk (below_step (by repeat (first | (with_reducible first | exact HB.out | apply below_alloc | apply pw_below_drewN | apply below_drew1) | exact HB.out)) hb); have n1_ := Aside0.mk (Cells6.below (by repeat (first | exact HC.out | exact Cells6.drewN HC.out _ | exact Cells6.drew HC.out | exact Cells6.alloc HC.out _ | refine Cells6.drewN ?_ _ | refine Cells6.drew ?_ | refine Cells6.alloc ?_ _)) hb); clear HB HC; have HB := n0_; have HC := n1_; obtain ⟨hd0, hd1, hd2, hd3, hd4, hd5⟩ := HC.out; clear hb n0_ n1_)))
    go_ret
    exact ⟨rfl, HB.out⟩
  | true =>
    simp only [Bool.and_eq_true, decide_eq_true_eq] at hb
    have HD := Aside0.mk (fun W (hW : Below w.heap.size w W) => done_c a0 a1 a2 a3 A4 c4 l4 A5 c5 l5 W (h.below hW) hb.1 hb.2)
    clear h hr1 hb
    go_enter Try.func7, Try.ntmps7
    go_wp2_with (first | (go_at_call 14; ((with_reducible refine (lives_c _).mono ?_); rintro e w9 ⟨rfl, hb⟩; have n0_ := Aside0.mk (below_step (by repeat (first | (with_reducible first | exact HB.out | apply below_alloc | apply pw_below_drewN | apply below_drew1) | exact HB.out)) hb); have n1_ := Aside0.mk (Cells6.below (by repeat (first | exact HC.out | exact Cells6.drewN HC.out _ | exact Cells6.drew HC.out | exact Cells6.alloc HC.out _ | refine Cells6.drewN ?_ _ | refine Cells6.drew ?_ | refine Cells6.alloc ?_ _)) hb); clear HB HC; have HB := n0_; have HC := n1_; obtain ⟨hd0, hd1, hd2, hd3, hd4, hd5⟩ := HC.out; clear hb n0_ n1_)) | (go_at_call 30; ((with_reducible refine (HL.out _ (by repeat (first | (with_reducible first | exact HB.out | apply below_alloc | apply pw_below_drewN | apply below_drew1) | exact HB.out))).mono ?_); rintro e w9 ⟨rfl, hb⟩; have n0_ := Aside0.mk (below_step (by repeat (first | (with_reducible first | exact HB.out | apply below_alloc | apply pw_below_drewN | apply below_drew1) | exact HB.out)) hb); have n1_ := Aside0.mk (Cells6.below (by repeat (first | exact HC.out | exact Cells6.drewN HC.out _ | exact Cells6.drew HC.out | exact Cells6.alloc HC.out _ | refine Cells6.drewN ?_ _ | refine Cells6.drew ?_ | refine Cells6.alloc ?_ _)) hb); clear HB HC; have HB := n0_; have HC := n1_; obtain ⟨hd0, hd1, hd2, hd3, hd4, hd5⟩ := HC.out; clear hb n0_ n1_)) | (go_at_call 37; ((with_reducible refine (HN1.out _).mono ?_); rintro e w9 ⟨rfl, hb⟩; have n0_ := Aside0.mk (below_step (by repeat (first | (with_reducible first | exact HB.out | apply below_alloc | apply pw_below_drewN | apply below_drew1) | exact HB.out)) hb); have n1_ := Aside0.mk (Cells6.below (by repeat (first | exact HC.out | exact Cells6.drewN HC.out _ | exact Cells6.drew HC.out | exact Cells6.alloc HC.out _ | refine Cells6.drewN ?_ _ | refine Cells6.drew ?_ | refine Cells6.alloc ?_ _)) hb); clear HB HC; have HB := n0_; have HC := n1_; obtain ⟨hd0, hd1, hd2, hd3, hd4, hd5⟩ := HC.out; clear hb n0_ n1_)) | (go_at_call 19; ((with_reducible refine (nRead _ _).mono ?_); rintro e w9 ⟨rfl, hb⟩; have n0_ := Aside0.mk (below_step (by repeat (first | (with_reducible first | exact HB.out | apply below_alloc | apply pw_below_drewN | apply below_drew1) | exact HB.out)) hb); have n1_ := Aside0.mk (Cells6.below (by repeat (first | exact HC.out | exact Cells6.drewN HC.out _ | exact Cells6.drew HC.out | exact Cells6.alloc HC.out _ | refine Cells6.drewN ?_ _ | refine Cells6.drew ?_ | refine Cells6.alloc ?_ _)) hb); clear HB HC; have HB := n0_; have HC := n1_; obtain ⟨hd0, hd1, hd2, hd3, hd4, hd5⟩ := HC.out; clear hb n0_ n1_)) | (go_at_call 31; ((with_reducible refine (HD.out _ (by repeat (first | (with_reducible first | exact HB.out | apply below_alloc | apply pw_below_drewN | apply below_drew1) | exact HB.out))).mono ?_); rintro e w9 ⟨rfl, hb⟩; have n0_ := Aside0.mk (below_step (by repeat (first | (with_reducible first | exact HB.out | apply below_alloc | apply pw_below_drewN | apply below_drew1) | exact HB.out)) hb); have n1_ := Aside0.mk (Cells6.below (by repeat (first | exact HC.out | exact Cells6.drewN HC.out _ | exact Cells6.drew HC.out | exact Cells6.alloc HC.out _ | refine Cells6.drewN ?_ _ | refine Cells6.drew ?_ | refine Cells6.alloc ?_ _)) hb); clear HB HC; have HB := n0_; have HC := n1_; obtain ⟨hd0, hd1, hd2, hd3, hd4, hd5⟩ := HC.out; clear hb n0_ n1_)) | (go_at_call 29; ((with_reducible refine (nNames _).mono ?_); rintro e w9 ⟨rfl, hb⟩; have n0_ := Aside0.mk (below_step (by repeat (first | (with_reducible first | exact HB.out | apply below_alloc | apply pw_below_drewN | apply below_drew1) | exact HB.out)) hb); have n1_ := Aside0.mk (Cells6.below (by repeat (first | exact HC.out | exact Cells6.drewN HC.out _ | exact Cells6.drew HC.out | exact Cells6.alloc HC.out _ | refine Cells6.drewN ?_ _ | refine Cells6.drew ?_ | refine Cells6.alloc ?_ _)) hb); clear HB HC; have HB := n0_; have HC := n1_; obtain ⟨hd0, hd1, hd2, hd3, hd4, hd5⟩ := HC.out; clear hb n0_ n1_)) | (go_at_call 24; ((with_reducible refine (nSize _ _).mono ?_); rintro e w9 ⟨rfl, hb⟩; have n0_ := Aside0.mk (below_step (by repeat (first | (with_reducible first | exact HB.out | apply below_alloc | apply pw_below_drewN | apply below_drew1) | exact HB.out)) hb); have n1_ := Aside0.mk (Cells6.below (by repeat (first | exact HC.out | exact Cells6.drewN HC.out _ | exact Cells6.drew HC.out | exact Cells6.alloc HC.out _ | refine Cells6.drewN ?_ _ | refine Cells6.drew ?_ | refine Cells6.alloc ?_ _)) hb); clear HB HC; have HB := n0_; have HC := n1_; obtain ⟨hd0, hd1, hd2, hd3, hd4, hd5⟩ := HC.out; clear hb n0_ n1_)) | (go_at_call 25; ((with_reducible refine (nSynced _ _).mono ?_); rintro e w9 ⟨rfl, hb⟩; have n0_ := Aside0.mk (below_step (by repeat (first | (with_reducible first | exact HB.out | apply below_alloc | apply pw_below_drewN | apply below_drew1) | exact HB.out)) hb); have n1_ := Aside0.mk (Cells6.below (by repeat (first | exact HC.out | exact Cells6.drewN HC.out _ | exact Cells6.drew HC.out | exact Cells6.alloc HC.out _ | refine Cells6.drewN ?_ _ | refine Cells6.drew ?_ | refine Cells6.alloc ?_ _)) hb); clear HB HC; have HB := n0_; have HC := n1_; obtain ⟨hd0, hd1, hd2, hd3, hd4, hd5⟩ := HC.out; clear hb n0_ n1_)) | (go_at_call 26; ((with_reducible refine (nUsed _).mono ?_); rintro e w9 ⟨rfl, hb⟩; have n0_ := Aside0.mk (below_step (by repeat (first | (with_reducible first | exact HB.out | apply below_alloc | apply pw_below_drewN | apply below_drew1) | exact HB.out)) hb); have n1_ := Aside0.mk (Cells6.below (by repeat (first | exact HC.out | exact Cells6.drewN HC.out _ | exact Cells6.drew HC.out | exact Cells6.alloc HC.out _ | refine Cells6.drewN ?_ _ | refine Cells6.drew ?_ | refine Cells6.alloc ?_ _)) hb); clear HB HC; have HB := n0_; have HC := n1_; obtain ⟨hd0, hd1, hd2, hd3, hd4, hd5⟩ := HC.out; clear hb n0_ n1_)) | (go_at_call 27; ((with_reducible refine (nRoom _).mono ?_); rintro e w9 ⟨rfl, hb⟩; have n0_ := Aside0.mk (below_step (by repeat (first | (with_reducible first | exact HB.out | apply below_alloc | apply pw_below_drewN | apply below_drew1) | exact HB.out)) hb); have n1_ := Aside0.mk (Cells6.below (by repeat (first | exact HC.out | exact Cells6.drewN HC.out _ | exact Cells6.drew HC.out | exact Cells6.alloc HC.out _ | refine Cells6.drewN ?_ _ | refine Cells6.drew ?_ | refine Cells6.alloc ?_ _)) hb); clear HB HC; have HB := n0_; have HC := n1_; obtain ⟨hd0, hd1, hd2, hd3, hd4, hd5⟩ := HC.out; clear hb n0_ n1_)) | (go_at_call 20; ((with_reducible refine (nOff _).mono ?_); rintro e w9 ⟨rfl, hb⟩; have n0_ := Aside0.mk (below_step (by repeat (first | (with_reducible first | exact HB.out | apply below_alloc | apply pw_below_drewN | apply below_drew1) | exact HB.out)) hb); have n1_ := Aside0.mk (Cells6.below (by repeat (first | exact HC.out | exact Cells6.drewN HC.out _ | exact Cells6.drew HC.out | exact Cells6.alloc HC.out _ | refine Cells6.drewN ?_ _ | refine Cells6.drew ?_ | refine Cells6.alloc ?_ _)) hb); clear HB HC; have HB := n0_; have HC := n1_; obtain ⟨hd0, hd1, hd2, hd3, hd4, hd5⟩ := HC.out; clear hb n0_ n1_)) | (go_at_call 32; ((with_reducible refine (nClone _).mono ?_); rintro e w9 ⟨rfl, hb⟩; have n0_ := Aside0.mk (below_step (by repeat (first | (with_reducible first | exact HB.out | apply below_alloc | apply pw_below_drewN | apply below_drew1) | exact HB.out)) hb); have n1_ := Aside0.mk (Cells6.below (by repeat (first | exact HC.out | exact Cells6.drewN HC.out _ | exact Cells6.drew HC.out | exact Cells6.alloc HC.out _ | refine Cells6.drewN ?_ _ | refine Cells6.drew ?_ | refine Cells6.alloc ?_ _)) hb); clear HB HC; have HB := n0_; have HC := n1_; obtain ⟨hd0, hd1, hd2, hd3, hd4, hd5⟩ := HC.out; clear hb n0_ n1_)) | (go_at_call 34; ((with_reducible refine (nSame _).mono ?_); rintro e w9 ⟨rfl, hb⟩; have n0_ := Aside0.mk (below_step (by repeat (first | (with_reducible first | exact HB.out | apply below_alloc | apply pw_below_drewN | apply below_drew1) | exact HB.out)) hb); have n1_ := Aside0.mk (Cells6.below (by repeat (first | exact HC.out | exact Cells6.drewN HC.out _ | exact Cells6.drew HC.out | exact Cells6.alloc HC.out _ | refine Cells6.drewN ?_ _ | refine Cells6.drew ?_ | refine Cells6.alloc ?_ _)) hb); clear HB HC; have HB := n0_; have HC := n1_; obtain ⟨hd0, hd1, hd2, hd3, hd4, hd5⟩ := HC.out; clear hb n0_ n1_)))
    go_ret
    exact ⟨rfl, HB.out⟩
end Go.Proofs.Ytcgincjgcdbcfaa.G
