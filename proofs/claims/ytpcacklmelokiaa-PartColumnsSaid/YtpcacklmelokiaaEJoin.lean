/- part.Join, in the print's form. -/
import Derived.Test.YtpcacklmelokiaaRowsA
namespace Go.Proofs.Ytpcacklmelokiaa.G
open Go.RowKit Go.Shelf Go.Proofs.YtpcacklmelokiaaW.PrintWords
set_option linter.unusedVariables false
set_option linter.unusedSimpArgs false

def joinOk (l : List (List Int)) : Prop := 1 ≤ l.length ∧ 1 ≤ (l.getD 0 []).length ∧ l.length ≤ 1024 ∧ l.length * (l.getD 0 []).length ≤ 1024 ∧ ∀ v ∈ l, v.length = (l.getD 0 []).length
instance (l : List (List Int)) : Decidable (joinOk l) := by unfold joinOk; infer_instance
theorem flat_const : ∀ (l : List (List Int)) (m : Nat), (∀ v ∈ l, v.length = m) → l.flatten.length = l.length * m
  | [], m, _ => by simp
  | v :: l, m, h => by
    rw [List.flatten_cons, List.length_append, flat_const l m (fun x hx => h x (List.mem_cons_of_mem _ hx)), h v List.mem_cons_self, List.length_cons, Nat.add_mul, Nat.one_mul, Nat.add_comm]

theorem Join1_c (A : Option Addr) (n c B : Nat) (ad : Addr) (len cap : Nat) (A' : Option Addr) (m c' : Nat) (b : Bool) (hne : ((n : Int) != (m : Int)) = b) (W : World) (h0 : 0 < len) (hl : len ≤ 9223372036854775807) (hb : W.cell? ⟨B, 0, none⟩ = some (.slice (some ad) len cap)) (hx : W.cell? (ad.add 0) = some (.slice A' m c')) :
    Calls Try.prog 48 #[.slice A n c, .pointer (some ⟨B, 0, none⟩)] W fun e W' => e = .returned (.bool b) ∧ W = W' := by
  have hx2 : W.cell? ad = some (.slice A' m c') := by rw [← hx]; congr 1
  go_enter Try.func48, Try.ntmps48
  go_wp2
  go_ret
  exact ⟨rfl, rfl⟩

set_option maxRecDepth 100000 in
set_option maxHeartbeats 1000000 in
theorem Join_c (A0 : Option Addr) (c0 : Nat) (l : List (List Int)) (hlim : ∀ v ∈ l, v.length ≤ 1000000) (w : World) (hr : Kd.C (Kd.slice 21 (Kd.int .i32)) w A0 l.length l) :
    Calls Try.prog 17 #[.slice A0 l.length c0] w fun e w' => ∃ v, e = .returned (.tuple #[v, .int .i64 (if joinOk l then 0 else 2)]) ∧ (Kd.int .i32).R 21 w' w.heap.size (fun _ => True) v (if joinOk l then l.flatten else []) ∧ Below w.heap.size w w' := by
  have hm := C_max hr
  have hB0 : Below w.heap.size w (w.alloc (.cells #[.slice A0 l.length c0] 22)) := (Below.refl _ w).alloc (Nat.le_refl _) _
  have HR := Aside0.mk (fun W (hB : Below w.heap.size w W) => Kd.C_below hr hB)
  have HB0 := Aside0.mk hB0
  by_cases h0 : l.length = 0
  · have HJ := Aside0.mk (show ¬ joinOk l from fun h => by have := h.1; omega)
    rw [if_neg HJ.out, if_neg HJ.out]
    have hd : ((l.length : Int) == 0) = true := by simp; exact List.eq_nil_of_length_eq_zero h0
    clear hr hB0 h0 HJ
    go_enter Try.func17, Try.ntmps17
    go_wp2
    go_quiet (fail)
    go_wp2
    go_ret2
    exact ⟨_, rfl, Kd.R_nil _ _ _ _ _, pw_below_drewN HB0.out _⟩
  have hd0 : ((l.length : Int) == 0) = false := by simp; intro h; exact h0 (by rw [h]; rfl)
  obtain ⟨ad, A', c', rfl, hxw, hxc, hC⟩ := rows_get (HR.out w (Below.refl _ _)) 0 (by omega)
  have ha0 : ad.add 0 = ad := by simp [Addr.add]
  rw [ha0] at hxw
  have HX := Aside0.mk (fun W (hW : Below w.heap.size w W) => pw_cell_below hW hxw)
  have hx := HX.out _ HB0.out
  have hm2 := C_max hC
  have hg0 : 0 < l.length := by omega
  by_cases h1 : (l.getD 0 []).length = 0
  · have HJ := Aside0.mk (show ¬ joinOk l from fun h => by have := h.2.1; omega)
    rw [if_neg HJ.out, if_neg HJ.out]
    rw [h1] at hx HX
    clear hr hB0 HJ hC hxw HX
    go_enter Try.func17, Try.ntmps17
    go_wp2
    go_quiet (fail)
    go_wp2
    go_ret2
    exact ⟨_, rfl, Kd.R_nil _ _ _ _ _, pw_below_drewN HB0.out _⟩
  have hd1 : (((l.getD 0 []).length : Int) == 0) = false := by simp; intro h; exact h1 (by rw [List.getD_eq_getElem?_getD, h]; rfl)
  by_cases h2 : 1024 < l.length
  · have HJ := Aside0.mk (show ¬ joinOk l from fun h => by have := h.2.2.1; omega)
    rw [if_neg HJ.out, if_neg HJ.out]
    have hd2 : decide ((l.length : Int) > 1024) = true := by simp; omega
    clear hr hB0 HJ hC hxw HX
    generalize (l.getD 0 []).length = m at *
    go_enter Try.func17, Try.ntmps17
    go_wp2
    go_quiet (fail)
    go_wp2
    go_ret2
    exact ⟨_, rfl, Kd.R_nil _ _ _ _ _, pw_below_drewN HB0.out _⟩
  have hd2 : decide ((l.length : Int) > 1024) = false := by simp; omega
  have hml : (l.getD 0 []).length ≤ 1000000 := by
    rw [List.getD_eq_getElem?_getD, List.getElem?_eq_getElem hg0]
    exact hlim _ (List.getElem_mem hg0)
  have hqb := Nat.mul_le_mul (show l.length ≤ 1024 by omega) hml
  obtain ⟨q, hq⟩ : ∃ q, l.length * (l.getD 0 []).length = q := ⟨_, rfl⟩
  rw [hq] at hqb
  have hw : wrap64 ((l.length : Int) * ((l.getD 0 []).length : Int)) = (q : Int) := by rw [← Int.natCast_mul, hq]; unfold wrap64; omega
  by_cases h3 : 1024 < q
  · have HJ := Aside0.mk (show ¬ joinOk l from fun h => by have := h.2.2.2.1; omega)
    rw [if_neg HJ.out, if_neg HJ.out]
    have hd3 : decide ((q : Int) > 1024) = true := by simp; omega
    clear hr hB0 HJ hC hxw HX hq hml
    generalize (l.getD 0 []).length = m at *
    go_enter Try.func17, Try.ntmps17
    go_wp2
    go_quiet (fail)
    go_wp2
    go_ret2
    exact ⟨_, rfl, Kd.R_nil _ _ _ _ _, pw_below_drewN HB0.out _⟩
  have hd3 : decide ((q : Int) > 1024) = false := by simp; omega
  have HCf := Aside0.mk (fun n => ContainsFunc_rows (some ad) l.length c0 48 #[.pointer (some ⟨w.heap.size, 0, none⟩)] (fun j => ((l.getD j []).length : Int) != ((l.getD 0 []).length : Int)) ((w.alloc (.cells #[.slice (some ad) l.length c0] 22)).drewN n) (enters_of Try.func48 (by kernel_rfl) rfl) hm (fun j hj => by
    have hBn := pw_below_drewN HB0.out n
    obtain ⟨ad', A1, c1, e, hx1, _, _⟩ := rows_get (HR.out _ hBn) j hj
    refine ⟨ad', _, e, hx1, fun W hW => ?_⟩
    have hb := pw_cell_below hW (show (((w.alloc (.cells #[.slice (some ad) l.length c0] 22)).drewN n)).cell? ⟨w.heap.size, 0, none⟩ = some (.slice (some ad) l.length c0) by simp)
    have hx2 := HX.out W (below_then hBn hBn.size hW)
    rw [← ha0] at hx2
    exact (Join1_c A1 _ c1 w.heap.size ad l.length c0 A' _ c' _ rfl W hg0 hm hb hx2).mono fun e W' ⟨he, hw⟩ => ⟨he, hw ▸ hW⟩))
  have hany : (List.range l.length).any (fun j => ((l.getD j []).length : Int) != ((l.getD 0 []).length : Int)) = !decide (∀ v ∈ l, v.length = (l.getD 0 []).length) := by
    rw [Bool.eq_iff_iff]
    simp only [List.any_eq_true, List.mem_range, bne_iff_ne, ne_eq, Bool.not_eq_true', decide_eq_false_iff_not]
    constructor
    · rintro ⟨j, hj, hne⟩ hall
      refine hne ?_
      have := hall _ (List.getElem_mem hj)
      rw [List.getD_eq_getElem?_getD, List.getElem?_eq_getElem hj]
      exact congrArg _ this
    · intro hn
      refine Classical.byContradiction fun hno => hn fun v hv => ?_
      obtain ⟨j, hj, rfl⟩ := List.mem_iff_getElem.1 hv
      have h4 := Classical.byContradiction fun h => hno ⟨j, hj, h⟩
      rw [List.getD_eq_getElem?_getD, List.getElem?_eq_getElem hj] at h4
      exact Int.ofNat_inj.1 h4
  rw [hany] at HCf
  have HCc := Aside0.mk (fun W (hW : Below w.heap.size w W) (hfl : l.flatten.length ≤ 1000000) => Concat_rows (some ad) c0 l hfl W (HR.out W hW))
  by_cases h4 : ∀ v ∈ l, v.length = (l.getD 0 []).length
  · rw [decide_eq_true h4] at HCf
    have HJ := Aside0.mk (show joinOk l from ⟨by omega, by omega, by omega, by omega, h4⟩)
    rw [if_pos HJ.out, if_pos HJ.out]
    have HFl := Aside0.mk (show l.flatten.length ≤ 1000000 by rw [flat_const l _ h4]; omega)
    clear hr hB0 HJ hC hxw HX hq hml hany h4 HR
    generalize (l.getD 0 []).length = m at *
    go_enter Try.func17, Try.ntmps17
    go_wp2
    go_quiet (fail)
    rename_i nq
    have HBn := Aside0.mk (pw_below_drewN HB0.out nq)
    have hbox : ((w.alloc (.cells #[.slice (some ad) l.length c0] 22)).drewN nq).cell? ⟨w.heap.size, 0, none⟩ = some (.slice (some ad) l.length c0) := by simp
    go_wp2_with (first
      | (go_at_call 42; ((with_reducible refine (HCf.out nq).mono ?_); rintro e w1 ⟨rfl, hb⟩; have HB1 := Aside0.mk (below_then HBn.out HBn.out.size hb); have hbox1 := pw_cell_below hb hbox; clear hb))
      | (go_at_call 49; ((with_reducible refine (HCc.out _ HB1.out HFl.out).mono ?_); rintro e w2 ⟨v, rfl, hr2, hb2⟩; have HR2 := Aside0.mk hr2; have HB2 := Aside0.mk (below_then HB1.out HB1.out.size hb2); clear hr2 hb2)))
    go_ret2
    exact ⟨_, rfl, Kd.R_lower HR2.out HB1.out.size, HB2.out⟩
  · rw [decide_eq_false h4] at HCf
    have HJ := Aside0.mk (show ¬ joinOk l from fun h => h4 h.2.2.2.2)
    rw [if_neg HJ.out, if_neg HJ.out]
    clear hr hB0 HJ hC hxw HX hq hml hany h4 HR
    generalize (l.getD 0 []).length = m at *
    go_enter Try.func17, Try.ntmps17
    go_wp2
    go_quiet (fail)
    rename_i nq
    have HBn := Aside0.mk (pw_below_drewN HB0.out nq)
    go_wp2_with (go_at_call 42; ((with_reducible refine (HCf.out nq).mono ?_); rintro e w1 ⟨rfl, hb⟩; have HB1 := Aside0.mk (below_then HBn.out HBn.out.size hb); clear hb))
    go_ret2
    exact ⟨_, rfl, Kd.R_nil _ _ _ _ _, HB1.out⟩

end Go.Proofs.Ytpcacklmelokiaa.G
namespace Go.Proofs.Ytpcacklmelokiaa.Pa
open Go.RowKit Go.Proofs.YtpcacklmelokiaaW.PrintWords Go.Proofs.Ytpcacklmelokiaa.G
set_option linter.unusedVariables false

def part_Join.f (l : List (List Int)) : Option (List Int × Int) := if ∀ v ∈ l, v.length ≤ 1000000 then some (if joinOk l then l.flatten else [], if joinOk l then 0 else 2) else none
theorem part_Join.calls (A0 : Option Addr) (c0 : Nat) (l0 : List (List Int)) (r1 : List Int) (r2 : Int) (w : World) (hr0 : Kd.C (Kd.slice 21 (Kd.int .i32)) w A0 l0.length l0) (hc0 : l0.length ≤ c0) (h : part_Join.f l0 = some (r1, r2)) :
    Calls Try.prog 17 #[.slice A0 l0.length c0] w fun e w' => ∃ v0_ : Value, e = .returned (.tuple #[v0_, .int .i64 r2]) ∧ Kd.R (Kd.int .i32) 21 w' w.heap.size (fun _ => True) v0_ r1 ∧ Below w.heap.size w w' := by
  unfold part_Join.f at h
  split at h
  · rename_i hl
    cases h
    exact Join_c A0 c0 l0 hl w hr0
  · cases h

end Go.Proofs.Ytpcacklmelokiaa.Pa
