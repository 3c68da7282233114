/- means.Step, means.Cents; lists, plainly. -/
import Derived.Test.YtcgpkfpfpjclkaaMeanF
namespace Go.Proofs.Ytcgpkfpfpjclkaa.G
open Go.RowKit Go.Shelf Go.Proofs.YtcgpkfpfpjclkaaW.PrintWords
set_option linter.unusedVariables false
set_option linter.unusedSimpArgs false
set_option maxRecDepth 100000 in
theorem Step_ok {L : Lay} {w : World} {m : Nat} {s : St} (h : MSt L w (s.raw m)) (hg : Good m s) (hit : s.it ≤ 64) (hr : s.r < s.it) :
    Calls Try.prog 15 #[.pointer (some ⟨L.g, 0, none⟩)] w fun e w' => e = .returned (.tuple #[.int .i64 (stepN m s : Int), .int .i64 0]) ∧ MSt L w' ((stepS s).raw m) ∧ Fr L.lo L.hi w w' := by
  have HD0 := Aside0.mk (Done_c h false (decide_eq_false (by omega)))
  have HU := Aside0.mk (fun n => unit_c (h.drewN n) hg (by omega))
  have HF := Aside0.mk (fun n => (Fr.refl L.lo L.hi w).drewN n)
  obtain ⟨c0, c1, c2, c3, c4, c5, c6, c7, c8⟩ := MSt.cells (P := s.P) (C := s.C) (it := s.it) (r := s.r) (a := s.a) (of := s.of) h
  unfold Lay.units at c8
  clear h hg hr hit
  go_enter Try.func15, Try.ntmps15
  go_wp2_with (go_at_call 14; ((with_reducible refine HD0.out.mono ?_); rintro e w' ⟨rfl, ⟨nd, rfl⟩⟩))
  refine (HU.out _).mono ?_
  rintro e w2 ⟨rfl, hM2, hF2⟩
  have HM2 := Aside0.mk hM2
  have HF2 := Aside0.mk ((HF.out _).trans hF2)
  clear hM2 hF2 HU c0 c1 c2 c3 c4 c5 c6 c7 c8
  go_wp2
  go_ret2
  exact ⟨rfl, HM2.out, HF2.out⟩
set_option maxRecDepth 100000 in
theorem Step_end {L : Lay} {w : World} {m : Nat} {s : St} (h : MSt L w (s.raw m)) (hr : s.r = s.it) :
    Calls Try.prog 15 #[.pointer (some ⟨L.g, 0, none⟩)] w fun e w' => e = .returned (.tuple #[.int .i64 0, .int .i64 10]) ∧ Drawn0 w w' := by
  have HD0 := Aside0.mk (Done_c h true (decide_eq_true hr))
  clear h hr
  go_enter Try.func15, Try.ntmps15
  go_wp2_with (go_at_call 14; ((with_reducible refine HD0.out.mono ?_); rintro e w' ⟨rfl, ⟨nd, rfl⟩⟩))
  go_ret2
  exact ⟨rfl, ⟨_, rfl⟩⟩
set_option maxRecDepth 100000 in
theorem Cents_c {L : Lay} {w : World} {m : Nat} {s : St} (h : MSt L w (s.raw m)) (hg : Good m s) :
    Calls Try.prog 17 #[.pointer (some ⟨L.g, 0, none⟩)] w fun e w' => ∃ v, e = .returned v ∧ rowsK.R 39 w' w.heap.size (fun _ => True) v s.C ∧ Below w.heap.size w w' := by
  obtain ⟨hc, hr⟩ := MSt.readC (q := s.raw m) h
  have hl := hg.k2
  obtain ⟨K, hK⟩ := (Mm.copied_is s.C (by omega) (fun j hj => by rw [hg.C.len j hj]; exact hg.m2)).rounds
  have HCp := Aside0.mk (Mm.means_copied.calls K (some ⟨L.gC, 0, none⟩) L.cC s.C s.C w hr hc hK)
  obtain ⟨c0, c1, c2, c3, c4, c5, c6, c7, c8⟩ := MSt.cells (P := s.P) (C := s.C) (it := s.it) (r := s.r) (a := s.a) (of := s.of) h
  clear h hg hr hK hc
  go_enter Try.func17, Try.ntmps17
  go_wp2_with (go_at_call 37; ((with_reducible refine HCp.out.mono ?_); rintro e w1 ⟨v1, rfl, hS, hb⟩; have HR := Aside0.mk (Kd.S_R hS); have HB := Aside0.mk hb; clear hS hb))
  go_ret
  exact ⟨_, rfl, HR.out, HB.out⟩
end Go.Proofs.Ytcgpkfpfpjclkaa.G
namespace Go.Proofs.Ytcgpkfpfpjclkaa.Mm
open Go.RowKit Go.Proofs.YtcgpkfpfpjclkaaW.PrintWords Go.Proofs.YtcgpkfpfpjclkaaW.PrintLast Go.Proofs.Ytcgpkfpfpjclkaa.G
set_option linter.unusedVariables false
theorem Same_refl (a : List Int) (ha : a.length ≤ 9223372036854775807) : Ev (fun k => wayfinderkit_Same_int32.f k a a) true := by
  unfold wayfinderkit_Same_int32.f
  refine Ev.pos rfl ?_
  refine Ev.forE (l := fun i k => wayfinderkit_Same_int32.l0 k a a (i : Int)) (n := a.length) (Nat.zero_le _) (fun i _ hi h => ?_) ?_
  · exact evShift (fun k => by simp only [wayfinderkit_Same_int32.l0]; rw [if_pos (by omega), if_pos (by omega), if_pos (by omega), if_pos trivial, wrap_succ (by omega)]) h
  · exact evShift (g := fun _ => some true) (fun k => by simp only [wayfinderkit_Same_int32.l0]; rw [if_neg (by omega)]) (Ev.some_ _)
theorem Lists_refl (l : List (List Int)) (hl : l.length ≤ 1000000) (hr : ∀ j, (l.getD j []).length ≤ 1000000) : Ev (fun k => wayfinderkit_Lists_int32.f k l l) true := by
  unfold wayfinderkit_Lists_int32.f
  refine Ev.pos rfl ?_
  refine Ev.forE (l := fun i k => wayfinderkit_Lists_int32.l0 k l l (i : Int)) (n := l.length) (Nat.zero_le _) (fun i _ hi h => ?_) ?_
  · refine evShift (fun k => by simp only [wayfinderkit_Lists_int32.l0]; rw [if_pos (by omega), if_pos (by omega), if_pos (by omega), rdL, wrap_succ (by omega)]) ?_
    exact Ev.bind (Same_refl _ (by have := hr i; omega)) (Ev.pos rfl h)
  · exact evShift (g := fun _ => some true) (fun k => by simp only [wayfinderkit_Lists_int32.l0]; rw [if_neg (by omega)]) (Ev.some_ _)
theorem OwnLists_is (P : List (List Int)) (hl : P.length ≤ 1000000) (hr : ∀ j, (P.getD j []).length ≤ 1000000) : Ev (fun k => wayfinderkit_OwnLists_int32.f k P) P := by
  show Ev (fun k => wayfinderkit_OwnLists_int32.l0 k P (P.take 0) ((0 : Nat) : Int)) _
  refine Ev.forE (l := fun i k => wayfinderkit_OwnLists_int32.l0 k P (P.take i) (i : Int)) (n := P.length) (Nat.zero_le _) (fun i _ hi h => ?_) ?_
  · refine evShift (fun k => by simp only [wayfinderkit_OwnLists_int32.l0]; rw [if_pos (by omega), if_pos (by omega), rdL, wrap_succ (by omega)]) ?_
    have hri := hr i
    refine Ev.bindc (a := P.getD i []) (by unfold wayfinderkit_Own_int32.f; rw [Option.bind_some, if_pos (by rw [List.length_nil]; omega), List.nil_append]) ?_
    refine Ev.pos (by rw [List.length_take]; omega) ?_
    have e : P.take (i + 1) = P.take i ++ [P.getD i []] := by
      rw [List.take_succ_eq_append_getElem hi, List.getD_eq_getElem?_getD, List.getElem?_eq_getElem hi, Option.getD_some]
    rw [← e]
    exact h
  · refine evShift (g := fun _ => some P) (fun k => ?_) (Ev.some_ _)
    simp only [wayfinderkit_OwnLists_int32.l0]
    rw [if_neg (by omega), List.take_length]
theorem Units_is (n : Nat) (it : Nat) (hn : n ≤ 1000) (h1 : 1 ≤ it) (h2 : it ≤ 64) : means_Units.f n it = some ((it * (n + 1) : Nat) : Int) := by
  unfold means_Units.f
  have hb : it * (n + 1) ≤ 64 * 1001 := Nat.mul_le_mul h2 (by omega)
  rw [if_neg (by omega), if_neg (by omega), if_neg (by omega), if_neg (by omega), wrap_succ (by omega), ← Int.natCast_mul, wrap_nat (by omega)]
theorem light_rows {l : List (List Int)} (h : lightL l = true) (j : Nat) : (l.getD j []).length ≤ 20 := by
  by_cases hj : j < l.length
  · exact (lightL_len h).2 j hj
  · rw [List.getD_eq_getElem?_getD, List.getElem?_eq_none (by omega)]; simp
end Go.Proofs.Ytcgpkfpfpjclkaa.Mm
namespace Go.Proofs.Ytcgpkfpfpjclkaa.G
open Go.RowKit Go.Shelf Go.Proofs.YtcgpkfpfpjclkaaW.PrintWords
set_option linter.unusedVariables false
theorem checkWide_mk {v : List Int} (h1 : 1 ≤ v.length) (h2 : v.length ≤ 1024) (hw : Mm.wideL v) : checkWide v = 0 := by
  unfold checkWide
  rw [if_neg (by omega), if_neg]
  intro h
  obtain ⟨x, hx, hb⟩ := List.any_eq_true.1 h
  obtain ⟨i, hi, rfl⟩ := List.mem_iff_getElem.1 hx
  have := hw i
  rw [List.getD_eq_getElem?_getD, List.getElem?_eq_getElem hi, Option.getD_some] at this
  unfold Mm.isWide at this
  unfold beyond at hb
  simp only [Bool.or_eq_true, decide_eq_true_eq] at hb
  omega
theorem rows_mk {m : Nat} {l : List (List Int)} (hv : Mm.Val m l) (h1 : 1 ≤ m) (h2 : m ≤ 1024) : l.any (badV m) = false := by
  cases hq : l.any (badV m) with
  | false => rfl
  | true =>
    obtain ⟨x, hx, hb⟩ := List.any_eq_true.1 hq
    obtain ⟨i, hi, rfl⟩ := List.mem_iff_getElem.1 hx
    have e : l.getD i [] = l[i] := by rw [List.getD_eq_getElem?_getD, List.getElem?_eq_getElem hi, Option.getD_some]
    have hl := hv.len i hi
    have hw := hv.wide i
    rw [e] at hl hw
    have hc := checkWide_mk (by omega) (by omega) hw
    unfold badV at hb
    simp [hc, hl] at hb
theorem newE_mk {P C : List (List Int)} {it : Int} {m : Nat} (h : NewOk P C it m) : newE P C it = 0 := by
  unfold newE
  have hm : (C.getD 0 []).length = m := h.vC.len 0 h.k1
  rw [hm, if_neg]
  rintro (h1 | h1 | h1 | h1 | h1)
  · have := h.i1; omega
  · have := h.i2; omega
  · have := h.k1; omega
  · rw [rows_mk h.vC h.m1 h.m2] at h1; cases h1
  · rw [rows_mk h.vP h.m1 h.m2] at h1; cases h1
theorem rounds_val {P C : List (List Int)} {m : Nat} (hP : Mm.Val m P) (hC : Mm.Val m C) : ∀ k, Mm.Val m (rounds P k C)
  | 0 => hC
  | k + 1 => moved_val hP (rounds_val hP hC k)
/-- The same, with other rounds. -/
theorem NewOk.with_it {P C : List (List Int)} {it it' : Int} {m : Nat} (h : NewOk P C it m) (h1 : 1 ≤ it') (h2 : it' ≤ 64) : NewOk P C it' m := ⟨h1, h2, h.k1, h.m1, h.m2, h.vC, h.vP⟩
theorem NewOk.rounds_ {P C : List (List Int)} {it it' : Int} {m : Nat} (h : NewOk P C it m) (h1 : 1 ≤ it') (h2 : it' ≤ 64) (k : Nat) : NewOk P (rounds P k C) it' m :=
  ⟨h1, h2, by rw [(rounds_wid (P := P) h.vC.len k).2]; exact h.k1, h.m1, h.m2, rounds_val h.vP h.vC k, h.vP⟩
theorem leftS_exact {m : Nat} {s : St} (hg : Good m s) (hr : s.r < s.it) : leftS (stepS s) + 1 = leftS s := by
  unfold leftS stepS
  have h1 : (s.it - s.r) * (s.P.length + 1) = (s.it - (s.r + 1)) * (s.P.length + 1) + (s.P.length + 1) := by
    rw [show s.it - s.r = (s.it - (s.r + 1)) + 1 by omega, Nat.add_mul, Nat.one_mul]
  have h2 := hg.a
  by_cases ha : s.a < s.P.length
  · rw [if_pos ha]
    show (s.it - s.r) * (s.P.length + 1) - (s.a + 1) + 1 = (s.it - s.r) * (s.P.length + 1) - s.a
    omega
  · rw [if_neg ha]
    show (s.it - (s.r + 1)) * (s.P.length + 1) - 0 + 1 = (s.it - s.r) * (s.P.length + 1) - s.a
    omega
theorem leftS_zero {m : Nat} {s : St} (hg : Good m s) (h : leftS s = 0) : s.it ≤ s.r := by
  refine Classical.byContradiction fun hn => ?_
  unfold leftS at h
  have h1 : (s.it - s.r) * (s.P.length + 1) = (s.it - (s.r + 1)) * (s.P.length + 1) + (s.P.length + 1) := by
    rw [show s.it - s.r = (s.it - (s.r + 1)) + 1 by omega, Nat.add_mul, Nat.one_mul]
  have h2 := hg.a
  omega
theorem leftS_0 (P C : List (List Int)) (it : Nat) : leftS (St0 P C it) = it * (P.length + 1) := by simp [leftS, St0]
end Go.Proofs.Ytcgpkfpfpjclkaa.G
