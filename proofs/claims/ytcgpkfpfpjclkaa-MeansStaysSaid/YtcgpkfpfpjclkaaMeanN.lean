/- means.New: what may not be. -/
import Derived.Test.YtcgpkfpfpjclkaaMeanS
import Derived.Test.YtcgpkfpfpjclkaaMeanR
namespace Go.Proofs.Ytcgpkfpfpjclkaa.G
open Go.RowKit Go.Shelf Go.Proofs.YtcgpkfpfpjclkaaW.PrintWords
set_option linter.unusedVariables false
set_option linter.unusedSimpArgs false
/-- A vector that may not be: not wide, or of another length. -/
def badV (m : Nat) (v : List Int) : Bool := (checkWide v != 0) || ((v.length : Int) != (m : Int))
set_option maxRecDepth 100000 in
theorem New1_c (A : Option Addr) (c : Nat) (v : List Int) (B m : Nat) (AC : Option Addr) (k cC : Nat) (aC : Addr) (A0 : Option Addr) (c0 : Nat) (W : World) (hAC : AC = some aC) (hk : 0 < k) (hb : W.cell? ⟨B, 0, none⟩ = some (.slice AC k cC)) (h0 : W.cell? aC = some (.slice A0 m c0)) (hr : Kd.C (Kd.int .i32) W A v.length v) :
    Calls Try.prog 35 #[.slice A v.length c, .pointer (some ⟨B, 0, none⟩)] W fun e W' => e = .returned (.bool (badV m v)) ∧ Below W.heap.size W W' := by
  subst hAC
  have HC := Aside0.mk (CheckWide_calls A c v W hr)
  have HE := Aside0.mk (show badV m v = ((checkWide v != 0) || ((v.length : Int) != (m : Int))) from rfl)
  have HX := Aside0.mk (fun W' (hB : Below W.heap.size W W') => And.intro (pw_cell_below hB hb) (pw_cell_below hB h0))
  clear hr hb h0
  generalize checkWide v = q at *
  cases hq : (q != 0)
  · rw [hq, Bool.false_or] at HE
    go_enter Try.func35, Try.ntmps35
    go_wp2_with (go_at_call 36; ((with_reducible refine HC.out.mono ?_); rintro e w' ⟨rfl, hb'⟩; obtain ⟨hb2, h02⟩ := HX.out _ hb'; have HB' := Aside0.mk hb'; clear hb'))
    go_ret
    exact ⟨by rw [HE.out]; rfl, HB'.out⟩
  · rw [hq, Bool.true_or] at HE
    go_enter Try.func35, Try.ntmps35
    go_wp2_with (go_at_call 36; ((with_reducible refine HC.out.mono ?_); rintro e w' ⟨rfl, hb'⟩; have HB' := Aside0.mk hb'; clear hb'))
    go_ret
    exact ⟨by rw [HE.out]; rfl, HB'.out⟩
/-- May the points, the cents be? (Few of both.) -/
def newE (P C : List (List Int)) (iters : Int) : Int := if iters < 1 ∨ iters > 64 ∨ C.length < 1 ∨ C.any (badV (C.getD 0 []).length) = true ∨ P.any (badV (C.getD 0 []).length) = true then 2 else 0
theorem any_range2 {α : Type} (z : α) (p : α → Bool) (l : List α) : (List.range l.length).any (fun j => p (l.getD j z)) = l.any p := by
  rw [Bool.eq_iff_iff, List.any_eq_true, List.any_eq_true]
  constructor
  · rintro ⟨j, hj, hp⟩
    have hj : j < l.length := by simpa using hj
    refine ⟨l[j], List.getElem_mem hj, ?_⟩
    rwa [List.getD_eq_getElem?_getD, List.getElem?_eq_getElem hj] at hp
  · rintro ⟨x, hx, hp⟩
    obtain ⟨j, hj, rfl⟩ := List.getElem_of_mem hx
    refine ⟨j, by simpa using hj, ?_⟩
    rw [List.getD_eq_getElem?_getD, List.getElem?_eq_getElem hj]
    exact hp
/-- ContainsFunc with New's closure. -/
theorem Cont_c (A : Option Addr) (c : Nat) (l : List (List Int)) (B m : Nat) (AC : Option Addr) (k cC : Nat) (aC : Addr) (A0 : Option Addr) (c0 : Nat) (W : World) (hAC : AC = some aC) (hk : 0 < k) (hb : W.cell? ⟨B, 0, none⟩ = some (.slice AC k cC)) (h0 : W.cell? aC = some (.slice A0 m c0)) (hr : Kd.C (Kd.slice 21 (Kd.int .i32)) W A l.length l) (hl : l.length ≤ 1000000) :
    Calls Try.prog 34 #[.slice A l.length c, .func (.func 35) #[] #[.pointer (some ⟨B, 0, none⟩)]] W fun e w' => e = .returned (.bool (l.any (badV m))) ∧ Below W.heap.size W w' := by
  have h := ContainsFunc_rows A l.length c 35 #[.pointer (some ⟨B, 0, none⟩)] (fun j => badV m (l.getD j [])) W (enters_of Try.func35 (by kernel_rfl) rfl) (by omega) (fun j hj => by
    obtain ⟨ad, A', c', e, hc, hcl, hC⟩ := rows_get hr j hj
    refine ⟨ad, _, e, hc, fun W1 hB => ?_⟩
    exact (New1_c A' c' (l.getD j []) B m AC k cC aC A0 c0 W1 hAC hk (pw_cell_below hB hb) (pw_cell_below hB h0) (Kd.C_below hC hB)).mono (fun e W' h => ⟨h.1, bcomp hB h.2⟩))
  rw [any_range2 [] (badV m) l] at h
  exact h
set_option maxRecDepth 100000 in
set_option maxHeartbeats 4000000 in
theorem New_bad (AP AC : Option Addr) (cP cC : Nat) (P C : List (List Int)) (iters : Int) (w : World) (hrP : Kd.C (Kd.slice 21 (Kd.int .i32)) w AP P.length P) (hrC : Kd.C (Kd.slice 21 (Kd.int .i32)) w AC C.length C) (hcP : P.length ≤ cP) (hcC : C.length ≤ cC) (hP : P.length ≤ 1000) (hC : C.length ≤ 1000) (he : newE P C iters ≠ 0) :
    Calls Try.prog 13 #[.slice AP P.length cP, .slice AC C.length cC, .int .i64 iters] w fun e w' => e = .returned (.tuple #[.pointer none, .int .i64 2]) ∧ Below w.heap.size w w' := by
  have HB0 := Aside0.mk ((Below.refl w.heap.size w).alloc (Nat.le_refl _) (.cells #[.slice AC C.length cC] 22))
  by_cases h1 : iters < 1
  · have hd1 : decide (iters < 1) = true := decide_eq_true h1
    clear h1 he hrP hrC
    go_enter Try.func13, Try.ntmps13
    go_wp2
    go_ret2
    exact ⟨rfl, HB0.out⟩
  have hd1 : decide (iters < 1) = false := decide_eq_false h1
  by_cases h2 : iters > 64
  · have hd2 : decide (iters > 64) = true := decide_eq_true h2
    clear h1 h2 he hrP hrC
    go_enter Try.func13, Try.ntmps13
    go_wp2
    go_ret2
    exact ⟨rfl, HB0.out⟩
  have hd2 : decide (iters > 64) = false := decide_eq_false h2
  by_cases h3 : C.length < 1
  · have hd3 : decide ((C.length : Int) < 1) = true := decide_eq_true (by omega)
    clear h1 h2 h3 he hrP hrC
    go_enter Try.func13, Try.ntmps13
    go_wp2
    go_ret2
    exact ⟨rfl, HB0.out⟩
  have hd3 : decide ((C.length : Int) < 1) = false := decide_eq_false (by omega)
  have hd4 : decide ((C.length : Int) > 4096) = false := decide_eq_false (by omega)
  obtain ⟨aC, A0, c0, hAC, hx0, _, _⟩ := rows_get hrC 0 (by omega)
  subst hAC
  have ha0 : aC.add 0 = aC := by simp [Addr.add]
  rw [ha0] at hx0
  obtain ⟨m, hm⟩ : ∃ m, (C.getD 0 []).length = m := ⟨_, rfl⟩
  have hbad : C.any (badV m) = true ∨ P.any (badV m) = true := by
    unfold newE at he
    rw [hm] at he
    by_cases h5 : C.any (badV m) = true ∨ P.any (badV m) = true
    · exact h5
    · exfalso
      apply he
      rw [if_neg]
      rintro (h | h | h | h | h)
      · exact h1 h
      · exact h2 h
      · exact h3 h
      · exact h5 (Or.inl h)
      · exact h5 (Or.inr h)
  rw [hm] at hx0
  have HCo := Aside0.mk (fun W (hW : Below w.heap.size w W) B (hb : W.cell? ⟨B, 0, none⟩ = some (.slice (some aC) C.length cC)) => And.intro (Cont_c (some aC) cC C B m (some aC) C.length cC aC A0 c0 W rfl (by omega) hb (pw_cell_below hW hx0) (Kd.C_below hrC hW) (by omega)) (Cont_c AP cP P B m (some aC) C.length cC aC A0 c0 W rfl (by omega) hb (pw_cell_below hW hx0) (Kd.C_below hrP hW) (by omega)))
  have HBad := Aside0.mk hbad
  clear hrP hrC he h1 h2 h3 hbad hx0
  go_enter Try.func13, Try.ntmps13
  go_wp2
  generalize hW1 : World.alloc (World.alloc w _) _ = W1
  have HB1 : Aside0 (Below w.heap.size w W1) := ⟨by rw [← hW1]; exact below_alloc HB0.out _⟩
  have hs0 : (w.alloc (.cells #[.slice (some aC) C.length cC] 22)).heap.size = w.heap.size + 1 := by simp
  have hcB : W1.cell? ⟨w.heap.size, 0, none⟩ = some (.slice (some aC) C.length cC) := by rw [← hW1]; exact (blk_cell (blk_alloc (blk_new w _) _) 0).trans rfl
  have hca0 : W1.cell? ⟨w.heap.size + 1, 0, none⟩ = some (.slice (some aC) C.length cC) := by rw [← hW1, ← hs0]; exact (blk_cell (blk_new _ _) 0).trans rfl
  have hca1 : W1.cell? ⟨w.heap.size + 1, 1, none⟩ = some (.slice AP P.length cP) := by rw [← hW1, ← hs0]; exact (blk_cell (blk_new _ _) 1).trans rfl
  have HX := Aside0.mk (fun Z (hZ : Below W1.heap.size W1 Z) => And.intro (pw_cell_below hZ hcB) (And.intro (pw_cell_below hZ hca0) (pw_cell_below hZ hca1)))
  clear hW1 hs0 hcB hca0 hca1 HB0
  go_loopw [31] (fun v31 wr => ∃ i : Nat, i ≤ 2 ∧ v31 = .int .i64 i ∧ Aside0 (Below W1.heap.size W1 wr) ∧ Aside0 ((1 ≤ i → C.any (badV m) = false) ∧ (2 ≤ i → P.any (badV m) = false))) (fun v31 _ => 2 - (intOf v31).toNat)
  case atStart => exact ⟨0, by omega, rfl, ⟨Below.refl _ _⟩, ⟨fun h => by omega, fun h => by omega⟩⟩
  case round =>
    obtain ⟨i, hi, rfl, HB, HN⟩ := hrel
    obtain ⟨hcB, hca0, hca1⟩ := HX.out wr HB.out
    obtain ⟨hC1, hC2⟩ := HCo.out wr (below_then HB1.out HB1.out.size HB.out) w.heap.size hcB
    have HC1 := Aside0.mk hC1
    have HC2 := Aside0.mk hC2
    have HBw := Aside0.mk (fun Z (hZ : Below wr.heap.size wr Z) => And.intro (bcomp HB.out hZ) (below_then HB1.out HB1.out.size (bcomp HB.out hZ)))
    clear hC1 hC2
    rcases (show i = 0 ∨ i = 1 ∨ i = 2 by omega) with rfl | rfl | rfl
    · cases hq : C.any (badV m)
      · rw [hq] at HC1
        go_wp2_with (go_at_call 34; ((with_reducible refine HC1.out.mono ?_); rintro e w' ⟨rfl, hb'⟩; have HB' := Aside0.mk hb'; clear hb'))
        go_roundw
        case rel => exact ⟨1, by omega, rfl, ⟨(HBw.out _ HB'.out).1⟩, ⟨fun _ => by first | exact hq | trivial, fun h => by omega⟩⟩
        case measure => simp [intOf]
      · rw [hq] at HC1
        go_wp2_with (go_at_call 34; ((with_reducible refine HC1.out.mono ?_); rintro e w' ⟨rfl, hb'⟩; have HB' := Aside0.mk hb'; clear hb'))
        go_ret2
        exact ⟨rfl, (HBw.out _ HB'.out).2⟩
    · cases hq : P.any (badV m)
      · rw [hq] at HC2
        go_wp2_with (go_at_call 34; ((with_reducible refine HC2.out.mono ?_); rintro e w' ⟨rfl, hb'⟩; have HB' := Aside0.mk hb'; clear hb'))
        go_roundw
        case rel => exact ⟨2, by omega, rfl, ⟨(HBw.out _ HB'.out).1⟩, ⟨fun _ => HN.out.1 (by omega), fun _ => by first | exact hq | trivial⟩⟩
        case measure => simp [intOf]
      · rw [hq] at HC2
        go_wp2_with (go_at_call 34; ((with_reducible refine HC2.out.mono ?_); rintro e w' ⟨rfl, hb'⟩; have HB' := Aside0.mk hb'; clear hb'))
        go_ret2
        exact ⟨rfl, (HBw.out _ HB'.out).2⟩
    · exfalso
      rcases HBad.out with h | h
      · rw [HN.out.1 (by omega)] at h; cases h
      · rw [HN.out.2 (by omega)] at h; cases h
end Go.Proofs.Ytcgpkfpfpjclkaa.G
