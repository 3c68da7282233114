/- part.Column, in the print's form. -/
import Derived.Test.YtpcacklmelokiaaColumnA
namespace Go.Proofs.Ytpcacklmelokiaa.G
open Go.RowKit Go.Shelf Go.Proofs.YtpcacklmelokiaaW.PrintWords
set_option linter.unusedVariables false
set_option linter.unusedSimpArgs false

def colE (l : List (List Int)) (parts n : Int) : Int := if n < 0 ∨ n ≥ parts then 2 else if l.length = 0 then 0 else if partE (l.getD 0 []).length parts ≠ 0 ∨ ¬ ∀ v ∈ l, v.length = (l.getD 0 []).length then 2 else 0
def colL (l : List (List Int)) (parts n : Int) : List (List Int) := if colE l parts n = 0 then l.map (fun v => pieceL v ((l.getD 0 []).length / parts.toNat) n.toNat) else []
def ColumnPost (w : World) (l : List (List Int)) (parts n : Int) (e : Ending) (w' : World) : Prop := ∃ v, e = .returned (.tuple #[v, .int .i64 (colE l parts n)]) ∧ (Kd.slice 21 (Kd.int .i32)).R 25 w' w.heap.size (fun _ => True) v (colL l parts n) ∧ Below w.heap.size w w'
theorem ColumnPost.none_ {w : World} {l : List (List Int)} {parts n : Int} {x : Int} {w' : World} (hE : colE l parts n = x) (hL : colL l parts n = []) (hB : Below w.heap.size w w') : ColumnPost w l parts n (.returned (.tuple #[.slice none 0 0, .int .i64 x])) w' := ⟨_, by rw [hE], by rw [hL]; exact Kd.R_nil _ _ _ _ _, hB⟩

set_option maxRecDepth 100000 in
set_option maxHeartbeats 1000000 in
theorem Column_early (A0 : Option Addr) (c0 : Nat) (l : List (List Int)) (parts n : Int) (w : World) (hm : l.length ≤ 9223372036854775807) (h : (n < 0 ∨ n ≥ parts) ∨ l.length = 0) :
    Calls Try.prog 14 #[.slice A0 l.length c0, .int .i64 parts, .int .i64 n] w (ColumnPost w l parts n) := by
  have hB0 : Below w.heap.size w (w.alloc (.cells #[.int .i64 n] 3)) := (Below.refl _ w).alloc (Nat.le_refl _) _
  have HB0 := Aside0.mk hB0
  by_cases h1 : n < 0
  · have HE := Aside0.mk (show colE l parts n = 2 by simp [colE, h1])
    have HL := Aside0.mk (show colL l parts n = [] by unfold colL; rw [if_neg (by rw [HE.out]; decide)])
    have hd : decide (n < 0) = true := by simpa using h1
    clear hB0 h
    go_enter Try.func14, Try.ntmps14
    go_wp2
    go_ret2
    exact ColumnPost.none_ HE.out HL.out (by first | exact HB0.out | exact pw_below_drewN HB0.out _)
  have hd : decide (n < 0) = false := by simpa using h1
  by_cases h2 : n ≥ parts
  · have HE := Aside0.mk (show colE l parts n = 2 by simp [colE, h2])
    have HL := Aside0.mk (show colL l parts n = [] by unfold colL; rw [if_neg (by rw [HE.out]; decide)])
    have hd2 : decide (n ≥ parts) = true := by simpa using h2
    clear hB0 h
    go_enter Try.func14, Try.ntmps14
    go_wp2
    go_ret2
    exact ColumnPost.none_ HE.out HL.out (by first | exact HB0.out | exact pw_below_drewN HB0.out _)
  have hd2 : decide (n ≥ parts) = false := by simpa using h2
  have h3 : l.length = 0 := by omega
  have HE := Aside0.mk (show colE l parts n = 0 by unfold colE; rw [if_neg (by omega), if_pos h3])
  have HL := Aside0.mk (show colL l parts n = [] by rw [List.eq_nil_of_length_eq_zero h3]; unfold colL; split <;> rfl)
  have hd3 : ((l.length : Int) == 0) = true := by simp; exact List.eq_nil_of_length_eq_zero h3
  clear hB0 h
  go_enter Try.func14, Try.ntmps14
  go_wp2
  go_ret2
  exact ColumnPost.none_ HE.out HL.out (by first | exact HB0.out | exact pw_below_drewN HB0.out _)

set_option maxRecDepth 100000 in
set_option maxHeartbeats 1000000 in
theorem Column_late (A0 : Option Addr) (c0 : Nat) (l : List (List Int)) (parts n : Int) (w : World) (hr : Kd.C (Kd.slice 21 (Kd.int .i32)) w A0 l.length l) (hl : l.length ≤ 5864062014805) (h1 : ¬ n < 0) (h2 : ¬ n ≥ parts) (h3 : l.length ≠ 0) :
    Calls Try.prog 14 #[.slice A0 l.length c0, .int .i64 parts, .int .i64 n] w (ColumnPost w l parts n) := by
  have hm := C_max hr
  have hd : decide (n < 0) = false := by simpa using h1
  have hd2 : decide (n ≥ parts) = false := by simpa using h2
  have hd3 : ((l.length : Int) == 0) = false := by simp; intro h; exact h3 (by rw [h]; rfl)
  have hB0 : Below w.heap.size w (w.alloc (.cells #[.int .i64 n] 3)) := (Below.refl _ w).alloc (Nat.le_refl _) _
  have HR := Aside0.mk (fun W (hB : Below w.heap.size w W) => Kd.C_below hr hB)
  have HB0 := Aside0.mk hB0
  obtain ⟨ad, A', c', rfl, hxw, hxc, hC⟩ := rows_get (HR.out w (Below.refl _ _)) 0 (by omega)
  have ha0 : ad.add 0 = ad := by simp [Addr.add]
  rw [ha0] at hxw
  have HX := Aside0.mk (fun W (hW : Below w.heap.size w W) => pw_cell_below hW hxw)
  have hx := HX.out _ HB0.out
  have hm2 := C_max hC
  have hg0 : 0 < l.length := by omega
  have HChk := Aside0.mk (fun W => PCheck_calls (l.getD 0 []).length parts W)
  clear hB0 hC hxw
  by_cases h4 : partE (l.getD 0 []).length parts = 0
  case neg =>
    have HE := Aside0.mk (show colE l parts n = 2 by unfold colE; rw [if_neg (by omega), if_neg h3, if_pos (.inl h4)])
    have HL := Aside0.mk (show colL l parts n = [] by unfold colL; rw [if_neg (by rw [HE.out]; decide)])
    have d : (partE (l.getD 0 []).length parts != 0) = true := by simpa using h4
    clear h4 HR HX
    generalize (l.getD 0 []).length = m at *
    generalize partE m parts = E at *
    go_enter Try.func14, Try.ntmps14
    go_wp2_with (go_at_call 22; ((with_reducible refine (HChk.out _).mono ?_); rintro e w1 ⟨rfl, rfl⟩))
    go_ret2
    exact ColumnPost.none_ HE.out HL.out (HB0.out.alloc (by simp) _)
  case pos =>
    rw [h4] at HChk
    obtain ⟨pn, wd, rfl, hp1, hw1, hln, hl2, hWv, hdv⟩ := part_ok h4
    have HAll := Aside0.mk (fun W (hW : Below (w.heap.size + 1 + 1) ((w.alloc (.cells #[.int .i64 n] 3)).alloc (.cells #[.int .i64 (l.getD 0 []).length] 3)) W) => True.intro)
    have hB1 : Below w.heap.size w ((w.alloc (.cells #[.int .i64 n] 3)).alloc (.cells #[.int .i64 (l.getD 0 []).length] 3)) := HB0.out.alloc (by simp) _
    have HB1 := Aside0.mk hB1
    obtain ⟨W2, hW2⟩ : ∃ W2, ((w.alloc (.cells #[.int .i64 n] 3)).alloc (.cells #[.int .i64 (l.getD 0 []).length] 3)) = W2 := ⟨_, rfl⟩
    have hbn : W2.cell? ⟨w.heap.size, 0, none⟩ = some (.int .i64 n) := by rw [← hW2]; simp
    have hbm : W2.cell? ⟨w.heap.size + 1, 0, none⟩ = some (.int .i64 (l.getD 0 []).length) := by rw [← hW2]; simp
    have HCf := ContainsFunc_rows (some ad) l.length c0 43 #[.pointer (some ⟨w.heap.size + 1, 0, none⟩)] (fun j => ((l.getD j []).length : Int) != ((l.getD 0 []).length : Int)) W2 (enters_of Try.func43 (by kernel_rfl) rfl) hm (fun j hj => by
      rw [hW2] at hB1
      obtain ⟨ad', A1, c1, e, hx1, _, _⟩ := rows_get (HR.out _ hB1) j hj
      exact ⟨ad', _, e, hx1, fun W hW => (Column1_c A1 _ c1 (w.heap.size + 1) _ _ rfl W (pw_cell_below hW hbm)).mono fun e W' ⟨he, hw⟩ => ⟨he, hw ▸ hW⟩⟩)
    have hany : (List.range l.length).any (fun j => ((l.getD j []).length : Int) != ((l.getD 0 []).length : Int)) = !decide (∀ v ∈ l, v.length = (l.getD 0 []).length) := by
      rw [Bool.eq_iff_iff]
      simp only [List.any_eq_true, List.mem_range, bne_iff_ne, ne_eq, Bool.not_eq_true', decide_eq_false_iff_not]
      constructor
      · rintro ⟨j, hj, hne⟩ hall
        refine hne ?_
        have := hall _ (List.getElem_mem hj)
        rw [List.getD_eq_getElem?_getD, List.getElem?_eq_getElem hj]
        exact congrArg _ this
      · intro hn
        refine Classical.byContradiction fun hno => hn fun v hv => ?_
        obtain ⟨j, hj, rfl⟩ := List.mem_iff_getElem.1 hv
        have h4 := Classical.byContradiction fun h => hno ⟨j, hj, h⟩
        rw [List.getD_eq_getElem?_getD, List.getElem?_eq_getElem hj] at h4
        exact Int.ofNat_inj.1 h4
    rw [hany, ← hW2] at HCf
    by_cases h5 : ∀ v ∈ l, v.length = (l.getD 0 []).length
    case neg =>
      have HE := Aside0.mk (show colE l (pn : Int) n = 2 by unfold colE; rw [if_neg (by omega), if_neg h3, if_pos (.inr h5)])
      have HL := Aside0.mk (show colL l (pn : Int) n = [] by unfold colL; rw [if_neg (by rw [HE.out]; decide)])
      rw [decide_eq_false h5] at HCf
      have HC := Aside0.mk HCf
      clear h4 HR HX HCf hany h5 hbn hbm hW2 hWv hB1 hln hl2 hdv HAll
      generalize (l.getD 0 []).length = m at *
      go_enter Try.func14, Try.ntmps14
      go_wp2_with (first
        | (go_at_call 22; ((with_reducible refine (HChk.out _).mono ?_); rintro e w1 ⟨rfl, rfl⟩))
        | (go_at_call 42; ((with_reducible refine HC.out.mono ?_); rintro e w1 ⟨rfl, hb⟩; have HB2 := Aside0.mk (below_then HB1.out HB1.out.size hb); clear hb)))
      go_ret2
      exact ColumnPost.none_ HE.out HL.out HB2.out
    case pos =>
      obtain ⟨nn, rfl⟩ : ∃ nn : Nat, n = (nn : Int) := ⟨n.toNat, by omega⟩
      have HE := Aside0.mk (show colE l (pn : Int) (nn : Int) = 0 by unfold colE; rw [if_neg (by omega), if_neg h3, if_neg (by rintro (h | h); exact h h4; exact h h5)])
      have HL := Aside0.mk (show colL l (pn : Int) (nn : Int) = (List.range l.length).map (fun j => pieceL (l.getD j []) wd nn) by
        unfold colL
        rw [if_pos HE.out, Int.toNat_natCast, Int.toNat_natCast, hdv]
        apply List.ext_getElem
        · simp
        · intro i a b
          have hi : i < l.length := by simpa using a
          simp [hi])
      rw [decide_eq_true h5] at HCf
      have HC := Aside0.mk HCf
      have hnn : nn * wd + wd ≤ (l.getD 0 []).length := by
        have h6 := Nat.mul_le_mul_right wd (show nn + 1 ≤ pn by omega)
        rw [Nat.add_mul, Nat.one_mul] at h6
        omega
      have HMp := Aside0.mk (fun w1 (hb : Below W2.heap.size W2 w1) => mapped_rows (some ad) l.length c0 45 #[.pointer (some ⟨w.heap.size, 0, none⟩), .pointer (some ⟨w1.heap.size, 0, none⟩)] (fun j => pieceL (l.getD j []) wd nn) (w1.alloc (.cells #[.int .i64 wd] 3)) (enters_of Try.func45 (by kernel_rfl) rfl) hl (fun j hj => by
        rw [hW2] at hB1
        have hB2 : Below w.heap.size w (w1.alloc (.cells #[.int .i64 wd] 3)) := (below_then hB1 hB1.size hb).alloc (below_then hB1 hB1.size hb).size _
        obtain ⟨ad', A1, c1, e, hx1, hc1, _⟩ := rows_get (HR.out _ hB2) j hj
        have hjl : (l.getD j []).length = (l.getD 0 []).length := by
          refine h5 _ ?_
          rw [List.getD_eq_getElem?_getD, List.getElem?_eq_getElem hj]
          exact List.getElem_mem hj
        have hb3 : Below W2.heap.size W2 (w1.alloc (.cells #[.int .i64 wd] 3)) := hb.alloc hb.size _
        refine ⟨ad', _, e, hx1, fun W hW => ?_⟩
        obtain ⟨ad2, A2, c2, e2, hx2, hc2, hC2⟩ := rows_get (HR.out _ (below_then hB2 hB2.size hW)) j hj
        have hcell := pw_cell_below hW hx1
        cases e.symm.trans e2
        rw [hcell] at hx2
        cases hx2
        exact Column2_c A1 c1 w.heap.size w1.heap.size nn wd (l.getD j []).length (l.getD j []) W (pw_cell_below hW (pw_cell_below hb3 hbn)) (pw_cell_below hW (by simp)) (by omega) (by omega) hw1 hc1 hC2))
      have hq : Int.tdiv ((l.getD 0 []).length : Int) (pn : Int) = (wd : Int) := by
        rw [Int.tdiv_eq_ediv_of_nonneg (by omega), ← Int.natCast_ediv, hdv]
      have hp0 : ¬ (pn : Int) = 0 := by omega
      rw [hW2] at HB1
      subst hW2
      clear h4 HR HX HCf hany h5 hbn hWv hB1 hln hdv HAll
      generalize (l.getD 0 []).length = m at *
      generalize (fun j => pieceL (l.getD j []) wd nn) = f at *
      go_enter Try.func14, Try.ntmps14
      go_wp2_with (first
        | (go_at_call 22; ((with_reducible refine (HChk.out _).mono ?_); rintro e w1 ⟨rfl, rfl⟩))
        | (go_at_call 42; ((with_reducible refine HC.out.mono ?_); rintro e w1 ⟨rfl, hb⟩; have HMp1 := Aside0.mk (HMp.out w1 hb); have hbm1 := pw_cell_below hb hbm; clear hbm; have HB2 := Aside0.mk (below_then HB1.out HB1.out.size hb); clear hb))
        | (go_at_call 44; ((with_reducible refine HMp1.out.mono ?_); rintro e w3 ⟨v, rfl, hr, hb⟩; have HR3 := Aside0.mk hr; have HB3 := Aside0.mk hb; clear hr hb)))
      go_ret2
      have hB4 := HB2.out.alloc HB2.out.size (.cells #[.int .i64 wd] 3)
      exact ⟨v, by rw [HE.out]; rfl, by rw [HL.out]; exact Kd.R_lower HR3.out hB4.size, below_then hB4 hB4.size HB3.out⟩
theorem Column_c (A0 : Option Addr) (c0 : Nat) (l : List (List Int)) (parts n : Int) (w : World) (hr : Kd.C (Kd.slice 21 (Kd.int .i32)) w A0 l.length l) (hl : l.length ≤ 5864062014805) :
    Calls Try.prog 14 #[.slice A0 l.length c0, .int .i64 parts, .int .i64 n] w (ColumnPost w l parts n) := by
  by_cases h : (n < 0 ∨ n ≥ parts) ∨ l.length = 0
  · exact Column_early A0 c0 l parts n w (by omega) h
  · exact Column_late A0 c0 l parts n w hr hl (fun h1 => h (.inl (.inl h1))) (fun h1 => h (.inl (.inr h1))) (fun h1 => h (.inr h1))

end Go.Proofs.Ytpcacklmelokiaa.G
namespace Go.Proofs.Ytpcacklmelokiaa.Pa
open Go.RowKit Go.Proofs.YtpcacklmelokiaaW.PrintWords Go.Proofs.Ytpcacklmelokiaa.G
set_option linter.unusedVariables false

def part_Column.f (l : List (List Int)) (parts n : Int) : Option (List (List Int) × Int) := if l.length ≤ 5864062014805 then some (colL l parts n, colE l parts n) else none
theorem part_Column.calls (A0 : Option Addr) (c0 : Nat) (l0 : List (List Int)) (a1 a2 : Int) (r1 : List (List Int)) (r2 : Int) (w : World) (hr0 : Kd.C (Kd.slice 21 (Kd.int .i32)) w A0 l0.length l0) (hc0 : l0.length ≤ c0) (h : part_Column.f l0 a1 a2 = some (r1, r2)) :
    Calls Try.prog 14 #[.slice A0 l0.length c0, .int .i64 a1, .int .i64 a2] w fun e w' => ∃ v0_ : Value, e = .returned (.tuple #[v0_, .int .i64 r2]) ∧ Kd.R (Kd.slice 21 (Kd.int .i32)) 25 w' w.heap.size (fun _ => True) v0_ r1 ∧ Below w.heap.size w w' := by
  unfold part_Column.f at h
  split at h
  · rename_i hl
    cases h
    exact Column_c A0 c0 l0 a1 a2 w hr0 hl
  · cases h

end Go.Proofs.Ytpcacklmelokiaa.Pa
