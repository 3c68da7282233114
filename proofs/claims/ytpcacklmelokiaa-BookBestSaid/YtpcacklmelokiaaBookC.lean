/- book.Check, in the print's form. -/
import Derived.Test.YtpcacklmelokiaaBookB
namespace Go.Proofs.Ytpcacklmelokiaa.G
open Go.RowKit Go.Shelf Go.Proofs.YtpcacklmelokiaaW.PrintWords
set_option linter.unusedVariables false
set_option linter.unusedSimpArgs false

/-- What book.Check answers. -/
def bookE (b : List (List (List Int))) : Int := if shapedL b = false then 2 else if b.any (fun l => l.any (fun v => checkWide v != 0)) then 11 else 0
theorem Check1_c (A : Option Addr) (c : Nat) (l : List Int) (W : World) (hr : Kd.C (Kd.int .i32) W A l.length l) :
    Calls Try.prog 55 #[.slice A l.length c] W fun e W' => e = .returned (.bool (checkWide l != 0)) ∧ Below W.heap.size W W' := by
  have HC := Aside0.mk (CheckWide_calls A c l W hr)
  clear hr
  generalize checkWide l = q at *
  go_enter Try.func55, Try.ntmps55
  go_wp2_with (go_at_call 56; ((with_reducible refine HC.out.mono ?_); rintro e w' ⟨rfl, hb'⟩; have HB' := Aside0.mk hb'; clear hb'))
  go_ret
  exact ⟨rfl, HB'.out⟩
theorem any_take {α : Type} (p : α → Bool) (l : List α) (z : α) (k : Nat) (hk : k < l.length) : (l.take (k + 1)).any p = ((l.take k).any p || p (l.getD k z)) := by
  rw [List.take_succ_eq_append_getElem hk, List.any_append]
  simp [hk]
theorem any_of_take {α : Type} (p : α → Bool) (l : List α) (k : Nat) (h : (l.take k).any p = true) : l.any p = true := by
  rw [List.any_eq_true] at h ⊢
  obtain ⟨x, hx, hp⟩ := h
  exact ⟨x, List.mem_of_mem_take hx, hp⟩

set_option maxRecDepth 100000 in
set_option maxHeartbeats 1000000 in
theorem BCheck_c (A0 : Option Addr) (c0 : Nat) (b : List (List (List Int))) (w : World) (hr : Kd.C (Kd.slice 25 (Kd.slice 21 (Kd.int .i32))) w A0 b.length b) :
    Calls Try.prog 34 #[.agg #[.slice A0 b.length c0]] w fun e w' => e = .returned (.int .i64 (bookE b)) ∧ Below w.heap.size w w' := by
  have hm := C_max hr
  have HB0 := Aside0.mk ((Below.refl w.heap.size w).alloc (Nat.le_refl _) (.cells #[.slice A0 b.length c0] 50))
  have HR := Aside0.mk (fun W (hB : Below w.heap.size w W) => Kd.C_below hr hB)
  have HS := Aside0.mk (fun W (hB : Below w.heap.size w W) => shaped_c A0 c0 b W (HR.out W hB))
  clear hr
  cases hq : shapedL b with
  | false =>
    have HE := Aside0.mk (show bookE b = 2 by simp [bookE, hq])
    rw [hq] at HS
    clear HR
    go_enter Try.func34, Try.ntmps34
    go_wp2_with (go_at_call 54; ((with_reducible refine (HS.out _ HB0.out).mono ?_); rintro e w1 ⟨rfl, hb⟩; have HB1 := Aside0.mk (below_then HB0.out HB0.out.size hb); clear hb))
    go_ret
    exact ⟨by rw [HE.out]; rfl, HB1.out⟩
  | true =>
    have HE := Aside0.mk (show bookE b = if b.any (fun l => l.any (fun v => checkWide v != 0)) then 11 else 0 by simp [bookE, hq])
    rw [hq] at HS
    go_enter Try.func34, Try.ntmps34
    go_wp2_with (go_at_call 54; ((with_reducible refine (HS.out _ HB0.out).mono ?_); rintro e w1 ⟨rfl, hb⟩; have HB1 := Aside0.mk (below_then HB0.out HB0.out.size hb); have hcb := pw_cell_below hb (show (w.alloc (.cells #[.slice A0 b.length c0] 50)).cell? ⟨w.heap.size, 0, none⟩ = some (.slice A0 b.length c0) by simp); clear hb))
    go_loopw [11] (fun v wr => ∃ k : Nat, k ≤ b.length ∧ v = .int .i64 k ∧ Aside0 ((b.take k).any (fun l => l.any (fun v => checkWide v != 0)) = false) ∧ Aside0 (Below w.heap.size w wr)) (fun v _ => b.length - (intOf v).toNat)
    case atStart => exact ⟨0, Nat.zero_le _, rfl, ⟨by simp⟩, HB1⟩
    case round =>
      obtain ⟨k, hk, rfl, hno, HB⟩ := hrel
      by_cases hlt : k < b.length
      · obtain ⟨ad, A', c', rfl, hx, hcl, hC⟩ := rows3_get (HR.out wr HB.out) k hlt
        have HT := Aside0.mk (any_take (fun l => l.any (fun v => checkWide v != 0)) b [] k hlt)
        have HCf := ContainsFunc_rows A' (b.getD k []).length c' 55 #[] (fun j => checkWide ((b.getD k []).getD j []) != 0) wr (enters_of Try.func55 (by kernel_rfl) rfl) (C_max hC) (fun j hj => by
          obtain ⟨ad', A1, c1, e, hx1, _, hC1⟩ := rows_get hC j hj
          refine ⟨ad', _, e, hx1, fun W hW => (Check1_c A1 c1 ((b.getD k []).getD j []) W (Kd.C_below hC1 hW)).mono fun e W' ⟨he, hw⟩ => ⟨he, hW.trans (hw.mono hW.size)⟩⟩)
        rw [any_range [] (fun v => checkWide v != 0) (b.getD k [])] at HCf
        have HA := Aside0.mk (fun h : ((b.getD k []).any fun v => checkWide v != 0) = true => any_of_take (fun l => l.any (fun v => checkWide v != 0)) b (k + 1) (by rw [HT.out]; simp only [Bool.or_eq_true]; exact .inr h))
        rw [hno.out, Bool.false_or] at HT
        clear hC
        cases hp : (b.getD k []).any fun v => checkWide v != 0 with
        | true =>
          rw [hp] at HCf
          have HC := Aside0.mk HCf
          have HE2 := Aside0.mk (show bookE b = 11 by rw [HE.out, HA.out hp]; rfl)
          clear HCf hp HT HA
          generalize (b.getD k []).length = n at *
          go_wp2_with (go_at_call 42; ((with_reducible refine HC.out.mono ?_); rintro e w' ⟨rfl, hb'⟩; have HB' := Aside0.mk (below_then HB.out HB.out.size hb'); clear hb'))
          go_ret
          exact ⟨by rw [HE2.out]; rfl, HB'.out⟩
        | false =>
          rw [hp] at HCf HT
          have HC := Aside0.mk HCf
          clear HCf hp HA
          generalize (b.getD k []).length = n at *
          go_wp2_with (go_at_call 42; ((with_reducible refine HC.out.mono ?_); rintro e w' ⟨rfl, hb'⟩; have HB' := Aside0.mk (below_then HB.out HB.out.size hb'); clear hb'))
          go_roundw
          case rel => exact ⟨k + 1, by omega, by go_num, HT, HB'⟩
          case measure => simp [intOf]; omega
      · obtain rfl : k = b.length := by omega
        have HE2 := Aside0.mk (show bookE b = 0 by rw [HE.out]; have h := hno.out; rw [List.take_length] at h; rw [h]; rfl)
        go_wp2
        go_ret
        exact ⟨by rw [HE2.out]; rfl, HB.out⟩
end Go.Proofs.Ytpcacklmelokiaa.G
namespace Go.Proofs.Ytpcacklmelokiaa.Bk
open Go.RowKit Go.Proofs.YtpcacklmelokiaaW.PrintWords Go.Proofs.Ytpcacklmelokiaa.G
def book_Check.f (l : List (List (List Int))) : Option Int := some (bookE l)
theorem book_Check.calls (A0_0 : Option Addr) (c0_0 : Nat) (l0_0 : List (List (List Int))) (r : Int) (w : World) (hr0_0 : Kd.C (Kd.slice 25 (Kd.slice 21 (Kd.int .i32))) w A0_0 l0_0.length l0_0) (hc0_0 : l0_0.length ≤ c0_0) (h : book_Check.f l0_0 = some r) :
    Calls Try.prog 34 #[.agg #[.slice A0_0 l0_0.length c0_0]] w fun e w' => e = .returned (.int .i64 r) ∧ Below w.heap.size w w' := by
  cases h
  exact BCheck_c A0_0 c0_0 l0_0 w hr0_0
end Go.Proofs.Ytpcacklmelokiaa.Bk
