/- cell.Check, cell.both, where all is right. -/
import Derived.Test.YtpcacklmelokiaaBookC
namespace Go.Proofs.Ytpcacklmelokiaa.G
open Go.RowKit Go.Shelf Go.Proofs.YtpcacklmelokiaaW.PrintWords
set_option linter.unusedVariables false
set_option linter.unusedSimpArgs false

/-- Cents and a vector that may be. -/
structure CentsOK (cs : List (List Int)) (v : List Int) : Prop where
  one : 1 ≤ cs.length
  most : cs.length ≤ 256
  wide : ∀ c ∈ cs, checkWide c = 0
  long : ∀ c ∈ cs, c.length = v.length
  vec : checkWide v = 0
theorem CCheck1_c (A : Option Addr) (n c B N0 C0 n0 c00 : Nat) (a0 : Addr) (A00 : Option Addr) (b : Bool) (hne : ((n : Int) != (n0 : Int)) = b) (W : World) (hb : W.cell? ⟨B, 0, none⟩ = some (.slice (some a0) N0 C0)) (hN : 0 < N0) (hx0 : W.cell? a0 = some (.slice A00 n0 c00)) :
    Calls Try.prog 75 #[.slice A n c, .pointer (some ⟨B, 0, none⟩)] W fun e W' => e = .returned (.bool b) ∧ W = W' := by
  have ha0 : a0.add 0 = a0 := by simp [Addr.add]
  go_enter Try.func75, Try.ntmps75
  go_wp2
  go_ret
  exact ⟨rfl, rfl⟩

set_option maxRecDepth 100000 in
set_option maxHeartbeats 1000000 in
theorem CCheck_c (A0 : Option Addr) (c0 : Nat) (cs : List (List Int)) (v : List Int) (w : World) (hr : Kd.C (Kd.slice 21 (Kd.int .i32)) w A0 cs.length cs) (hok : CentsOK cs v) :
    Calls Try.prog 73 #[.slice A0 cs.length c0] w fun e w' => e = .returned (.int .i64 0) ∧ Below w.heap.size w w' := by
  have hm := C_max hr
  have h1 := hok.one
  have h2 := hok.most
  have hd1 : decide ((cs.length : Int) < 1) = false := decide_eq_false (by omega)
  have hd2 : decide ((cs.length : Int) > 4096) = false := decide_eq_false (by omega)
  have HB0 := Aside0.mk ((Below.refl w.heap.size w).alloc (Nat.le_refl _) (.cells #[.slice A0 cs.length c0] 22))
  have HR := Aside0.mk (fun W (hB : Below w.heap.size w W) => Kd.C_below hr hB)
  obtain ⟨ad, A', c', rfl, hxw, hxc, hC⟩ := rows_get (HR.out w (Below.refl _ _)) 0 (by omega)
  have ha0 : ad.add 0 = ad := by simp [Addr.add]
  rw [ha0] at hxw
  have HX := Aside0.mk (fun W (hW : Below w.heap.size w W) => pw_cell_below hW hxw)
  have HOK := Aside0.mk hok
  have hlen : ∀ j, j < cs.length → (cs.getD j []).length = (cs.getD 0 []).length := fun j hj => by
    have h : ∀ k, k < cs.length → (cs.getD k []).length = v.length := fun k hk => by
      rw [List.getD_eq_getElem?_getD, List.getElem?_eq_getElem hk]
      exact hok.long _ (List.getElem_mem hk)
    rw [h j hj, h 0 (by omega)]
  have HW := Aside0.mk (show ∀ j, j < cs.length → checkWide (cs.getD j []) = 0 from fun j hj => by
    rw [List.getD_eq_getElem?_getD, List.getElem?_eq_getElem hj]
    exact hok.wide _ (List.getElem_mem hj))
  have HC := Aside0.mk (fun W (hW : Below w.heap.size w W) (hbn : W.cell? ⟨w.heap.size, 0, none⟩ = some (.slice (some ad) cs.length c0)) => ContainsFunc_rows (some ad) cs.length c0 75 #[.pointer (some ⟨w.heap.size, 0, none⟩)] (fun j => false) W (enters_of Try.func75 (by kernel_rfl) rfl) hm (fun j hj => by
    obtain ⟨ad', A1, c1, e, hx1, _, _⟩ := rows_get (HR.out _ hW) j hj
    refine ⟨ad', _, e, hx1, fun W1 hW1 => (CCheck1_c A1 (cs.getD j []).length c1 w.heap.size cs.length c0 (cs.getD 0 []).length c' ad A' false (by rw [hlen j hj]; simp) W1 (pw_cell_below hW1 hbn) (by omega) (pw_cell_below hW1 (HX.out _ hW))).mono fun e W' ⟨he, hw⟩ => ⟨he, hw ▸ hW1⟩⟩))
  have hany : (List.range cs.length).any (fun _ => false) = false := by simp
  rw [hany] at HC
  have hbn0 : (w.alloc (.cells #[.slice (some ad) cs.length c0] 22)).cell? ⟨w.heap.size, 0, none⟩ = some (.slice (some ad) cs.length c0) := by simp
  clear hr hC hxw hok hlen hany
  go_enter Try.func73, Try.ntmps73
  go_wp2
  go_loopw [16] (fun u wr => ∃ k : Nat, k ≤ cs.length ∧ u = .int .i64 k ∧ Aside0 (wr.cell? ⟨w.heap.size, 0, none⟩ = some (.slice (some ad) cs.length c0)) ∧ Aside0 (Below w.heap.size w wr)) (fun u _ => cs.length - (intOf u).toNat)
  case atStart => exact ⟨0, Nat.zero_le _, rfl, ⟨hbn0⟩, HB0⟩
  case round =>
    obtain ⟨k, hk, rfl, HBn, HB⟩ := hrel
    have hbn := HBn.out
    by_cases hlt : k < cs.length
    · obtain ⟨ad', A1, c1, e, hx, hcl, hC⟩ := rows_get (HR.out wr HB.out) k hlt
      cases e
      have HCW := Aside0.mk (CheckWide_calls A1 c1 (cs.getD k []) wr hC)
      rw [HW.out k hlt] at HCW
      clear hC
      generalize (cs.getD k []).length = n at *
      go_wp2_with (go_at_call 56; ((with_reducible refine HCW.out.mono ?_); rintro e w' ⟨rfl, hb'⟩; have HBn' := Aside0.mk (pw_cell_below hb' HBn.out); have HB' := Aside0.mk (below_then HB.out HB.out.size hb'); clear hb'))
      go_roundw
      case rel => exact ⟨k + 1, by omega, by go_num, HBn', HB'⟩
      case measure => simp [intOf]; omega
    · obtain rfl : k = cs.length := by omega
      have HC2 := Aside0.mk (HC.out wr HB.out HBn.out)
      go_wp2_with (go_at_call 42; ((with_reducible refine HC2.out.mono ?_); rintro e w' ⟨rfl, hb'⟩; have HB' := Aside0.mk (below_then HB.out HB.out.size hb'); clear hb'))
      go_ret
      exact ⟨rfl, HB'.out⟩
set_option maxRecDepth 100000 in
theorem both_c (A0 : Option Addr) (c0 : Nat) (cs : List (List Int)) (A1 : Option Addr) (c1 : Nat) (v : List Int) (w : World) (hr : Kd.C (Kd.slice 21 (Kd.int .i32)) w A0 cs.length cs) (hv : Kd.C (Kd.int .i32) w A1 v.length v) (hok : CentsOK cs v) :
    Calls Try.prog 71 #[.slice A0 cs.length c0, .slice A1 v.length c1] w fun e w' => e = .returned (.int .i64 0) ∧ Below w.heap.size w w' := by
  have h1 := hok.one
  have HCc := Aside0.mk (CCheck_c A0 c0 cs v w hr hok)
  have HV := Aside0.mk (fun W (hB : Below w.heap.size w W) => CheckWide_calls A1 c1 v W (Kd.C_below hv hB))
  rw [hok.vec] at HV
  obtain ⟨ad, A', c', rfl, hxw, hxc, hC⟩ := rows_get hr 0 (by omega)
  have ha0 : ad.add 0 = ad := by simp [Addr.add]
  rw [ha0] at hxw
  have hl : (cs.getD 0 []).length = v.length := by
    rw [List.getD_eq_getElem?_getD, List.getElem?_eq_getElem (by omega)]
    exact hok.long _ (List.getElem_mem _)
  rw [hl] at hxw
  have HX := Aside0.mk (fun W (hW : Below w.heap.size w W) => pw_cell_below hW hxw)
  have hg0 : 0 < cs.length := by omega
  have hne : ((v.length : Int) != (v.length : Int)) = false := by simp
  clear hr hv hC hxw hxc hok hl
  go_enter Try.func71, Try.ntmps71
  go_wp2_with (first
    | (go_at_call 73; ((with_reducible refine HCc.out.mono ?_); rintro e w1 ⟨rfl, hb⟩; have HB1 := Aside0.mk hb; clear hb))
    | (go_at_call 56; ((with_reducible refine (HV.out _ HB1.out).mono ?_); rintro e w2 ⟨rfl, hb⟩; have HB2 := Aside0.mk (below_then HB1.out HB1.out.size hb); have hx := HX.out _ HB2.out; clear hb)))
  go_ret
  exact ⟨rfl, HB2.out⟩
end Go.Proofs.Ytpcacklmelokiaa.G
