/- book.shaped, book.Check. -/
import Derived.Test.YtpcacklmelokiaaBookA
namespace Go.Proofs.Ytpcacklmelokiaa.G
open Go.RowKit Go.Shelf Go.Proofs.YtpcacklmelokiaaW.PrintWords
set_option linter.unusedVariables false
set_option linter.unusedSimpArgs false

set_option maxRecDepth 100000 in
set_option maxHeartbeats 1000000 in
theorem shaped_c (A0 : Option Addr) (c0 : Nat) (b : List (List (List Int))) (w : World) (hr : Kd.C (Kd.slice 25 (Kd.slice 21 (Kd.int .i32))) w A0 b.length b) :
    Calls Try.prog 54 #[.agg #[.slice A0 b.length c0]] w fun e w' => e = .returned (.bool (shapedL b)) ∧ Below w.heap.size w w' := by
  have hm := C_max hr
  have HB0 := Aside0.mk ((Below.refl w.heap.size w).alloc (Nat.le_refl _) (.cells #[.slice A0 b.length c0] 50))
  have HR := Aside0.mk (fun W (hB : Below w.heap.size w W) => Kd.C_below hr hB)
  by_cases h1 : b.length = 0
  · have HE := Aside0.mk (show shapedL b = false by simp [shapedL, h1])
    have hd1 : decide ((b.length : Int) < 1) = true := decide_eq_true (by omega)
    clear hr HR h1
    go_enter Try.func54, Try.ntmps54
    go_wp2
    go_ret
    exact ⟨by rw [HE.out]; rfl, HB0.out⟩
  have hd1 : decide ((b.length : Int) < 1) = false := decide_eq_false (by omega)
  by_cases h2 : b.length > 1024
  · have hd2 : decide ((b.length : Int) > 1024) = true := decide_eq_true (by omega)
    have HE := Aside0.mk (show shapedL b = false by simp only [shapedL, hd2]; simp)
    clear hr HR
    go_enter Try.func54, Try.ntmps54
    go_wp2
    go_ret
    exact ⟨by rw [HE.out]; rfl, HB0.out⟩
  have hd2 : decide ((b.length : Int) > 1024) = false := decide_eq_false (by omega)
  obtain ⟨ad, A', c', rfl, hxw, hxc, hC⟩ := rows3_get (HR.out w (Below.refl _ _)) 0 (by omega)
  have ha0 : ad.add 0 = ad := by simp [Addr.add]
  rw [ha0] at hxw
  have hx := pw_cell_below HB0.out hxw
  have hm2 := C_max hC
  have hg0 : 0 < b.length := by omega
  have hC0 := hC
  by_cases h3 : (b.getD 0 []).length = 0
  · have hd3 : decide (((b.getD 0 []).length : Int) < 1) = true := decide_eq_true (by omega)
    have HE := Aside0.mk (show shapedL b = false by simp only [shapedL, hd3]; simp)
    clear hr HR hC hC0 hxw h3
    generalize (b.getD 0 []).length = n0 at *
    go_enter Try.func54, Try.ntmps54
    go_wp2
    go_ret
    exact ⟨by rw [HE.out]; rfl, HB0.out⟩
  have hd3 : decide (((b.getD 0 []).length : Int) < 1) = false := decide_eq_false (by omega)
  by_cases h4 : (b.getD 0 []).length > 256
  · have hd4 : decide (((b.getD 0 []).length : Int) > 256) = true := decide_eq_true (by omega)
    have HE := Aside0.mk (show shapedL b = false by simp only [shapedL, hd4]; simp)
    clear hr HR hC hC0 hxw
    generalize (b.getD 0 []).length = n0 at *
    go_enter Try.func54, Try.ntmps54
    go_wp2
    go_ret
    exact ⟨by rw [HE.out]; rfl, HB0.out⟩
  have hd4 : decide (((b.getD 0 []).length : Int) > 256) = false := decide_eq_false (by omega)
  obtain ⟨ad0, A00, c00, hA', hyw, hyc, hC00⟩ := rows_get hC0 0 (by omega)
  subst hA'
  have ha1 : ad0.add 0 = ad0 := by simp [Addr.add]
  rw [ha1] at hyw
  have hy := pw_cell_below HB0.out hyw
  obtain ⟨W2, hW2⟩ : ∃ W2, (w.alloc (.cells #[.slice (some ad) b.length c0] 50)).alloc (.cells #[.int .i64 ((b.getD 0 []).getD 0 []).length] 3) = W2 := ⟨_, rfl⟩
  have hB1 : Below w.heap.size w W2 := hW2 ▸ HB0.out.alloc (by simp) _
  have HB1 := Aside0.mk hB1
  have hx2 := pw_cell_below hB1 hxw
  have hy2 := pw_cell_below hB1 hyw
  have hg1 : 0 < (b.getD 0 []).length := by omega
  have hbn : W2.cell? ⟨w.heap.size, 0, none⟩ = some (.slice (some ad) b.length c0) := by rw [← hW2]; simp
  have hbm : W2.cell? ⟨w.heap.size + 1, 0, none⟩ = some (.int .i64 ((b.getD 0 []).getD 0 []).length) := by rw [← hW2]; simp
  have HCf := ContainsFunc_rows3 (some ad) b.length c0 64 #[.pointer (some ⟨w.heap.size, 0, none⟩), .pointer (some ⟨w.heap.size + 1, 0, none⟩)] (fun j => odd (b.getD 0 []).length ((b.getD 0 []).getD 0 []).length (b.getD j [])) W2 (enters_of Try.func64 (by kernel_rfl) rfl) hm (fun j hj => by
      obtain ⟨ad', A1, c1, e, hx1, _, hC1⟩ := rows3_get (HR.out _ hB1) j hj
      refine ⟨ad', _, e, hx1, fun W hW => (shaped1_c A1 c1 (b.getD j []) w.heap.size (w.heap.size + 1) b.length c0 (b.getD 0 []).length c' ((b.getD 0 []).getD 0 []).length (some ad) (some ad0) ad rfl W (C_max hC1) (pw_cell_below hW hbn) hg0 (pw_cell_below hW (by rw [ha0]; exact hx2)) (pw_cell_below hW hbm) (Kd.C_below hC1 hW)).mono fun e W' ⟨he, hw⟩ => ⟨he, hW.trans (hw.mono hW.size)⟩⟩)
  rw [any_range [] (odd (b.getD 0 []).length ((b.getD 0 []).getD 0 []).length) b] at HCf
  have HC := Aside0.mk HCf
  have HE0 := Aside0.mk (show shapedL b = !(decide ((((b.getD 0 []).getD 0 []).length : Int) < 1) || decide ((((b.getD 0 []).getD 0 []).length : Int) > 1024) || decide ((((b.getD 0 []).getD 0 []).length * b.length : Nat) > (1024 : Int)) || b.any (odd (b.getD 0 []).length ((b.getD 0 []).getD 0 []).length)) by
    simp only [shapedL, hd1, hd2, hd3, hd4, Bool.false_or])
  clear hr HR hC hC0 hC00 hxw hyw HCf hbn hbm hB1
  generalize b.any (odd (b.getD 0 []).length ((b.getD 0 []).getD 0 []).length) = q at *
  generalize ((b.getD 0 []).getD 0 []).length = m at *
  generalize (b.getD 0 []).length = n0 at *
  have hW64 : ∀ n : Nat, n ≤ 1048576 → wrap64 (n : Int) = (n : Int) := fun n hn => by unfold wrap64; omega
  by_cases h5 : m = 0
  · have hd5 : decide ((m : Int) < 1) = true := decide_eq_true (by omega)
    have HE := Aside0.mk (show shapedL b = false by rw [HE0.out, hd5]; rfl)
    subst hW2
    clear HC h5
    go_enter Try.func54, Try.ntmps54
    go_wp2
    go_ret
    exact ⟨by rw [HE.out]; rfl, HB1.out⟩
  have hd5 : decide ((m : Int) < 1) = false := decide_eq_false (by omega)
  by_cases h6 : m > 1024
  · have hd6 : decide ((m : Int) > 1024) = true := decide_eq_true (by omega)
    have HE := Aside0.mk (show shapedL b = false by rw [HE0.out, hd5, hd6]; rfl)
    subst hW2
    clear HC
    go_enter Try.func54, Try.ntmps54
    go_wp2
    go_ret
    exact ⟨by rw [HE.out]; rfl, HB1.out⟩
  have hd6 : decide ((m : Int) > 1024) = false := decide_eq_false (by omega)
  obtain ⟨p, hp⟩ : ∃ p, m * b.length = p := ⟨_, rfl⟩
  have hpm : p ≤ 1048576 := by rw [← hp]; exact Nat.mul_le_mul (show m ≤ 1024 by omega) (show b.length ≤ 1024 by omega)
  have hm1 : wrap64 ((m : Int) * (b.length : Int)) = (p : Int) := by rw [← Int.natCast_mul, hp]; exact hW64 p hpm
  rw [hp] at HE0
  clear hp
  by_cases h7 : p > 1024
  · have hd7 : decide ((p : Int) > 1024) = true := decide_eq_true (by omega)
    have HE := Aside0.mk (show shapedL b = false by rw [HE0.out, hd5, hd6, hd7]; rfl)
    subst hW2
    clear HC
    go_enter Try.func54, Try.ntmps54
    go_wp2
    go_ret
    exact ⟨by rw [HE.out]; rfl, HB1.out⟩
  have hd7 : decide ((p : Int) > 1024) = false := decide_eq_false (by omega)
  have HE := Aside0.mk (show shapedL b = !q by rw [HE0.out, hd5, hd6, hd7]; rfl)
  subst hW2
  clear HE0 hW64
  go_enter Try.func54, Try.ntmps54
  go_wp2_with (go_at_call 63; ((with_reducible refine HC.out.mono ?_); rintro e w1 ⟨rfl, hb⟩; have HB2 := Aside0.mk (below_then HB1.out HB1.out.size hb); clear hb))
  go_ret
  exact ⟨by rw [HE.out]; rfl, HB2.out⟩
end Go.Proofs.Ytpcacklmelokiaa.G
