/- Contracts for book.Check: its closures, ContainsFunc over rows of rows. -/
import Derived.Test.YteickelddnhdiaaRowsA
import Derived.Test.YteickelddnhdiaaVecB
namespace Go.Proofs.Yteickelddnhdiaa.G
open Go.RowKit Go.Shelf Go.Proofs.YteickelddnhdiaaW.PrintWords
set_option linter.unusedVariables false
set_option linter.unusedSimpArgs false

set_option maxRecDepth 100000 in
theorem IndexFunc_rows3 (A0 : Option Addr) (n c0 : Nat) (g : Nat) (lb : Array Value) (p : Nat → Bool) (w : World) (eg : Enters Try.prog g)
    (hn : n ≤ 9223372036854775807) (hp : ElemPred A0 n g lb p w) :
    Calls Try.prog 137 #[.slice A0 n c0, .func (.func g) #[] lb] w fun e w' => e = .returned (.int .i64 (firstR p n)) ∧ Below w.heap.size w w' := by
  have HP := Aside0.mk hp
  clear hp
  unfold Enters at eg
  go_enter Try.func137, Try.ntmps137
  go_wp2
  go_loopw [5, 8] (fun _ v wr => ∃ k : Nat, k ≤ n ∧ v = .int .i64 k ∧ Aside0 (∀ i, i < k → p i = false) ∧ Aside0 (Below w.heap.size w wr)) (fun _ v _ => n - (intOf v).toNat)
  case atStart => exact ⟨0, Nat.zero_le _, rfl, ⟨fun _ h => absurd h (Nat.not_lt_zero _)⟩, ⟨Below.refl _ _⟩⟩
  case round =>
    obtain ⟨k, hk, rfl, hno, HB⟩ := hrel
    by_cases hlt : k < n
    · obtain ⟨ad, v, rfl, hx, hcall⟩ := HP.out k hlt
      have hcall := hcall wr HB.out
      have hx := pw_cell_below HB.out hx
      cases hq : p k
      · rw [hq] at hcall
        go_wp2_with (go_at_fn g; refine hcall.mono ?_; rintro e w' ⟨rfl, hb'⟩; have HB' := Aside0.mk hb'; clear hb')
        go_roundw
        case rel => exact ⟨k + 1, by omega, by go_num, ⟨fun i hi => by rcases Nat.lt_succ_iff_lt_or_eq.1 hi with h | rfl; exact hno.out i h; exact hq⟩, HB'⟩
        case measure => simp [intOf]; omega
      · rw [hq] at hcall
        go_wp2_with (go_at_fn g; refine hcall.mono ?_; rintro e w' ⟨rfl, hb'⟩; have HB' := Aside0.mk hb'; clear hb')
        go_ret
        exact ⟨by rw [firstR_hit hlt hq hno.out]; rfl, HB'.out⟩
    · obtain rfl : k = n := by omega
      go_wp2
      go_ret
      exact ⟨by rw [firstR_miss hno.out]; rfl, HB.out⟩
theorem ContainsFunc_rows3 (A0 : Option Addr) (n c0 : Nat) (g : Nat) (lb : Array Value) (p : Nat → Bool) (w : World) (eg : Enters Try.prog g)
    (hn : n ≤ 9223372036854775807) (hp : ElemPred A0 n g lb p w) :
    Calls Try.prog 116 #[.slice A0 n c0, .func (.func g) #[] lb] w fun e w' => e = .returned (.bool ((List.range n).any p)) ∧ Below w.heap.size w w' := by
  have HC := Aside0.mk (IndexFunc_rows3 A0 n c0 g lb p w eg hn hp)
  have HE := Aside0.mk (firstR_ge p n)
  clear hp
  generalize firstR p n = q at *
  go_enter Try.func116, Try.ntmps116
  go_wp2_with (go_at_call 137; ((with_reducible refine HC.out.mono ?_); rintro e w' ⟨rfl, hb'⟩; have HB' := Aside0.mk hb'; clear hb'))
  go_ret
  exact ⟨by rw [← HE.out]; rfl, HB'.out⟩


/-- Rows of rows, one by one. -/
theorem rows3_get {w : World} {A : Option Addr} {n : Nat} {xs : List (List (List Int))} (h : Kd.C (Kd.slice 39 (Kd.slice 21 (Kd.int .i32))) w A n xs) (j : Nat) (hj : j < n) :
    ∃ ad A' c, A = some ad ∧ w.cell? (ad.add j) = some (.slice A' (xs.getD j []).length c) ∧ (xs.getD j []).length ≤ c ∧ Kd.C (Kd.slice 21 (Kd.int .i32)) w A' (xs.getD j []).length (xs.getD j []) := by
  obtain ⟨ad, v, e, hc, hk⟩ := C_get1 h rfl j hj []
  obtain ⟨A', c, hv, hl, hC⟩ := hk.out
  cases hv
  exact ⟨ad, A', c, e, hc, hl, hC⟩
theorem any_range {α : Type} (z : α) (p : α → Bool) (l : List α) : (List.range l.length).any (fun j => p (l.getD j z)) = l.any p := by
  rw [Bool.eq_iff_iff, List.any_eq_true, List.any_eq_true]
  constructor
  · rintro ⟨j, hj, hp⟩
    have hj : j < l.length := by simpa using hj
    refine ⟨l[j], List.getElem_mem hj, ?_⟩
    rwa [List.getD_eq_getElem?_getD, List.getElem?_eq_getElem hj] at hp
  · rintro ⟨x, hx, hp⟩
    obtain ⟨j, hj, rfl⟩ := List.getElem_of_mem hx
    refine ⟨j, by simpa using hj, ?_⟩
    rw [List.getD_eq_getElem?_getD, List.getElem?_eq_getElem hj]
    exact hp
/-- A part's words: not as many as the first one's, or one of another width. -/
def odd (n0 m : Nat) (l : List (List Int)) : Bool := ((l.length : Int) != (n0 : Int)) || l.any (fun v => (v.length : Int) != (m : Int))
/-- Is a book shaped? -/
def shapedL (b : List (List (List Int))) : Bool :=
  !(decide ((b.length : Int) < 1) || decide ((b.length : Int) > 1024) || decide (((b.getD 0 []).length : Int) < 1) || decide (((b.getD 0 []).length : Int) > 256)
    || decide ((((b.getD 0 []).getD 0 []).length : Int) < 1) || decide ((((b.getD 0 []).getD 0 []).length : Int) > 1024) || decide ((((b.getD 0 []).getD 0 []).length * b.length : Nat) > (1024 : Int))
    || b.any (odd (b.getD 0 []).length ((b.getD 0 []).getD 0 []).length))
theorem shaped11_c (A : Option Addr) (n c B m : Nat) (b : Bool) (hne : ((n : Int) != (m : Int)) = b) (W : World) (hb : W.cell? ⟨B, 0, none⟩ = some (.int .i64 m)) :
    Calls Try.prog 118 #[.slice A n c, .pointer (some ⟨B, 0, none⟩)] W fun e W' => e = .returned (.bool b) ∧ W = W' := by
  go_enter Try.func118, Try.ntmps118
  go_wp2
  go_ret
  exact ⟨rfl, rfl⟩
set_option maxRecDepth 100000 in
theorem shaped1_c (A : Option Addr) (c : Nat) (l : List (List Int)) (B1 B2 N0 C0 n0 c00 m : Nat) (ad A00 : Option Addr) (a0 : Addr) (had : ad = some a0) (W : World) (hl : l.length ≤ 9223372036854775807)
    (hb : W.cell? ⟨B1, 0, none⟩ = some (.slice ad N0 C0)) (hN : 0 < N0) (hx0 : W.cell? (a0.add 0) = some (.slice A00 n0 c00)) (hm : W.cell? ⟨B2, 0, none⟩ = some (.int .i64 m)) (hr : Kd.C (Kd.slice 21 (Kd.int .i32)) W A l.length l) :
    Calls Try.prog 117 #[.slice A l.length c, .pointer (some ⟨B1, 0, none⟩), .pointer (some ⟨B2, 0, none⟩)] W fun e W' => e = .returned (.bool (odd n0 m l)) ∧ Below W.heap.size W W' := by
  subst had
  have ha0 : a0.add 0 = a0 := by simp [Addr.add]
  rw [ha0] at hx0
  have HE := Aside0.mk (ContainsFunc_rows A l.length c 118 #[.pointer (some ⟨B2, 0, none⟩)] (fun j => ((l.getD j []).length : Int) != (m : Int)) W (enters_of Try.func118 (by kernel_rfl) rfl) hl (fun j hj => by
    obtain ⟨ad, A', c', e, hc, hcl, hC⟩ := rows_get hr j hj
    refine ⟨ad, _, e, hc, fun W1 hB => ?_⟩
    refine (shaped11_c A' _ c' B2 m _ rfl W1 (pw_cell_below hB hm)).mono ?_
    rintro e W2 ⟨rfl, rfl⟩
    exact ⟨rfl, hB⟩))
  have HO := Aside0.mk (show odd n0 m l = (((l.length : Int) != (n0 : Int)) || (List.range l.length).any (fun j => ((l.getD j []).length : Int) != (m : Int))) by
    unfold odd
    rw [any_range [] (fun v => (v.length : Int) != (m : Int)) l])
  clear hr hm
  cases hq : ((l.length : Int) != (n0 : Int))
  · rw [hq, Bool.false_or] at HO
    go_enter Try.func117, Try.ntmps117
    go_wp2_with (go_at_call 65; ((with_reducible refine HE.out.mono ?_); rintro e w' ⟨rfl, hb'⟩; have HB' := Aside0.mk hb'; clear hb'))
    go_ret
    exact ⟨by rw [HO.out]; rfl, HB'.out⟩
  · rw [hq, Bool.true_or] at HO
    clear HE
    go_enter Try.func117, Try.ntmps117
    go_wp2
    go_ret
    exact ⟨by rw [HO.out]; rfl, Below.refl _ _⟩
end Go.Proofs.Yteickelddnhdiaa.G

/- book.shaped, book.Check. -/
namespace Go.Proofs.Yteickelddnhdiaa.G
open Go.RowKit Go.Shelf Go.Proofs.YteickelddnhdiaaW.PrintWords
set_option linter.unusedVariables false
set_option linter.unusedSimpArgs false

set_option maxRecDepth 100000 in
set_option maxHeartbeats 1000000 in
theorem shaped_c (A0 : Option Addr) (c0 : Nat) (b : List (List (List Int))) (w : World) (hr : Kd.C (Kd.slice 39 (Kd.slice 21 (Kd.int .i32))) w A0 b.length b) :
    Calls Try.prog 81 #[.agg #[.slice A0 b.length c0]] w fun e w' => e = .returned (.bool (shapedL b)) ∧ Below w.heap.size w w' := by
  have hm := C_max hr
  have HB0 := Aside0.mk ((Below.refl w.heap.size w).alloc (Nat.le_refl _) (.cells #[.slice A0 b.length c0] 53))
  have HR := Aside0.mk (fun W (hB : Below w.heap.size w W) => Kd.C_below hr hB)
  by_cases h1 : b.length = 0
  · have HE := Aside0.mk (show shapedL b = false by simp [shapedL, h1])
    have hd1 : decide ((b.length : Int) < 1) = true := decide_eq_true (by omega)
    clear hr HR h1
    go_enter Try.func81, Try.ntmps81
    go_wp2
    go_ret
    exact ⟨by rw [HE.out]; rfl, HB0.out⟩
  have hd1 : decide ((b.length : Int) < 1) = false := decide_eq_false (by omega)
  by_cases h2 : b.length > 1024
  · have hd2 : decide ((b.length : Int) > 1024) = true := decide_eq_true (by omega)
    have HE := Aside0.mk (show shapedL b = false by simp only [shapedL, hd2]; simp)
    clear hr HR
    go_enter Try.func81, Try.ntmps81
    go_wp2
    go_ret
    exact ⟨by rw [HE.out]; rfl, HB0.out⟩
  have hd2 : decide ((b.length : Int) > 1024) = false := decide_eq_false (by omega)
  obtain ⟨ad, A', c', rfl, hxw, hxc, hC⟩ := rows3_get (HR.out w (Below.refl _ _)) 0 (by omega)
  have ha0 : ad.add 0 = ad := by simp [Addr.add]
  rw [ha0] at hxw
  have hx := pw_cell_below HB0.out hxw
  have hm2 := C_max hC
  have hg0 : 0 < b.length := by omega
  have hC0 := hC
  by_cases h3 : (b.getD 0 []).length = 0
  · have hd3 : decide (((b.getD 0 []).length : Int) < 1) = true := decide_eq_true (by omega)
    have HE := Aside0.mk (show shapedL b = false by simp only [shapedL, hd3]; simp)
    clear hr HR hC hC0 hxw h3
    generalize (b.getD 0 []).length = n0 at *
    go_enter Try.func81, Try.ntmps81
    go_wp2
    go_ret
    exact ⟨by rw [HE.out]; rfl, HB0.out⟩
  have hd3 : decide (((b.getD 0 []).length : Int) < 1) = false := decide_eq_false (by omega)
  by_cases h4 : (b.getD 0 []).length > 256
  · have hd4 : decide (((b.getD 0 []).length : Int) > 256) = true := decide_eq_true (by omega)
    have HE := Aside0.mk (show shapedL b = false by simp only [shapedL, hd4]; simp)
    clear hr HR hC hC0 hxw
    generalize (b.getD 0 []).length = n0 at *
    go_enter Try.func81, Try.ntmps81
    go_wp2
    go_ret
    exact ⟨by rw [HE.out]; rfl, HB0.out⟩
  have hd4 : decide (((b.getD 0 []).length : Int) > 256) = false := decide_eq_false (by omega)
  obtain ⟨ad0, A00, c00, hA', hyw, hyc, hC00⟩ := rows_get hC0 0 (by omega)
  subst hA'
  have ha1 : ad0.add 0 = ad0 := by simp [Addr.add]
  rw [ha1] at hyw
  have hy := pw_cell_below HB0.out hyw
  obtain ⟨W2, hW2⟩ : ∃ W2, (w.alloc (.cells #[.slice (some ad) b.length c0] 53)).alloc (.cells #[.int .i64 ((b.getD 0 []).getD 0 []).length] 3) = W2 := ⟨_, rfl⟩
  have hB1 : Below w.heap.size w W2 := hW2 ▸ HB0.out.alloc (by simp) _
  have HB1 := Aside0.mk hB1
  have hx2 := pw_cell_below hB1 hxw
  have hy2 := pw_cell_below hB1 hyw
  have hg1 : 0 < (b.getD 0 []).length := by omega
  have hbn : W2.cell? ⟨w.heap.size, 0, none⟩ = some (.slice (some ad) b.length c0) := by rw [← hW2]; simp
  have hbm : W2.cell? ⟨w.heap.size + 1, 0, none⟩ = some (.int .i64 ((b.getD 0 []).getD 0 []).length) := by rw [← hW2]; simp
  have HCf := ContainsFunc_rows3 (some ad) b.length c0 117 #[.pointer (some ⟨w.heap.size, 0, none⟩), .pointer (some ⟨w.heap.size + 1, 0, none⟩)] (fun j => odd (b.getD 0 []).length ((b.getD 0 []).getD 0 []).length (b.getD j [])) W2 (enters_of Try.func117 (by kernel_rfl) rfl) hm (fun j hj => by
      obtain ⟨ad', A1, c1, e, hx1, _, hC1⟩ := rows3_get (HR.out _ hB1) j hj
      refine ⟨ad', _, e, hx1, fun W hW => (shaped1_c A1 c1 (b.getD j []) w.heap.size (w.heap.size + 1) b.length c0 (b.getD 0 []).length c' ((b.getD 0 []).getD 0 []).length (some ad) (some ad0) ad rfl W (C_max hC1) (pw_cell_below hW hbn) hg0 (pw_cell_below hW (by rw [ha0]; exact hx2)) (pw_cell_below hW hbm) (Kd.C_below hC1 hW)).mono fun e W' ⟨he, hw⟩ => ⟨he, hW.trans (hw.mono hW.size)⟩⟩)
  rw [any_range [] (odd (b.getD 0 []).length ((b.getD 0 []).getD 0 []).length) b] at HCf
  have HC := Aside0.mk HCf
  have HE0 := Aside0.mk (show shapedL b = !(decide ((((b.getD 0 []).getD 0 []).length : Int) < 1) || decide ((((b.getD 0 []).getD 0 []).length : Int) > 1024) || decide ((((b.getD 0 []).getD 0 []).length * b.length : Nat) > (1024 : Int)) || b.any (odd (b.getD 0 []).length ((b.getD 0 []).getD 0 []).length)) by
    simp only [shapedL, hd1, hd2, hd3, hd4, Bool.false_or])
  clear hr HR hC hC0 hC00 hxw hyw HCf hbn hbm hB1
  generalize b.any (odd (b.getD 0 []).length ((b.getD 0 []).getD 0 []).length) = q at *
  generalize ((b.getD 0 []).getD 0 []).length = m at *
  generalize (b.getD 0 []).length = n0 at *
  have hW64 : ∀ n : Nat, n ≤ 1048576 → wrap64 (n : Int) = (n : Int) := fun n hn => by unfold wrap64; omega
  by_cases h5 : m = 0
  · have hd5 : decide ((m : Int) < 1) = true := decide_eq_true (by omega)
    have HE := Aside0.mk (show shapedL b = false by rw [HE0.out, hd5]; rfl)
    subst hW2
    clear HC h5
    go_enter Try.func81, Try.ntmps81
    go_wp2
    go_ret
    exact ⟨by rw [HE.out]; rfl, HB1.out⟩
  have hd5 : decide ((m : Int) < 1) = false := decide_eq_false (by omega)
  by_cases h6 : m > 1024
  · have hd6 : decide ((m : Int) > 1024) = true := decide_eq_true (by omega)
    have HE := Aside0.mk (show shapedL b = false by rw [HE0.out, hd5, hd6]; rfl)
    subst hW2
    clear HC
    go_enter Try.func81, Try.ntmps81
    go_wp2
    go_ret
    exact ⟨by rw [HE.out]; rfl, HB1.out⟩
  have hd6 : decide ((m : Int) > 1024) = false := decide_eq_false (by omega)
  obtain ⟨p, hp⟩ : ∃ p, m * b.length = p := ⟨_, rfl⟩
  have hpm : p ≤ 1048576 := by rw [← hp]; exact Nat.mul_le_mul (show m ≤ 1024 by omega) (show b.length ≤ 1024 by omega)
  have hm1 : wrap64 ((m : Int) * (b.length : Int)) = (p : Int) := by rw [← Int.natCast_mul, hp]; exact hW64 p hpm
  rw [hp] at HE0
  clear hp
  by_cases h7 : p > 1024
  · have hd7 : decide ((p : Int) > 1024) = true := decide_eq_true (by omega)
    have HE := Aside0.mk (show shapedL b = false by rw [HE0.out, hd5, hd6, hd7]; rfl)
    subst hW2
    clear HC
    go_enter Try.func81, Try.ntmps81
    go_wp2
    go_ret
    exact ⟨by rw [HE.out]; rfl, HB1.out⟩
  have hd7 : decide ((p : Int) > 1024) = false := decide_eq_false (by omega)
  have HE := Aside0.mk (show shapedL b = !q by rw [HE0.out, hd5, hd6, hd7]; rfl)
  subst hW2
  clear HE0 hW64
  go_enter Try.func81, Try.ntmps81
  go_wp2_with (go_at_call 116; ((with_reducible refine HC.out.mono ?_); rintro e w1 ⟨rfl, hb⟩; have HB2 := Aside0.mk (below_then HB1.out HB1.out.size hb); clear hb))
  go_ret
  exact ⟨by rw [HE.out]; rfl, HB2.out⟩
end Go.Proofs.Yteickelddnhdiaa.G

/- book.Check, in the print's form. -/
namespace Go.Proofs.Yteickelddnhdiaa.G
open Go.RowKit Go.Shelf Go.Proofs.YteickelddnhdiaaW.PrintWords
set_option linter.unusedVariables false
set_option linter.unusedSimpArgs false

/-- What book.Check answers. -/
def bookE (b : List (List (List Int))) : Int := if shapedL b = false then 2 else if b.any (fun l => l.any (fun v => checkWide v != 0)) then 11 else 0
theorem Check1_c (A : Option Addr) (c : Nat) (l : List Int) (W : World) (hr : Kd.C (Kd.int .i32) W A l.length l) :
    Calls Try.prog 82 #[.slice A l.length c] W fun e W' => e = .returned (.bool (checkWide l != 0)) ∧ Below W.heap.size W W' := by
  have HC := Aside0.mk (CheckWide_calls A c l W hr)
  clear hr
  generalize checkWide l = q at *
  go_enter Try.func82, Try.ntmps82
  go_wp2_with (go_at_call 67; ((with_reducible refine HC.out.mono ?_); rintro e w' ⟨rfl, hb'⟩; have HB' := Aside0.mk hb'; clear hb'))
  go_ret
  exact ⟨rfl, HB'.out⟩
theorem any_take {α : Type} (p : α → Bool) (l : List α) (z : α) (k : Nat) (hk : k < l.length) : (l.take (k + 1)).any p = ((l.take k).any p || p (l.getD k z)) := by
  rw [List.take_succ_eq_append_getElem hk, List.any_append]
  simp [hk]
theorem any_of_take {α : Type} (p : α → Bool) (l : List α) (k : Nat) (h : (l.take k).any p = true) : l.any p = true := by
  rw [List.any_eq_true] at h ⊢
  obtain ⟨x, hx, hp⟩ := h
  exact ⟨x, List.mem_of_mem_take hx, hp⟩

set_option maxRecDepth 100000 in
set_option maxHeartbeats 1000000 in
theorem BCheck_c (A0 : Option Addr) (c0 : Nat) (b : List (List (List Int))) (w : World) (hr : Kd.C (Kd.slice 39 (Kd.slice 21 (Kd.int .i32))) w A0 b.length b) :
    Calls Try.prog 37 #[.agg #[.slice A0 b.length c0]] w fun e w' => e = .returned (.int .i64 (bookE b)) ∧ Below w.heap.size w w' := by
  have hm := C_max hr
  have HB0 := Aside0.mk ((Below.refl w.heap.size w).alloc (Nat.le_refl _) (.cells #[.slice A0 b.length c0] 53))
  have HR := Aside0.mk (fun W (hB : Below w.heap.size w W) => Kd.C_below hr hB)
  have HS := Aside0.mk (fun W (hB : Below w.heap.size w W) => shaped_c A0 c0 b W (HR.out W hB))
  clear hr
  cases hq : shapedL b with
  | false =>
    have HE := Aside0.mk (show bookE b = 2 by simp [bookE, hq])
    rw [hq] at HS
    clear HR
    go_enter Try.func37, Try.ntmps37
    go_wp2_with (go_at_call 81; ((with_reducible refine (HS.out _ HB0.out).mono ?_); rintro e w1 ⟨rfl, hb⟩; have HB1 := Aside0.mk (below_then HB0.out HB0.out.size hb); clear hb))
    go_ret
    exact ⟨by rw [HE.out]; rfl, HB1.out⟩
  | true =>
    have HE := Aside0.mk (show bookE b = if b.any (fun l => l.any (fun v => checkWide v != 0)) then 11 else 0 by simp [bookE, hq])
    rw [hq] at HS
    go_enter Try.func37, Try.ntmps37
    go_wp2_with (go_at_call 81; ((with_reducible refine (HS.out _ HB0.out).mono ?_); rintro e w1 ⟨rfl, hb⟩; have HB1 := Aside0.mk (below_then HB0.out HB0.out.size hb); have hcb := pw_cell_below hb (show (w.alloc (.cells #[.slice A0 b.length c0] 53)).cell? ⟨w.heap.size, 0, none⟩ = some (.slice A0 b.length c0) by simp); clear hb))
    go_loopw [11] (fun v wr => ∃ k : Nat, k ≤ b.length ∧ v = .int .i64 k ∧ Aside0 ((b.take k).any (fun l => l.any (fun v => checkWide v != 0)) = false) ∧ Aside0 (Below w.heap.size w wr)) (fun v _ => b.length - (intOf v).toNat)
    case atStart => exact ⟨0, Nat.zero_le _, rfl, ⟨by simp⟩, HB1⟩
    case round =>
      obtain ⟨k, hk, rfl, hno, HB⟩ := hrel
      by_cases hlt : k < b.length
      · obtain ⟨ad, A', c', rfl, hx, hcl, hC⟩ := rows3_get (HR.out wr HB.out) k hlt
        have HT := Aside0.mk (any_take (fun l => l.any (fun v => checkWide v != 0)) b [] k hlt)
        have HCf := ContainsFunc_rows A' (b.getD k []).length c' 82 #[] (fun j => checkWide ((b.getD k []).getD j []) != 0) wr (enters_of Try.func82 (by kernel_rfl) rfl) (C_max hC) (fun j hj => by
          obtain ⟨ad', A1, c1, e, hx1, _, hC1⟩ := rows_get hC j hj
          refine ⟨ad', _, e, hx1, fun W hW => (Check1_c A1 c1 ((b.getD k []).getD j []) W (Kd.C_below hC1 hW)).mono fun e W' ⟨he, hw⟩ => ⟨he, hW.trans (hw.mono hW.size)⟩⟩)
        rw [any_range [] (fun v => checkWide v != 0) (b.getD k [])] at HCf
        have HA := Aside0.mk (fun h : ((b.getD k []).any fun v => checkWide v != 0) = true => any_of_take (fun l => l.any (fun v => checkWide v != 0)) b (k + 1) (by rw [HT.out]; simp only [Bool.or_eq_true]; exact .inr h))
        rw [hno.out, Bool.false_or] at HT
        clear hC
        cases hp : (b.getD k []).any fun v => checkWide v != 0 with
        | true =>
          rw [hp] at HCf
          have HC := Aside0.mk HCf
          have HE2 := Aside0.mk (show bookE b = 11 by rw [HE.out, HA.out hp]; rfl)
          clear HCf hp HT HA
          generalize (b.getD k []).length = n at *
          go_wp2_with (go_at_call 65; ((with_reducible refine HC.out.mono ?_); rintro e w' ⟨rfl, hb'⟩; have HB' := Aside0.mk (below_then HB.out HB.out.size hb'); clear hb'))
          go_ret
          exact ⟨by rw [HE2.out]; rfl, HB'.out⟩
        | false =>
          rw [hp] at HCf HT
          have HC := Aside0.mk HCf
          clear HCf hp HA
          generalize (b.getD k []).length = n at *
          go_wp2_with (go_at_call 65; ((with_reducible refine HC.out.mono ?_); rintro e w' ⟨rfl, hb'⟩; have HB' := Aside0.mk (below_then HB.out HB.out.size hb'); clear hb'))
          go_roundw
          case rel => exact ⟨k + 1, by omega, by go_num, HT, HB'⟩
          case measure => simp [intOf]; omega
      · obtain rfl : k = b.length := by omega
        have HE2 := Aside0.mk (show bookE b = 0 by rw [HE.out]; have h := hno.out; rw [List.take_length] at h; rw [h]; rfl)
        go_wp2
        go_ret
        exact ⟨by rw [HE2.out]; rfl, HB.out⟩
end Go.Proofs.Yteickelddnhdiaa.G
namespace Go.Proofs.Yteickelddnhdiaa.Bk
open Go.RowKit Go.Proofs.YteickelddnhdiaaW.PrintWords Go.Proofs.Yteickelddnhdiaa.G
def book_Check.f (l : List (List (List Int))) : Option Int := some (bookE l)
theorem book_Check.calls (A0_0 : Option Addr) (c0_0 : Nat) (l0_0 : List (List (List Int))) (r : Int) (w : World) (hr0_0 : Kd.C (Kd.slice 39 (Kd.slice 21 (Kd.int .i32))) w A0_0 l0_0.length l0_0) (hc0_0 : l0_0.length ≤ c0_0) (h : book_Check.f l0_0 = some r) :
    Calls Try.prog 37 #[.agg #[.slice A0_0 l0_0.length c0_0]] w fun e w' => e = .returned (.int .i64 r) ∧ Below w.heap.size w w' := by
  cases h
  exact BCheck_c A0_0 c0_0 l0_0 w hr0_0
end Go.Proofs.Yteickelddnhdiaa.Bk
