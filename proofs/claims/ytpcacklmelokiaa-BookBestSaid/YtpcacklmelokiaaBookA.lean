/- Contracts for book.Check: its closures, ContainsFunc over rows of rows. -/
import Derived.Test.YtpcacklmelokiaaRowsA
import Derived.Test.YtpcacklmelokiaaVecB
namespace Go.Proofs.Ytpcacklmelokiaa.G
open Go.RowKit Go.Shelf Go.Proofs.YtpcacklmelokiaaW.PrintWords
set_option linter.unusedVariables false
set_option linter.unusedSimpArgs false

set_option maxRecDepth 100000 in
theorem IndexFunc_rows3 (A0 : Option Addr) (n c0 : Nat) (g : Nat) (lb : Array Value) (p : Nat → Bool) (w : World) (eg : Enters Try.prog g)
    (hn : n ≤ 9223372036854775807) (hp : ElemPred A0 n g lb p w) :
    Calls Try.prog 69 #[.slice A0 n c0, .func (.func g) #[] lb] w fun e w' => e = .returned (.int .i64 (firstR p n)) ∧ Below w.heap.size w w' := by
  have HP := Aside0.mk hp
  clear hp
  unfold Enters at eg
  go_enter Try.func69, Try.ntmps69
  go_wp2
  go_loopw [5, 8] (fun _ v wr => ∃ k : Nat, k ≤ n ∧ v = .int .i64 k ∧ Aside0 (∀ i, i < k → p i = false) ∧ Aside0 (Below w.heap.size w wr)) (fun _ v _ => n - (intOf v).toNat)
  case atStart => exact ⟨0, Nat.zero_le _, rfl, ⟨fun _ h => absurd h (Nat.not_lt_zero _)⟩, ⟨Below.refl _ _⟩⟩
  case round =>
    obtain ⟨k, hk, rfl, hno, HB⟩ := hrel
    by_cases hlt : k < n
    · obtain ⟨ad, v, rfl, hx, hcall⟩ := HP.out k hlt
      have hcall := hcall wr HB.out
      have hx := pw_cell_below HB.out hx
      cases hq : p k
      · rw [hq] at hcall
        go_wp2_with (go_at_fn g; refine hcall.mono ?_; rintro e w' ⟨rfl, hb'⟩; have HB' := Aside0.mk hb'; clear hb')
        go_roundw
        case rel => exact ⟨k + 1, by omega, by go_num, ⟨fun i hi => by rcases Nat.lt_succ_iff_lt_or_eq.1 hi with h | rfl; exact hno.out i h; exact hq⟩, HB'⟩
        case measure => simp [intOf]; omega
      · rw [hq] at hcall
        go_wp2_with (go_at_fn g; refine hcall.mono ?_; rintro e w' ⟨rfl, hb'⟩; have HB' := Aside0.mk hb'; clear hb')
        go_ret
        exact ⟨by rw [firstR_hit hlt hq hno.out]; rfl, HB'.out⟩
    · obtain rfl : k = n := by omega
      go_wp2
      go_ret
      exact ⟨by rw [firstR_miss hno.out]; rfl, HB.out⟩
theorem ContainsFunc_rows3 (A0 : Option Addr) (n c0 : Nat) (g : Nat) (lb : Array Value) (p : Nat → Bool) (w : World) (eg : Enters Try.prog g)
    (hn : n ≤ 9223372036854775807) (hp : ElemPred A0 n g lb p w) :
    Calls Try.prog 63 #[.slice A0 n c0, .func (.func g) #[] lb] w fun e w' => e = .returned (.bool ((List.range n).any p)) ∧ Below w.heap.size w w' := by
  have HC := Aside0.mk (IndexFunc_rows3 A0 n c0 g lb p w eg hn hp)
  have HE := Aside0.mk (firstR_ge p n)
  clear hp
  generalize firstR p n = q at *
  go_enter Try.func63, Try.ntmps63
  go_wp2_with (go_at_call 69; ((with_reducible refine HC.out.mono ?_); rintro e w' ⟨rfl, hb'⟩; have HB' := Aside0.mk hb'; clear hb'))
  go_ret
  exact ⟨by rw [← HE.out]; rfl, HB'.out⟩


/-- Rows of rows, one by one. -/
theorem rows3_get {w : World} {A : Option Addr} {n : Nat} {xs : List (List (List Int))} (h : Kd.C (Kd.slice 25 (Kd.slice 21 (Kd.int .i32))) w A n xs) (j : Nat) (hj : j < n) :
    ∃ ad A' c, A = some ad ∧ w.cell? (ad.add j) = some (.slice A' (xs.getD j []).length c) ∧ (xs.getD j []).length ≤ c ∧ Kd.C (Kd.slice 21 (Kd.int .i32)) w A' (xs.getD j []).length (xs.getD j []) := by
  obtain ⟨ad, v, e, hc, hk⟩ := C_get1 h rfl j hj []
  obtain ⟨A', c, hv, hl, hC⟩ := hk.out
  cases hv
  exact ⟨ad, A', c, e, hc, hl, hC⟩
theorem any_range {α : Type} (z : α) (p : α → Bool) (l : List α) : (List.range l.length).any (fun j => p (l.getD j z)) = l.any p := by
  rw [Bool.eq_iff_iff, List.any_eq_true, List.any_eq_true]
  constructor
  · rintro ⟨j, hj, hp⟩
    have hj : j < l.length := by simpa using hj
    refine ⟨l[j], List.getElem_mem hj, ?_⟩
    rwa [List.getD_eq_getElem?_getD, List.getElem?_eq_getElem hj] at hp
  · rintro ⟨x, hx, hp⟩
    obtain ⟨j, hj, rfl⟩ := List.getElem_of_mem hx
    refine ⟨j, by simpa using hj, ?_⟩
    rw [List.getD_eq_getElem?_getD, List.getElem?_eq_getElem hj]
    exact hp
/-- A part's words: not as many as the first one's, or one of another width. -/
def odd (n0 m : Nat) (l : List (List Int)) : Bool := ((l.length : Int) != (n0 : Int)) || l.any (fun v => (v.length : Int) != (m : Int))
/-- Is a book shaped? -/
def shapedL (b : List (List (List Int))) : Bool :=
  !(decide ((b.length : Int) < 1) || decide ((b.length : Int) > 1024) || decide (((b.getD 0 []).length : Int) < 1) || decide (((b.getD 0 []).length : Int) > 256)
    || decide ((((b.getD 0 []).getD 0 []).length : Int) < 1) || decide ((((b.getD 0 []).getD 0 []).length : Int) > 1024) || decide ((((b.getD 0 []).getD 0 []).length * b.length : Nat) > (1024 : Int))
    || b.any (odd (b.getD 0 []).length ((b.getD 0 []).getD 0 []).length))
theorem shaped11_c (A : Option Addr) (n c B m : Nat) (b : Bool) (hne : ((n : Int) != (m : Int)) = b) (W : World) (hb : W.cell? ⟨B, 0, none⟩ = some (.int .i64 m)) :
    Calls Try.prog 65 #[.slice A n c, .pointer (some ⟨B, 0, none⟩)] W fun e W' => e = .returned (.bool b) ∧ W = W' := by
  go_enter Try.func65, Try.ntmps65
  go_wp2
  go_ret
  exact ⟨rfl, rfl⟩
set_option maxRecDepth 100000 in
theorem shaped1_c (A : Option Addr) (c : Nat) (l : List (List Int)) (B1 B2 N0 C0 n0 c00 m : Nat) (ad A00 : Option Addr) (a0 : Addr) (had : ad = some a0) (W : World) (hl : l.length ≤ 9223372036854775807)
    (hb : W.cell? ⟨B1, 0, none⟩ = some (.slice ad N0 C0)) (hN : 0 < N0) (hx0 : W.cell? (a0.add 0) = some (.slice A00 n0 c00)) (hm : W.cell? ⟨B2, 0, none⟩ = some (.int .i64 m)) (hr : Kd.C (Kd.slice 21 (Kd.int .i32)) W A l.length l) :
    Calls Try.prog 64 #[.slice A l.length c, .pointer (some ⟨B1, 0, none⟩), .pointer (some ⟨B2, 0, none⟩)] W fun e W' => e = .returned (.bool (odd n0 m l)) ∧ Below W.heap.size W W' := by
  subst had
  have ha0 : a0.add 0 = a0 := by simp [Addr.add]
  rw [ha0] at hx0
  have HE := Aside0.mk (ContainsFunc_rows A l.length c 65 #[.pointer (some ⟨B2, 0, none⟩)] (fun j => ((l.getD j []).length : Int) != (m : Int)) W (enters_of Try.func65 (by kernel_rfl) rfl) hl (fun j hj => by
    obtain ⟨ad, A', c', e, hc, hcl, hC⟩ := rows_get hr j hj
    refine ⟨ad, _, e, hc, fun W1 hB => ?_⟩
    refine (shaped11_c A' _ c' B2 m _ rfl W1 (pw_cell_below hB hm)).mono ?_
    rintro e W2 ⟨rfl, rfl⟩
    exact ⟨rfl, hB⟩))
  have HO := Aside0.mk (show odd n0 m l = (((l.length : Int) != (n0 : Int)) || (List.range l.length).any (fun j => ((l.getD j []).length : Int) != (m : Int))) by
    unfold odd
    rw [any_range [] (fun v => (v.length : Int) != (m : Int)) l])
  clear hr hm
  cases hq : ((l.length : Int) != (n0 : Int))
  · rw [hq, Bool.false_or] at HO
    go_enter Try.func64, Try.ntmps64
    go_wp2_with (go_at_call 42; ((with_reducible refine HE.out.mono ?_); rintro e w' ⟨rfl, hb'⟩; have HB' := Aside0.mk hb'; clear hb'))
    go_ret
    exact ⟨by rw [HO.out]; rfl, HB'.out⟩
  · rw [hq, Bool.true_or] at HO
    clear HE
    go_enter Try.func64, Try.ntmps64
    go_wp2
    go_ret
    exact ⟨by rw [HO.out]; rfl, Below.refl _ _⟩
end Go.Proofs.Ytpcacklmelokiaa.G
