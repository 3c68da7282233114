/- slices.Clone of a row, IndexFunc and ContainsFunc on rows of rows. -/
import Derived.Test.YtcgpkfpfpjclkaaVecB
import Derived.Test.YtcgpkfpfpjclkaaWZeros
namespace Go.Proofs.Ytcgpkfpfpjclkaa.G
open Go.RowKit Go.Shelf Go.Proofs.YtcgpkfpfpjclkaaW.PrintWords
set_option linter.unusedVariables false
set_option linter.unusedSimpArgs false
/-- The first index of which p holds. -/
def firstR (p : Nat → Bool) (n : Nat) : Int := match (List.range n).find? p with | some i => (i : Int) | none => -1
theorem firstR_hit {p : Nat → Bool} {n k : Nat} (hk : k < n) (hp : p k = true) (hn : ∀ j, j < k → p j = false) : firstR p n = (k : Int) := by
  have : (List.range n).find? p = some k := by
    rw [List.find?_range_eq_some]
    exact ⟨hp, by simpa using hk, fun j hj => by simp [hn j hj]⟩
  simp [firstR, this]
theorem firstR_miss {p : Nat → Bool} {n : Nat} (hn : ∀ j, j < n → p j = false) : firstR p n = -1 := by
  have : (List.range n).find? p = none := by
    rw [List.find?_range_eq_none]
    exact fun j hj => by simp [hn j hj]
  simp [firstR, this]
theorem firstR_ge (p : Nat → Bool) (n : Nat) : decide (0 ≤ firstR p n) = (List.range n).any p := by
  unfold firstR
  cases h : (List.range n).find? p with
  | none => rw [List.find?_eq_none] at h; simp; simpa using h
  | some i => have h2 := List.find?_some h; have := List.mem_of_find?_eq_some h; simp; exact ⟨i, by simpa using this, h2⟩
/-- The elements of a row, and what a function value tells of each. -/
def ElemPred (A0 : Option Addr) (n : Nat) (g : Nat) (lb : Array Value) (p : Nat → Bool) (w : World) : Prop :=
  ∀ j, j < n → ∃ ad v, A0 = some ad ∧ w.cell? (ad.add j) = some v ∧ ∀ W, Below w.heap.size w W → Calls Try.prog g (#[v] ++ lb) W fun e W' => e = .returned (.bool (p j)) ∧ Below w.heap.size w W'

set_option maxRecDepth 100000 in
theorem IndexFunc_rows (A0 : Option Addr) (n c0 : Nat) (g : Nat) (lb : Array Value) (p : Nat → Bool) (w : World) (eg : Enters Try.prog g)
    (hn : n ≤ 9223372036854775807) (hp : ElemPred A0 n g lb p w) :
    Calls Try.prog 48 #[.slice A0 n c0, .func (.func g) #[] lb] w fun e w' => e = .returned (.int .i64 (firstR p n)) ∧ Below w.heap.size w w' := by
  have HP := Aside0.mk hp
  clear hp
  unfold Enters at eg
  go_enter Try.func48, Try.ntmps48
  go_wp2
  go_loopw [5, 8] (fun _ v wr => ∃ k : Nat, k ≤ n ∧ v = .int .i64 k ∧ Aside0 (∀ i, i < k → p i = false) ∧ Aside0 (Below w.heap.size w wr)) (fun _ v _ => n - (intOf v).toNat)
  case atStart => exact ⟨0, Nat.zero_le _, rfl, ⟨fun _ h => absurd h (Nat.not_lt_zero _)⟩, ⟨Below.refl _ _⟩⟩
  case round =>
    obtain ⟨k, hk, rfl, hno, HB⟩ := hrel
    by_cases hlt : k < n
    · obtain ⟨ad, v, rfl, hx, hcall⟩ := HP.out k hlt
      have hcall := hcall wr HB.out
      have hx := pw_cell_below HB.out hx
      cases hq : p k
      · rw [hq] at hcall
        go_wp2_with (go_at_fn g; refine hcall.mono ?_; rintro e w' ⟨rfl, hb'⟩; have HB' := Aside0.mk hb'; clear hb')
        go_roundw
        case rel => exact ⟨k + 1, by omega, by go_num, ⟨fun i hi => by rcases Nat.lt_succ_iff_lt_or_eq.1 hi with h | rfl; exact hno.out i h; exact hq⟩, HB'⟩
        case measure => simp [intOf]; omega
      · rw [hq] at hcall
        go_wp2_with (go_at_fn g; refine hcall.mono ?_; rintro e w' ⟨rfl, hb'⟩; have HB' := Aside0.mk hb'; clear hb')
        go_ret
        exact ⟨by rw [firstR_hit hlt hq hno.out]; rfl, HB'.out⟩
    · obtain rfl : k = n := by omega
      go_wp2
      go_ret
      exact ⟨by rw [firstR_miss hno.out]; rfl, HB.out⟩
theorem ContainsFunc_rows (A0 : Option Addr) (n c0 : Nat) (g : Nat) (lb : Array Value) (p : Nat → Bool) (w : World) (eg : Enters Try.prog g)
    (hn : n ≤ 9223372036854775807) (hp : ElemPred A0 n g lb p w) :
    Calls Try.prog 34 #[.slice A0 n c0, .func (.func g) #[] lb] w fun e w' => e = .returned (.bool ((List.range n).any p)) ∧ Below w.heap.size w w' := by
  have HC := Aside0.mk (IndexFunc_rows A0 n c0 g lb p w eg hn hp)
  have HE := Aside0.mk (firstR_ge p n)
  clear hp
  generalize firstR p n = q at *
  go_enter Try.func34, Try.ntmps34
  go_wp2_with (go_at_call 48; ((with_reducible refine HC.out.mono ?_); rintro e w' ⟨rfl, hb'⟩; have HB' := Aside0.mk hb'; clear hb'))
  go_ret
  exact ⟨by rw [← HE.out]; rfl, HB'.out⟩

/-- A row's rows, one by one. -/
theorem rows_get {w : World} {A : Option Addr} {n : Nat} {xs : List (List Int)} (h : Kd.C (Kd.slice 21 (Kd.int .i32)) w A n xs) (j : Nat) (hj : j < n) :
    ∃ ad A' c, A = some ad ∧ w.cell? (ad.add j) = some (.slice A' (xs.getD j []).length c) ∧ (xs.getD j []).length ≤ c ∧ Kd.C (Kd.int .i32) w A' (xs.getD j []).length (xs.getD j []) := by
  obtain ⟨ad, v, e, hc, hk⟩ := C_get1 h rfl j hj []
  obtain ⟨A', c, hv, hl, hC⟩ := hk.out
  cases hv
  exact ⟨ad, A', c, e, hc, hl, hC⟩

set_option maxRecDepth 100000 in
/-- slices.Clone of a slice that is there. -/
theorem Clone_row (ad : Addr) (c0 n : Nat) (l0 : List Int) (w : World) (hr0 : Kd.C (Kd.int .i32) w (some ad) n l0) (hlim : l0.length ≤ 17592186044416) :
    Calls Try.prog 51 #[.slice (some ad) n c0] w fun e w' => ∃ v : Value, e = .returned v ∧
      w'.ownsRow w.heap.size 21 1 v l0.length (nums .i32 l0) ∧ Below w.heap.size w w' := by
  have hn : l0.length = n := hr0.1
  subst hn
  have hlit := own_lit w w.heap.size 21 .i32 [] (Nat.le_refl _) (by simp)
  have hb0 := (Below.refl w.heap.size w).alloc (Nat.le_refl _) (.cells (nums .i32 []).toArray 21)
  have HR := Aside0.mk (C_reads (Kd.C_below hr0 hb0))
  have HO := Aside0.mk hlit
  have HB := Aside0.mk hb0
  have HL := Aside0.mk hlim
  have heq : ∀ W, (binOp .eql 39 (.slice (some ad) l0.length c0) (.slice none 0 0)).run Try.prog W = .ok (.bool false) W := fun W => by kernel_rfl
  clear hr0 hlit hb0 hlim
  go_enter Try.func51, Try.ntmps51
  go_wp2_with (at_builtin; refine print_append_row w.heap.size rfl (.tmp 5) (.tmp 6) 39 21 .i32 4 rfl Try.underlying39 info_i32 (by decide) _ [] l0 _ _ _ rfl rfl HO.out HR.out HB.out HB.out.size (by have := HL.out; simp; omega) ?_; intro v1 w1 ho hb hg hat; have HO2 := Aside0.mk ho; have HB2 := Aside0.mk hb; clear ho hb hg hat)
  go_ret
  exact ⟨_, rfl, HO2.out, HB2.out⟩

end Go.Proofs.Ytcgpkfpfpjclkaa.G
namespace Go.Proofs.Ytcgpkfpfpjclkaa.Mm
open Go.RowKit Go.Proofs.YtcgpkfpfpjclkaaW.PrintWords Go.Proofs.Ytcgpkfpfpjclkaa.G
set_option linter.unusedVariables false
def slices_Clone_int32_int32.f (l : List Int) : Option (List Int) := if l.length ≤ 1024 then some l else none
theorem Clone_nil (c0 : Nat) (w : World) : Calls Try.prog 51 #[.slice none 0 c0] w fun e w' => ∃ v, e = .returned v ∧ w'.ownsRow w.heap.size 21 1 v 0 (nums .i32 []) ∧ Below w.heap.size w w' := by
  have heq : ∀ W, (binOp .eql 39 (.slice none 0 c0) (.slice none 0 0)).run Try.prog W = .ok (.bool true) W := fun W => by kernel_rfl
  go_enter Try.func51, Try.ntmps51
  go_wp2
  go_ret
  exact ⟨_, rfl, World.ownsRow_nil _ _ _ _, Below.refl _ _⟩
theorem slices_Clone_int32_int32.calls (A0 : Option Addr) (c0 : Nat) (l0 : List Int) (r : List Int) (w : World) (hr0 : Kd.C (Kd.int .i32) w A0 l0.length l0) (hc0 : l0.length ≤ c0) (h : slices_Clone_int32_int32.f l0 = some r) :
    Calls Try.prog 51 #[.slice A0 l0.length c0] w fun e w' => ∃ v0_ : Value, e = .returned v0_ ∧ Kd.R (Kd.int .i32) 21 w' w.heap.size (fun _ => True) v0_ r ∧ Below w.heap.size w w' := by
  unfold slices_Clone_int32_int32.f at h
  split at h
  · next hl =>
    injection h with h
    subst h
    cases A0 with
    | some ad =>
      refine (Clone_row ad c0 l0.length l0 w hr0 (by omega)).mono ?_
      rintro e w' ⟨v, rfl, ho, hb⟩
      exact ⟨v, rfl, R_nums ho rfl, hb⟩
    | none =>
      have h0 : l0 = [] := by
        refine Classical.byContradiction fun hne => ?_
        obtain ⟨ad, e, _⟩ := C_ints hr0 0 (List.length_pos_iff.2 hne)
        cases e
      subst h0
      refine (Clone_nil c0 w).mono ?_
      rintro e w' ⟨v, rfl, ho, hb⟩
      exact ⟨v, rfl, R_nums ho rfl, hb⟩
  · cases h
end Go.Proofs.Ytcgpkfpfpjclkaa.Mm
