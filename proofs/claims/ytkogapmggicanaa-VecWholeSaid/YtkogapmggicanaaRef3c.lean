/- Contracts of the reference of vec: Wide, Bytes, Same, Of, Signed, Read; vec.Same; the kit's Own. -/
import Derived.Test.YtkogapmggicanaaRef3b
import Derived.Deep.QuietTactic
import Derived.BigQuiet
namespace Go.Proofs.Ytkogapmggicanaa.G
open Go.RowKit Go.Shelf Go.Proofs.YtkogapmggicanaaW.PrintWords
set_option linter.unusedVariables false
set_option linter.unusedSimpArgs false

theorem RSame_calls : ∀ (A0 : Option Addr) (c0 : Nat) (l0 : List Int) (A1 : Option Addr) (c1 : Nat) (l1 : List Int) (w : World) (hr0 : Kd.C (Kd.int .i32) w A0 l0.length l0) (hr1 : Kd.C (Kd.int .i32) w A1 l1.length l1),
    Calls Try.prog 43 #[.slice A0 l0.length c0, .slice A1 l1.length c1] w fun e w' => e = .returned (.bool (sameL l0 l1)) ∧ Below w.heap.size w w' := by
  intro A0 c0 l0 A1 c1 l1 w hr0 hr1
  have hmax := C_max hr0
  have hmax1 := C_max hr1
  by_cases hl : l0.length = l1.length
  · have hq : ((l0.length : Int) != (l1.length : Int)) = false := by simp [hl]
    have HC := Aside0.mk (C_ints hr0)
    have HC1 := Aside0.mk (C_ints hr1)
    have HL := Aside0.mk hl
    clear hr0 hr1 hl
    go_enter Try.func43, Try.ntmps43
    go_wp2
    go_loopw [5] (fun i wr => ∃ k : Nat, k ≤ l0.length ∧ i = .int .i64 k ∧ Aside0 (∀ j, j < k → l0.getD j 0 = l1.getD j 0) ∧ Aside0 (Below w.heap.size w wr)) (fun i _ => l0.length - (intOf i).toNat)
    case atStart => exact ⟨0, by omega, rfl, ⟨fun j h => absurd h (Nat.not_lt_zero _)⟩, ⟨Below.refl _ _⟩⟩
    case round =>
      obtain ⟨k, hk, rfl, HE, HB⟩ := hrel
      by_cases hlt : k < l0.length
      · have hlt1 : k < l1.length := by have := HL.out; omega
        have hi0 : (0 : Int) ≤ (k : Int) := by omega
        have hi1 : (k : Int) < (l0.length : Int) := by omega
        have hi2 : (k : Int) < (l1.length : Int) := by omega
        obtain ⟨ad, rfl, hx⟩ := HC.out k hlt
        obtain ⟨ad1, rfl, hy⟩ := HC1.out k hlt1
        have hx := pw_cell_below HB.out hx
        have hy := pw_cell_below HB.out hy
        by_cases he : l0.getD k 0 = l1.getD k 0
        · have HE2 := Aside0.mk (show ∀ j, j < k + 1 → l0.getD j 0 = l1.getD j 0 from fun j hj => by rcases Nat.lt_succ_iff_lt_or_eq.1 hj with h | rfl; exact HE.out j h; exact he)
          rw [he] at hx
          clear he
          generalize l1.getD k 0 = x at *
          go_wp2
          go_quiet (fail)
          go_wp2
          go_roundw
          case rel => exact ⟨k + 1, by omega, by go_num, HE2, ⟨pw_below_drewN HB.out _⟩⟩
          case measure => simp [intOf]; omega
        · have HF := Aside0.mk (sameL_no he)
          have hne : (l0.getD k 0 != l1.getD k 0) = true := by simpa using he
          have hne2 : (l0.getD k 0 == l1.getD k 0) = false := by simpa using he
          clear he
          generalize l0.getD k 0 = x at *
          generalize l1.getD k 0 = y at *
          go_wp2
          go_quiet (fail)
          go_wp2
          go_ret
          exact ⟨by rw [HF.out]; rfl, pw_below_drewN HB.out _⟩
      · obtain rfl : k = l0.length := by omega
        have HF := Aside0.mk (sameL_yes HL.out HE.out)
        go_wp2
        go_ret
        exact ⟨by rw [HF.out]; rfl, HB.out⟩
  · have HF := Aside0.mk (sameL_ne hl)
    have hq : ((l0.length : Int) != (l1.length : Int)) = true := by simp; omega
    clear hr0 hr1 hl
    go_enter Try.func43, Try.ntmps43
    go_wp2
    go_ret
    exact ⟨by rw [HF.out]; rfl, Below.refl _ _⟩


/-- slices.Equal at []int32: one loop, read by a counter of the compiler's. -/
theorem Equal_calls : ∀ (A0 : Option Addr) (c0 : Nat) (l0 : List Int) (A1 : Option Addr) (c1 : Nat) (l1 : List Int) (w : World) (hr0 : Kd.C (Kd.int .i32) w A0 l0.length l0) (hr1 : Kd.C (Kd.int .i32) w A1 l1.length l1),
    Calls Try.prog 79 #[.slice A0 l0.length c0, .slice A1 l1.length c1] w fun e w' => e = .returned (.bool (sameL l0 l1)) ∧ Below w.heap.size w w' := by
  intro A0 c0 l0 A1 c1 l1 w hr0 hr1
  have hmax := C_max hr0
  have hmax1 := C_max hr1
  by_cases hl : l0.length = l1.length
  · have hq : ((l0.length : Int) != (l1.length : Int)) = false := by simp [hl]
    have HC := Aside0.mk (C_ints hr0)
    have HC1 := Aside0.mk (C_ints hr1)
    have HL := Aside0.mk hl
    clear hr0 hr1 hl
    go_enter Try.func79, Try.ntmps79
    go_wp2
    go_loopw [5, 13] (fun _ i wr => ∃ k : Nat, k ≤ l0.length ∧ i = .int .i64 k ∧ Aside0 (∀ j, j < k → l0.getD j 0 = l1.getD j 0) ∧ Aside0 (Below w.heap.size w wr)) (fun _ i _ => l0.length - (intOf i).toNat)
    case atStart => exact ⟨0, by omega, rfl, ⟨fun j h => absurd h (Nat.not_lt_zero _)⟩, ⟨Below.refl _ _⟩⟩
    case round =>
      obtain ⟨k, hk, rfl, HE, HB⟩ := hrel
      by_cases hlt : k < l0.length
      · have hlt1 : k < l1.length := by have := HL.out; omega
        have hi0 : (0 : Int) ≤ (k : Int) := by omega
        have hi1 : (k : Int) < (l0.length : Int) := by omega
        have hi2 : (k : Int) < (l1.length : Int) := by omega
        obtain ⟨ad, rfl, hx⟩ := HC.out k hlt
        obtain ⟨ad1, rfl, hy⟩ := HC1.out k hlt1
        have hx := pw_cell_below HB.out hx
        have hy := pw_cell_below HB.out hy
        by_cases he : l0.getD k 0 = l1.getD k 0
        · have HE2 := Aside0.mk (show ∀ j, j < k + 1 → l0.getD j 0 = l1.getD j 0 from fun j hj => by rcases Nat.lt_succ_iff_lt_or_eq.1 hj with h | rfl; exact HE.out j h; exact he)
          rw [he] at hx
          clear he
          generalize l1.getD k 0 = x at *
          go_wp2
          go_quiet (fail)
          go_wp2
          go_roundw
          case rel => exact ⟨k + 1, by omega, by go_num, HE2, ⟨pw_below_drewN HB.out _⟩⟩
          case measure => simp [intOf]; omega
        · have HF := Aside0.mk (sameL_no he)
          have hne : (l0.getD k 0 != l1.getD k 0) = true := by simpa using he
          have hne2 : (l0.getD k 0 == l1.getD k 0) = false := by simpa using he
          clear he
          generalize l0.getD k 0 = x at *
          generalize l1.getD k 0 = y at *
          go_wp2
          go_quiet (fail)
          go_wp2
          go_ret
          exact ⟨by rw [HF.out]; rfl, pw_below_drewN HB.out _⟩
      · obtain rfl : k = l0.length := by omega
        have HF := Aside0.mk (sameL_yes HL.out HE.out)
        go_wp2
        go_ret
        exact ⟨by rw [HF.out]; rfl, HB.out⟩
  · have HF := Aside0.mk (sameL_ne hl)
    have hq : ((l0.length : Int) != (l1.length : Int)) = true := by simp; omega
    clear hr0 hr1 hl
    go_enter Try.func79, Try.ntmps79
    go_wp2
    go_ret
    exact ⟨by rw [HF.out]; rfl, Below.refl _ _⟩


theorem VSame_calls (A0 : Option Addr) (c0 : Nat) (l0 : List Int) (A1 : Option Addr) (c1 : Nat) (l1 : List Int) (w : World) (hr0 : Kd.C (Kd.int .i32) w A0 l0.length l0) (hr1 : Kd.C (Kd.int .i32) w A1 l1.length l1) :
    Calls Try.prog 42 #[.slice A0 l0.length c0, .slice A1 l1.length c1] w fun e w' => e = .returned (.bool (sameL l0 l1)) ∧ Below w.heap.size w w' := by
  have hcall := Equal_calls A0 c0 l0 A1 c1 l1 w hr0 hr1
  clear hr0 hr1
  go_enter Try.func42, Try.ntmps42
  go_wp2_with fail
  refine hcall.mono ?_
  rintro e w1 ⟨rfl, hb⟩
  have HB := Aside0.mk hb
  clear hb
  go_wp2_with fail
  go_ret
  exact ⟨rfl, HB.out⟩

/-! ### Own -/
theorem Own_calls (A0 : Option Addr) (c0 : Nat) (l0 : List Int) (w : World) (hr0 : Kd.C (Kd.int .i32) w A0 l0.length l0) (hlim : l0.length ≤ 17592186044416) :
    Calls Try.prog 25 #[.slice A0 l0.length c0] w fun e w' => ∃ v : Value, e = .returned v ∧
      Kd.R (Kd.int .i32) 21 w' w.heap.size (fun _ => True) v l0 ∧ Below w.heap.size w w' := by
  have hlit := own_lit w w.heap.size 21 .i32 [] (Nat.le_refl _) (by simp)
  have hb0 := (Below.refl w.heap.size w).alloc (Nat.le_refl _) (.cells (nums .i32 []).toArray 21)
  have HR := Aside0.mk (C_reads (Kd.C_below hr0 hb0))
  have HO := Aside0.mk hlit
  have HB := Aside0.mk hb0
  clear hr0 hlit hb0
  go_enter Try.func25, Try.ntmps25
  go_wp2_with (at_builtin; refine print_append_row w.heap.size rfl (.tmp 3) (.tmp 4) 33 21 .i32 4 rfl Try.underlying33 info_i32 (by decide) _ [] l0 _ _ _ rfl rfl HO.out HR.out HB.out HB.out.size (by simp; omega) ?_; intro v1 w1 ho hb hg hat; have HO2 := Aside0.mk ho; have HB2 := Aside0.mk hb; clear ho hb hg hat)
  go_ret
  exact ⟨_, rfl, R_nums HO2.out rfl, HB2.out⟩

/-! ### Wide -/
theorem RWide_calls (A0 : Option Addr) (c0 : Nat) (l0 : List Int) (w : World) (hr0 : Kd.C (Kd.int .i16) w A0 l0.length l0) (hlim : l0.length ≤ 17592186044416) :
    Calls Try.prog 39 #[.slice A0 l0.length c0] w fun e w' => ∃ v : Value, e = .returned v ∧
      Kd.R (Kd.int .i32) 21 w' w.heap.size (fun _ => True) v (wide l0) ∧ Below w.heap.size w w' := by
  have hmax := C_max hr0
  have HC := Aside0.mk (C_ints hr0)
  clear hr0
  go_enter Try.func39, Try.ntmps39
  go_wp2
  go_loopw [3, 4] (fun v i wr => ∃ k : Nat, k ≤ l0.length ∧ i = .int .i64 k ∧ Aside0 (Below w.heap.size w wr) ∧
    Aside0 (wr.ownsRow w.heap.size 21 1 v k (nums .i32 ((l0.take k).map wrap32)))) (fun _ i _ => l0.length - (intOf i).toNat)
  case atStart => exact ⟨0, by omega, rfl, ⟨Below.refl _ _⟩, ⟨World.ownsRow_nil _ _ _ _⟩⟩
  case round =>
    obtain ⟨k, hk, rfl, HBe, HO⟩ := hrel
    by_cases hlt : k < l0.length
    · obtain ⟨ad, rfl, hx⟩ := HC.out k hlt
      have hx := pw_cell_below HBe.out hx
      have HT := Aside0.mk (map_take_succ wrap32 l0 k hlt)
      generalize l0.getD k 0 = x at *
      go_wp2_with (at_builtin; refine print_append_num w.heap.size rfl (.tmp 11) (.tmp 17) 33 21 .i32 4 rfl Try.underlying33 info_i32 (by decide) _ ((l0.take k).map wrap32) (wrap32 x) rfl rfl (by rw [len_map_take wrap32 l0 hk]; exact HO.out) HBe.out HBe.out.size (by rw [len_map_take wrap32 l0 hk]; omega) ?_; intro v1 w1 ho hb hg hat; have HO2 := Aside0.mk ho; have HB2 := Aside0.mk hb; clear ho hb hg hat)
      go_roundw
      case rel => exact ⟨k + 1, by omega, by go_num, HB2, ⟨by have := HO2.out; rw [List.length_append, len_map_take wrap32 l0 hk] at this; rw [HT.out]; exact this⟩⟩
      case measure => simp [intOf]; omega
    · obtain rfl : k = l0.length := by omega
      go_wp2
      go_ret
      refine ⟨_, rfl, ?_, HBe.out⟩
      have := HO.out
      rw [List.take_length] at this
      exact R_nums this (by simp [wide])

/-! ### Bytes -/
/-- append(v, ys..) of a literal, as an equation. -/
theorem appN_run (t e : TypeId) (k : IntKind) (bytes : Nat) (ht : Try.prog.underlying t = some (.slice e)) (hinfo : (Try.prog.info? e).map (fun i => (i.zero, i.size, i.bytes)) = some (some (.int k 0), 1, bytes))
    (base : Nat) (W : World) (v : Value) (xs ys : List Int) (hown : W.ownsRow base e 1 v xs.length (nums k xs)) (hl : (xs.length + ys.length) * bytes ≤ 140737488355328) (h63 : xs.length + ys.length ≤ 9223372036854775807) (hbase : base ≤ W.heap.size) :
    ∃ v1 w1, (Builtin.append_ #[t, t] t #[v, .slice (some ⟨W.heap.size, 0, none⟩) ys.length ys.length]).run Try.prog (W.alloc (.cells (nums k ys).toArray e)) = .ok v1 w1 ∧ w1.ownsRow base e 1 v1 (xs.length + ys.length) (nums k (xs ++ ys)) ∧ (W.alloc (.cells (nums k ys).toArray e)).grownBy w1 v.ownBlock := by
  obtain ⟨i0, hi, hzz⟩ := Option.map_eq_some_iff.1 hinfo
  simp only [Prod.mk.injEq] at hzz
  obtain ⟨hz0, hz1, hz2⟩ := hzz
  obtain ⟨v1, w1, hr, ho, hg, _, _⟩ := run_append_own_at (P := Try.prog) (W.alloc (.cells (nums k ys).toArray e)) base t t e i0 (.int k 0) 1 bytes ht hi hz0 hz1 hz2 rfl (by decide) v xs.length (nums k xs) (hown.alloc _) ⟨W.heap.size, 0, none⟩ ys.length ys.length (nums k ys) (by simp [nums])
    (by simpa using World.news_of_block (cs := (nums k ys).toArray) (t := e) (fr := (0, 0)) (heap_alloc_new W (.cells (nums k ys).toArray e))) (by simp [nums, Value.oneCell']) (by simpa [maxLen] using h63) hl (by simp; omega)
  exact ⟨v1, w1, hr, by rw [nums_append]; exact ho, hg⟩
def twoR (x : Int) : List Int := [IntKind.u8.wrap (IntKind.u16.wrap x), IntKind.u8.wrap (IntKind.u16.wrap x / 2 ^ 8)]
theorem twoR_two (x : Int) : twoR x = two x := by
  have e8 : ∀ y, IntKind.u8.wrap y = y % 256 := fun y => by simp [IntKind.wrap, IntKind.signed, IntKind.bits]
  have e16 : ∀ y, IntKind.u16.wrap y = y % 65536 := fun y => by simp [IntKind.wrap, IntKind.signed, IntKind.bits]
  unfold twoR two
  simp only [e8, e16]
  congr 1
  · omega
  · congr 1
    omega
set_option maxRecDepth 100000 in
theorem RBytes_calls (A0 : Option Addr) (c0 : Nat) (l0 : List Int) (w : World) (hr0 : Kd.C (Kd.int .i16) w A0 l0.length l0) (hlim : l0.length ≤ 17592186044416) :
    Calls Try.prog 41 #[.slice A0 l0.length c0] w fun e w' => ∃ v : Value, e = .returned v ∧
      Kd.R (Kd.int .u8) 5 w' w.heap.size (fun _ => True) v (bytesOfVec l0) ∧ Below w.heap.size w w' := by
  have hmax := C_max hr0
  have HC := Aside0.mk (C_ints hr0)
  clear hr0
  go_enter Try.func41, Try.ntmps41
  go_wp2
  go_loopw [3, 4] (fun v i wr => ∃ k : Nat, k ≤ l0.length ∧ i = .int .i64 k ∧ Aside0 (Below w.heap.size w wr) ∧
    Aside0 (wr.ownsRow w.heap.size 5 1 v (2 * k) (nums .u8 (bytesOfVec (l0.take k))))) (fun _ i _ => l0.length - (intOf i).toNat)
  case atStart => exact ⟨0, by omega, rfl, ⟨Below.refl _ _⟩, ⟨World.ownsRow_nil _ _ _ _⟩⟩
  case round =>
    obtain ⟨k, hk, rfl, HBe, HO⟩ := hrel
    by_cases hlt : k < l0.length
    · obtain ⟨ad, rfl, hx⟩ := HC.out k hlt
      have hx := pw_cell_below HBe.out hx
      have HT := Aside0.mk (bov_succ l0 k hlt)
      have HL := Aside0.mk (show (bytesOfVec (l0.take k)).length = 2 * k by rw [bov_len, List.length_take_of_le hk])
      have hki : (k : Int) < (l0.length : Int) := by omega
      generalize l0.getD k 0 = x at *
      obtain ⟨v1, w2, hap, hown1, hgrow⟩ := appN_run 46 5 .u8 1 Try.underlying46 info_u8 w.heap.size wr.drew _ (bytesOfVec (l0.take k)) (twoR x) (by rw [HL.out]; exact HO.out) (by rw [HL.out]; simp [twoR]; omega) (by rw [HL.out]; simp [twoR]; omega) HBe.out.size
      have HB2 := Aside0.mk (app_below HBe.out.drew HBe.out.size (HO.out : wr.drew.ownsRow _ _ _ _ _ _) hgrow)
      have HO2 := Aside0.mk (show w2.ownsRow w.heap.size 5 1 v1 (2 * (k + 1)) (nums .u8 (bytesOfVec (l0.take (k + 1)))) by rw [HT.out, ← twoR_two]; rw [HL.out] at hown1; exact hown1)
      have HAP := Aside0.mk hap
      clear hap hown1 hgrow
      go_wp2
      go_region_law (refine step_append_eq HAP.out rfl rfl rfl rfl rfl ?_)
      all_goals
        go_wp2
        go_roundw
        case rel => exact ⟨k + 1, by omega, by go_num, HB2, HO2⟩
        case measure => simp [intOf]; omega
    · obtain rfl : k = l0.length := by omega
      go_wp2
      go_ret
      refine ⟨_, rfl, ?_, HBe.out⟩
      have := HO.out
      rw [List.take_length] at this
      exact R_nums this (bov_len l0)

end Go.Proofs.Ytkogapmggicanaa.G
