/- Contracts: vec.Wide, octet.Put, vec.Bytes. -/
import Derived.Test.YtkogapmggicanaaVecD
namespace Go.Proofs.Ytkogapmggicanaa.G
open Go.RowKit Go.Shelf Go.Proofs.YtkogapmggicanaaW.PrintWords
set_option linter.unusedVariables false
set_option linter.unusedSimpArgs false

def wide (l : List Int) : List Int := l.map wrap32
theorem Wide1_calls (x : Int) (W : World) : Calls Try.prog 78 #[.int .i16 x] W fun e W' => e = .returned (.int .i32 (wrap32 x)) ∧ W = W' := by
  go_enter Try.func78, Try.ntmps78
  go_wp2
  go_ret
  exact ⟨rfl, rfl⟩
theorem len_map_take {α β : Type} (f : α → β) (l : List α) {k : Nat} (hk : k ≤ l.length) : ((l.take k).map f).length = k := by simp [Nat.min_eq_left hk]
theorem map_take_succ {β : Type} (f : Int → β) (l : List Int) (k : Nat) (hk : k < l.length) : (l.take (k + 1)).map f = (l.take k).map f ++ [f (l.getD k 0)] := by
  rw [List.take_succ_eq_append_getElem hk, List.map_append, List.getD_eq_getElem?_getD, List.getElem?_eq_getElem hk]
  rfl
theorem each_calls (A0 : Option Addr) (c0 : Nat) (l0 : List Int) (g : Nat) (f : Int → Int) (w : World) (hr0 : Kd.C (Kd.int .i16) w A0 l0.length l0) (hlim : l0.length ≤ 17592186044416)
    (eg : Enters Try.prog g) (hg : ∀ x W, Calls Try.prog g #[.int .i16 x] W fun e W' => e = .returned (.int .i32 (f x)) ∧ W = W') :
    Calls Try.prog 77 #[.slice A0 l0.length c0, .func (.func g) #[] #[]] w fun e w' => ∃ v : Value, e = .returned v ∧
      Kd.R (Kd.int .i32) 21 w' w.heap.size (fun _ => True) v (l0.map f) ∧ Below w.heap.size w w' := by
  have hmax := C_max hr0
  have HC := Aside0.mk (C_ints hr0)
  have HG := Aside0.mk hg
  unfold Enters at eg
  clear hr0 hg
  have hmk := make_cap 33 21 .i32 4 Try.underlying33 info_i32 (by decide) (l0.length : Int) l0.length rfl (by omega)
  go_enter Try.func77, Try.ntmps77
  go_wp2
  clear hmk
  go_loopw [5, 7, 13] (fun v _ i wr => ∃ k : Nat, k ≤ l0.length ∧ i = .int .i64 k ∧ Aside0 (Below w.heap.size w wr) ∧
    Aside0 (wr.ownsRow w.heap.size 21 1 v k (nums .i32 ((l0.take k).map f)))) (fun _ _ i _ => l0.length - (intOf i).toNat)
  case atStart => exact ⟨0, by omega, rfl, ⟨(Below.refl _ w).alloc (Nat.le_refl _) _⟩, ⟨own_made0 w w.heap.size 21 .i32 l0.length (Nat.le_refl _) hmax⟩⟩
  case round =>
    obtain ⟨k, hk, rfl, HBe, HO⟩ := hrel
    by_cases hlt : k < l0.length
    · obtain ⟨ad, rfl, hx⟩ := HC.out k hlt
      have hx := pw_cell_below HBe.out hx
      have HT := Aside0.mk (map_take_succ f l0 k hlt)
      generalize l0.getD k 0 = x at *
      rename_i v _
      go_wp2_with (first | (go_at_fn g; refine (HG.out _ _).mono ?_; rintro e w' ⟨rfl, rfl⟩) | (at_builtin; refine print_append_num w.heap.size rfl (.tmp 17) (.tmp 21) 33 21 .i32 4 rfl Try.underlying33 info_i32 (by decide) _ ((l0.take k).map f) (f x) rfl rfl (by rw [len_map_take f l0 hk]; exact HO.out) HBe.out HBe.out.size (by rw [len_map_take f l0 hk]; omega) ?_; intro v1 w1 ho hb hg hat; have HO2 := Aside0.mk ho; have HB2 := Aside0.mk hb; clear ho hb hg hat))
      go_roundw
      case rel => exact ⟨k + 1, by omega, by go_num, HB2, ⟨by have := HO2.out; rw [List.length_append, len_map_take f l0 hk] at this; rw [HT.out]; exact this⟩⟩
      case measure => simp [intOf]; omega
    · obtain rfl : k = l0.length := by omega
      go_wp2
      go_ret
      refine ⟨_, rfl, ?_, HBe.out⟩
      have := HO.out
      rw [List.take_length] at this
      exact R_nums this (by simp)

/-- How many bytes Put puts. -/
def cnt (n : Int) : Nat := (min (max n 0) 8).toNat
/-- A number's k low bytes. -/
def lowBytes (x : Int) (k : Nat) : List Int := (List.range k).map fun i => x / 2 ^ (8 * i) % 256
def putB (b : List Int) (x n : Int) : List Int := b ++ lowBytes x (cnt n)
theorem len_low (b : List Int) (x : Int) (k : Nat) : (b ++ lowBytes x k).length = b.length + k := by simp [lowBytes]
theorem low_succ (b : List Int) (x : Int) (k : Nat) : b ++ lowBytes x (k + 1) = (b ++ lowBytes x k) ++ [x / 2 ^ (8 * k) % 256] := by simp [lowBytes, List.range_succ]
set_option maxRecDepth 100000 in
theorem Put_calls (A0 : Option Addr) (c0 : Nat) (l0 : List Int) (x n : Int) (w : World) (hr0 : Kd.C (Kd.int .u8) w A0 l0.length l0) (hlim : l0.length ≤ 17592186044416) :
    Calls Try.prog 71 #[.slice A0 l0.length c0, .int .u64 x, .int .i64 n] w fun e w' => ∃ v : Value, e = .returned v ∧
      Kd.R (Kd.int .u8) 5 w' w.heap.size (fun _ => True) v (putB l0 x n) ∧ Below w.heap.size w w' := by
  have hmax := C_max hr0
  have HR := Aside0.mk hr0
  clear hr0
  have hmk := make_cap 46 5 .u8 1 Try.underlying46 info_u8 (by decide) ((l0.length : Int) + 8) (l0.length + 8) (by omega) (by omega)
  obtain ⟨mx, m, HM, hm8, hmx, hmn⟩ : ∃ mx : Int, ∃ m : Nat, Aside0 (cnt n = m) ∧ m ≤ 8 ∧ (∀ ats ty W, (Builtin.max_ ats ty #[.int .i64 n, .int .i64 0]).run Try.prog W = .ok (.int .i64 mx) W) ∧
      (∀ ats ty W, (Builtin.min_ ats ty #[.int .i64 mx, .int .i64 8]).run Try.prog W = .ok (.int .i64 (m : Int)) W) :=
    ⟨max n 0, cnt n, ⟨rfl⟩, by unfold cnt; omega, run_max .i64 n 0, fun ats ty W => by rw [run_min]; congr 2; unfold cnt; omega⟩
  go_enter Try.func71, Try.ntmps71
  go_wp2_with (at_builtin; refine print_append_row w.heap.size rfl (.tmp 12) (.tmp 13) 46 5 .u8 1 rfl Try.underlying46 info_u8 (by decide) _ [] l0 A0 l0.length c0 rfl rfl (own_made0 w w.heap.size 5 .u8 (l0.length + 8) (Nat.le_refl _) (by omega)) (C_reads (Kd.C_below HR.out ((Below.refl _ w).alloc (Nat.le_refl _) _))) ((Below.refl _ w).alloc (Nat.le_refl _) _) (by simp) (by simp; omega) ?_; intro v1 w1 ho hb hg hat; have HO1 := Aside0.mk ho; have HB1 := Aside0.mk hb; clear ho hb hg hat)
  clear hmx hmn hmk
  go_loopw [7, 8, 18] (fun v _ i wr => ∃ k : Nat, k ≤ m ∧ i = .int .i64 k ∧ Aside0 (Below w.heap.size w wr) ∧
      Aside0 (wr.ownsRow w.heap.size 5 1 v (l0.length + k) (nums .u8 (l0 ++ lowBytes x k)))) (fun _ _ i _ => m - (intOf i).toNat)
  case atStart => exact ⟨0, by omega, rfl, HB1, ⟨by simpa [lowBytes] using HO1.out⟩⟩
  case round =>
      clear HO1 HB1
      obtain ⟨k, hk, rfl, HBe, HO⟩ := hrel
      by_cases hlt : k < m
      · rename_i v _
        have hk8 : k < 8 := by omega
        go_wp2_with (at_builtin; refine print_append_num w.heap.size rfl (.tmp 21) (.tmp 27) 46 5 .u8 1 rfl Try.underlying46 info_u8 (by decide) _ (l0 ++ lowBytes x k) (x / 2 ^ (8 * k) % 256) rfl rfl (by rw [len_low]; exact HO.out) HBe.out HBe.out.size (by rw [len_low]; omega) ?_; intro v1 w1 ho hb hg hat; have HO2 := Aside0.mk ho; have HB2 := Aside0.mk hb; clear ho hb hg hat)
        go_roundw
        case rel => exact ⟨k + 1, by omega, by go_num, HB2, ⟨by have := HO2.out; rw [List.length_append, len_low] at this; rw [low_succ]; exact this⟩⟩
        case measure => simp [intOf]; omega
      · obtain rfl : k = m := by omega
        go_wp2
        go_ret
        refine ⟨_, rfl, ?_, HBe.out⟩
        rw [show putB l0 x n = l0 ++ lowBytes x k by unfold putB; rw [HM.out]]
        exact R_nums HO.out (by rw [len_low])

theorem Put_nil (x n : Int) (w : World) :
    Calls Try.prog 71 #[.slice none 0 0, .int .u64 x, .int .i64 n] w fun e w' => ∃ v : Value, e = .returned v ∧
      Kd.R (Kd.int .u8) 5 w' w.heap.size (fun _ => True) v (lowBytes x (cnt n)) ∧ Below w.heap.size w w' :=
  Put_calls none 0 [] x n w (C_nil _ _) (by simp)

/-! ### Bytes -/
def two (x : Int) : List Int := [x % 256, x / 256 % 256]
theorem two_low (x : Int) : lowBytes (IntKind.u64.wrap (wrap64 x)) (cnt 2) = two x := by
  have hc : cnt 2 = 2 := by decide
  rw [hc]
  simp only [lowBytes, two, List.range_succ, List.range_zero, List.nil_append, List.map_append, List.map_cons, List.map_nil, List.cons_append]
  have e : IntKind.u64.wrap (wrap64 x) = x % 18446744073709551616 := by
    rw [IntKind.wrap_u64]
    unfold wrap64
    omega
  rw [e]
  simp
  omega
/-- A raw vector's bytes. -/
def bytesOfVec (l : List Int) : List Int := l.flatMap two
theorem bov_len (l : List Int) : (bytesOfVec l).length = 2 * l.length := by
  induction l with
  | nil => rfl
  | cons x l ih => simp only [bytesOfVec, List.flatMap_cons, List.length_append, List.length_cons] at *; rw [ih]; simp [two]; omega
theorem bov_succ (l : List Int) (k : Nat) (hk : k < l.length) : bytesOfVec (l.take (k + 1)) = bytesOfVec (l.take k) ++ two (l.getD k 0) := by
  rw [List.take_succ_eq_append_getElem hk, List.getD_eq_getElem?_getD, List.getElem?_eq_getElem hk]
  simp only [bytesOfVec, List.flatMap_append, List.flatMap_cons, List.flatMap_nil, List.append_nil, Option.getD_some]
set_option maxRecDepth 100000 in
theorem Bytes_calls (A0 : Option Addr) (c0 : Nat) (l0 : List Int) (w : World) (hr0 : Kd.C (Kd.int .i16) w A0 l0.length l0) (hlim : l0.length ≤ 17592186044416) :
    Calls Try.prog 29 #[.slice A0 l0.length c0] w fun e w' => ∃ v : Value, e = .returned v ∧
      Kd.R (Kd.int .u8) 5 w' w.heap.size (fun _ => True) v (bytesOfVec l0) ∧ Below w.heap.size w w' := by
  have hmax := C_max hr0
  have HC := Aside0.mk (C_ints hr0)
  clear hr0
  have hmk := make_cap 46 5 .u8 1 Try.underlying46 info_u8 (by decide) (2 * (l0.length : Int)) (2 * l0.length) (by omega) (by omega)
  go_enter Try.func29, Try.ntmps29
  go_wp2
  clear hmk
  go_loopw [3, 5, 12] (fun v _ i wr => ∃ k : Nat, k ≤ l0.length ∧ i = .int .i64 k ∧ Aside0 (Below w.heap.size w wr) ∧
    Aside0 (wr.ownsRow w.heap.size 5 1 v (2 * k) (nums .u8 (bytesOfVec (l0.take k))))) (fun _ _ i _ => l0.length - (intOf i).toNat)
  case atStart => exact ⟨0, by omega, rfl, ⟨(Below.refl _ w).alloc (Nat.le_refl _) _⟩, ⟨own_made0 w w.heap.size 5 .u8 (2 * l0.length) (Nat.le_refl _) (by omega)⟩⟩
  case round =>
    obtain ⟨k, hk, rfl, HBe, HO⟩ := hrel
    by_cases hlt : k < l0.length
    · obtain ⟨ad, rfl, hx⟩ := HC.out k hlt
      have hx := pw_cell_below HBe.out hx
      have HT := Aside0.mk (bov_succ l0 k hlt)
      have HL := Aside0.mk (show (bytesOfVec (l0.take k)).length = 2 * k by rw [bov_len, List.length_take_of_le hk])
      generalize l0.getD k 0 = x at *
      rename_i v _
      have hcall := Put_nil (IntKind.u64.wrap (wrap64 x)) 2 wr
      rw [two_low] at hcall
      have H2 := Aside0.mk (show (two x).length = 2 from rfl)
      generalize two x = tx at *
      go_wp2_with (first | (go_at_call 71; refine hcall.mono ?_; rintro e w' ⟨v2, rfl, hR, hb⟩; obtain ⟨A2, c2, rfl, hl2, hC2⟩ := Kd.R_reads hR; have HR2 := Aside0.mk hC2; have HO' := Aside0.mk (pw_own_below HO.out hb); have HB' := Aside0.mk (bcomp HBe.out hb); clear hR hb hl2 hC2) | (at_builtin; refine print_append_row w.heap.size rfl (.tmp 16) (.tmp 20) 46 5 .u8 1 rfl Try.underlying46 info_u8 (by decide) _ (bytesOfVec (l0.take k)) tx _ _ _ rfl rfl (by rw [HL.out]; exact HO'.out) (C_reads HR2.out) HB'.out HB'.out.size (by rw [HL.out, H2.out]; omega) ?_; intro v1 w1 ho hb hg hat; have HO2 := Aside0.mk ho; have HB2 := Aside0.mk hb; clear ho hb hg hat))
      go_roundw
      case rel => exact ⟨k + 1, by omega, by go_num, HB2, ⟨by have := HO2.out; rw [List.length_append, HL.out, H2.out] at this; rw [HT.out]; exact this⟩⟩
      case measure => simp [intOf]; omega
    · obtain rfl : k = l0.length := by omega
      go_wp2
      go_ret
      refine ⟨_, rfl, ?_, HBe.out⟩
      have := HO.out
      rw [List.take_length] at this
      exact R_nums this (bov_len l0)

theorem Wide_calls (A0 : Option Addr) (c0 : Nat) (l0 : List Int) (w : World) (hr0 : Kd.C (Kd.int .i16) w A0 l0.length l0) (hlim : l0.length ≤ 17592186044416) :
    Calls Try.prog 38 #[.slice A0 l0.length c0] w fun e w' => ∃ v : Value, e = .returned v ∧
      Kd.R (Kd.int .i32) 21 w' w.heap.size (fun _ => True) v (wide l0) ∧ Below w.heap.size w w' := by
  have hcall := each_calls A0 c0 l0 78 wrap32 w hr0 hlim (enters_of Try.func78 (by kernel_rfl) rfl) Wide1_calls
  clear hr0
  go_enter Try.func38, Try.ntmps38
  go_wp2_with (go_at_call 77; refine hcall.mono ?_; rintro e w1 ⟨v, rfl, hR, hb'⟩; have HR := Aside0.mk hR; have HB' := Aside0.mk hb'; clear hb' hR)
  go_ret
  exact ⟨_, rfl, HR.out, HB'.out⟩

end Go.Proofs.Ytkogapmggicanaa.G
