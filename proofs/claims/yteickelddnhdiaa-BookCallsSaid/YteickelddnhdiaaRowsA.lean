/- Contracts of the library's functions on rows of rows of int32: IndexFunc, ContainsFunc, Grow of nil, Concat; Clone of any row. -/
import Derived.Test.YteickelddnhdiaaBase
import Derived.Test.YteickelddnhdiaaWZeros
namespace Go.Proofs.Yteickelddnhdiaa.G
open Go.RowKit Go.Shelf Go.Proofs.YteickelddnhdiaaW.PrintWords
set_option linter.unusedVariables false
set_option linter.unusedSimpArgs false

/-- The first index of which p holds. -/
def firstR (p : Nat → Bool) (n : Nat) : Int := match (List.range n).find? p with | some i => (i : Int) | none => -1
theorem firstR_hit {p : Nat → Bool} {n k : Nat} (hk : k < n) (hp : p k = true) (hn : ∀ j, j < k → p j = false) : firstR p n = (k : Int) := by
  have : (List.range n).find? p = some k := by
    rw [List.find?_range_eq_some]
    exact ⟨hp, by simpa using hk, fun j hj => by simp [hn j hj]⟩
  simp [firstR, this]
theorem firstR_miss {p : Nat → Bool} {n : Nat} (hn : ∀ j, j < n → p j = false) : firstR p n = -1 := by
  have : (List.range n).find? p = none := by
    rw [List.find?_range_eq_none]
    exact fun j hj => by simp [hn j hj]
  simp [firstR, this]
theorem firstR_ge (p : Nat → Bool) (n : Nat) : decide (0 ≤ firstR p n) = (List.range n).any p := by
  unfold firstR
  cases h : (List.range n).find? p with
  | none => rw [List.find?_eq_none] at h; simp; simpa using h
  | some i => have h2 := List.find?_some h; have := List.mem_of_find?_eq_some h; simp; exact ⟨i, by simpa using this, h2⟩
/-- The elements of a row, and what a function value tells of each. -/
def ElemPred (A0 : Option Addr) (n : Nat) (g : Nat) (lb : Array Value) (p : Nat → Bool) (w : World) : Prop :=
  ∀ j, j < n → ∃ ad v, A0 = some ad ∧ w.cell? (ad.add j) = some v ∧ ∀ W, Below w.heap.size w W → Calls Try.prog g (#[v] ++ lb) W fun e W' => e = .returned (.bool (p j)) ∧ Below w.heap.size w W'

set_option maxRecDepth 100000 in
theorem IndexFunc_rows (A0 : Option Addr) (n c0 : Nat) (g : Nat) (lb : Array Value) (p : Nat → Bool) (w : World) (eg : Enters Try.prog g)
    (hn : n ≤ 9223372036854775807) (hp : ElemPred A0 n g lb p w) :
    Calls Try.prog 108 #[.slice A0 n c0, .func (.func g) #[] lb] w fun e w' => e = .returned (.int .i64 (firstR p n)) ∧ Below w.heap.size w w' := by
  have HP := Aside0.mk hp
  clear hp
  unfold Enters at eg
  go_enter Try.func108, Try.ntmps108
  go_wp2
  go_loopw [5, 8] (fun _ v wr => ∃ k : Nat, k ≤ n ∧ v = .int .i64 k ∧ Aside0 (∀ i, i < k → p i = false) ∧ Aside0 (Below w.heap.size w wr)) (fun _ v _ => n - (intOf v).toNat)
  case atStart => exact ⟨0, Nat.zero_le _, rfl, ⟨fun _ h => absurd h (Nat.not_lt_zero _)⟩, ⟨Below.refl _ _⟩⟩
  case round =>
    obtain ⟨k, hk, rfl, hno, HB⟩ := hrel
    by_cases hlt : k < n
    · obtain ⟨ad, v, rfl, hx, hcall⟩ := HP.out k hlt
      have hcall := hcall wr HB.out
      have hx := pw_cell_below HB.out hx
      cases hq : p k
      · rw [hq] at hcall
        go_wp2_with (go_at_fn g; refine hcall.mono ?_; rintro e w' ⟨rfl, hb'⟩; have HB' := Aside0.mk hb'; clear hb')
        go_roundw
        case rel => exact ⟨k + 1, by omega, by go_num, ⟨fun i hi => by rcases Nat.lt_succ_iff_lt_or_eq.1 hi with h | rfl; exact hno.out i h; exact hq⟩, HB'⟩
        case measure => simp [intOf]; omega
      · rw [hq] at hcall
        go_wp2_with (go_at_fn g; refine hcall.mono ?_; rintro e w' ⟨rfl, hb'⟩; have HB' := Aside0.mk hb'; clear hb')
        go_ret
        exact ⟨by rw [firstR_hit hlt hq hno.out]; rfl, HB'.out⟩
    · obtain rfl : k = n := by omega
      go_wp2
      go_ret
      exact ⟨by rw [firstR_miss hno.out]; rfl, HB.out⟩
theorem ContainsFunc_rows (A0 : Option Addr) (n c0 : Nat) (g : Nat) (lb : Array Value) (p : Nat → Bool) (w : World) (eg : Enters Try.prog g)
    (hn : n ≤ 9223372036854775807) (hp : ElemPred A0 n g lb p w) :
    Calls Try.prog 65 #[.slice A0 n c0, .func (.func g) #[] lb] w fun e w' => e = .returned (.bool ((List.range n).any p)) ∧ Below w.heap.size w w' := by
  have HC := Aside0.mk (IndexFunc_rows A0 n c0 g lb p w eg hn hp)
  have HE := Aside0.mk (firstR_ge p n)
  clear hp
  generalize firstR p n = q at *
  go_enter Try.func65, Try.ntmps65
  go_wp2_with (go_at_call 108; ((with_reducible refine HC.out.mono ?_); rintro e w' ⟨rfl, hb'⟩; have HB' := Aside0.mk hb'; clear hb'))
  go_ret
  exact ⟨by rw [← HE.out]; rfl, HB'.out⟩

/-- A row's rows, one by one. -/
theorem rows_get {w : World} {A : Option Addr} {n : Nat} {xs : List (List Int)} (h : Kd.C (Kd.slice 21 (Kd.int .i32)) w A n xs) (j : Nat) (hj : j < n) :
    ∃ ad A' c, A = some ad ∧ w.cell? (ad.add j) = some (.slice A' (xs.getD j []).length c) ∧ (xs.getD j []).length ≤ c ∧ Kd.C (Kd.int .i32) w A' (xs.getD j []).length (xs.getD j []) := by
  obtain ⟨ad, v, e, hc, hk⟩ := C_get1 h rfl j hj []
  obtain ⟨A', c, hv, hl, hC⟩ := hk.out
  cases hv
  exact ⟨ad, A', c, e, hc, hl, hC⟩

theorem flat_take {l : List (List Int)} {k : Nat} (h : k < l.length) : (l.take (k + 1)).flatten.length = (l.take k).flatten.length + (l.getD k []).length := by
  rw [List.take_succ_eq_append_getElem h, List.flatten_append, List.length_append]
  simp [h]
theorem flat_le (l : List (List Int)) (k : Nat) : (l.take k).flatten.length ≤ l.flatten.length := by
  have h : l.flatten = (l.take k).flatten ++ (l.drop k).flatten := by rw [← List.flatten_append, List.take_append_drop]
  rw [h, List.length_append]
  omega
theorem zeros_int (n : Nat) : ∀ z : Int, nums .i32 (List.replicate n z) = List.replicate n (.int .i32 z) := fun z => by simp [nums]
set_option maxRecDepth 100000 in
/-- slices.Grow(nil, n). -/
theorem Grow_nil (n : Nat) (hn : n ≤ 1000000) (w : World) :
    Calls Try.prog 114 #[.slice none 0 0, .int .i64 n] w fun e w' => ∃ v, e = .returned v ∧ w'.ownsRow w.heap.size 21 1 v 0 (nums .i32 []) ∧ Below w.heap.size w w' := by
  by_cases h0 : n = 0
  · subst h0
    have hz : ((0 : Nat) : Int) = 0 := rfl
    go_enter Try.func114, Try.ntmps114
    go_wp2
    go_ret
    exact ⟨_, rfl, World.ownsRow_nil _ _ _ _, Below.refl _ _⟩
  · have hd1 : decide ((n : Int) > 0) = true := by simp; omega
    go_enter Try.func114, Try.ntmps114
    go_wp2_with (at_builtin; refine Kd.R_append_zeros (Kd.int .i32) (w0 := w) w.heap.size rfl (.tmp 20) (.tmp 21) 39 3 21 (.int .i32 0) 4 rfl Try.underlying39 Try.underlying3 info_i32 rfl (by decide) (by decide) (.slice none 0 0) [] 0 (n : Int) (fun _ => True) rfl rfl rfl (fun _ _ => trivial) (Kd.R_nil _ _ _ _ _) (by omega) (Below.refl _ _) (Nat.le_refl _) (by simp; omega) ?_; intro v1 w1 hr1 hb1 hg1 hat1; obtain ⟨A1, c1, rfl, hl1, _⟩ := Kd.R_reads hr1; have HR := Aside0.mk (Kd.R_take (m := 0) hr1 (Nat.zero_le _)); have HB := Aside0.mk hb1; have hc1 : (0 : Int) ≤ (c1 : Int) := (by omega); clear hr1 hb1 hg1 hat1 hl1)
    go_ret
    refine ⟨_, rfl, ?_, HB.out⟩
    obtain ⟨_, inner, ho, _⟩ := HR.out
    have hin : inner = [] := List.eq_nil_of_length_eq_zero (by rw [ho.1]; simp)
    rw [hin] at ho
    exact ho
/-- slices.Concat(l...). -/
theorem Concat_rows (A0 : Option Addr) (c0 : Nat) (l : List (List Int)) (hm : l.flatten.length ≤ 1000000) (w : World) (hr : Kd.C (Kd.slice 21 (Kd.int .i32)) w A0 l.length l) :
    Calls Try.prog 78 #[.slice A0 l.length c0] w fun e w' => ∃ v, e = .returned v ∧ (Kd.int .i32).R 21 w' w.heap.size (fun _ => True) v l.flatten ∧ Below w.heap.size w w' := by
  have hlm := C_max hr
  have HRow := Aside0.mk (fun W (hB : Below w.heap.size w W) => rows_get (Kd.C_below hr hB))
  have HL := Aside0.mk (fun k (hk : k < l.length) => flat_take hk)
  have HLe := Aside0.mk (fun k => flat_le l k)
  have HM := Aside0.mk hm
  clear hr hm
  go_enter Try.func78, Try.ntmps78
  go_wp2
  go_loopw [3, 11] (fun s v wr => ∃ k : Nat, k ≤ l.length ∧ v = .int .i64 k ∧ s = .int .i64 ((l.take k).flatten.length : Nat) ∧ Aside0 (Below w.heap.size w wr)) (fun _ v _ => l.length - (intOf v).toNat)
  case atStart => exact ⟨0, Nat.zero_le _, rfl, by simp, ⟨Below.refl _ _⟩⟩
  case round =>
    obtain ⟨k, hk, rfl, rfl, HB⟩ := hrel
    have hb1 := HLe.out k
    have hb2 := HLe.out (k + 1)
    have hb3 := HM.out
    by_cases hlt : k < l.length
    · obtain ⟨ad, A', c', rfl, hx, hxc, hC⟩ := HRow.out wr HB.out k hlt
      have hs := HL.out k hlt
      have HS := Aside0.mk hs
      generalize (l.getD k []).length = m at *
      generalize (l.take k).flatten.length = s at *
      have hd : decide ((s : Int) + (m : Int) < 0) = false := by simp; omega
      have hlen : s + m ≤ 1000000 := by omega
      clear hs hC HRow
      go_wp2
      go_roundw
      case rel => exact ⟨k + 1, by omega, by go_num, by rw [HS.out]; go_num, HB⟩
      case measure => simp [intOf]; omega
    · obtain rfl : k = l.length := by omega
      have HG := Aside0.mk (fun W => Grow_nil (l.take l.length).flatten.length (by omega) W)
      have HSz := Aside0.mk HB.out.size
      have hd1 : decide ((l.length : Int) < (l.length : Int)) = false := by simp
      clear hb1 hb2 hb3
      generalize (l.take l.length).flatten.length = tot at *
      go_wp2_with (go_at_call 114; ((with_reducible refine (HG.out _).mono ?_); rintro e w1 ⟨v, rfl, ho, hb⟩; have HO := Aside0.mk ho; have HB1 := Aside0.mk (below_then HB.out HSz.out hb); clear ho hb))
      go_loopw [6, 27] (fun u v w2 => ∃ k : Nat, k ≤ l.length ∧ v = .int .i64 k ∧ Aside0 (w2.ownsRow w.heap.size 21 1 u (l.take k).flatten.length (nums .i32 (l.take k).flatten)) ∧ Aside0 (Below w.heap.size w w2)) (fun _ v _ => l.length - (intOf v).toNat)
      case atStart => exact ⟨0, Nat.zero_le _, rfl, ⟨own_weaken HO.out HSz.out⟩, HB1⟩
      case round =>
        obtain ⟨k, hk, rfl, HO2, HB2⟩ := hrel
        by_cases hlt : k < l.length
        · obtain ⟨ad, A', c', rfl, hx, hxc, hC⟩ := HRow.out _ HB2.out k hlt
          have HS := Aside0.mk (show (l.take (k + 1)).flatten = (l.take k).flatten ++ l.getD k [] by
            rw [List.take_succ_eq_append_getElem hlt, List.flatten_append]
            simp [hlt])
          have hle1 := HLe.out (k + 1)
          rw [HS.out, List.length_append] at hle1
          have HC := Aside0.mk (C_reads hC)
          have hd1 : decide ((k : Int) < (l.length : Int)) = true := by simp; omega
          have hb4 := HM.out
          clear hC HRow
          generalize l.getD k [] = row at *
          generalize (l.take k).flatten = acc at *
          have HLim := Aside0.mk (show (acc.length + row.length) * 4 ≤ 140737488355328 by omega)
          clear hle1
          go_wp2_with (at_builtin; refine print_append_row (w0 := w) w.heap.size rfl (.tmp 31) (.tmp 32) 39 21 .i32 4 rfl Try.underlying39 info_i32 (by decide) _ acc row _ _ _ rfl rfl HO2.out HC.out HB2.out HB2.out.size HLim.out ?_; intro v1 w3 ho hb hg hat; have HO3 := Aside0.mk ho; have HB3 := Aside0.mk hb; clear ho hb hg hat)
          go_roundw
          case rel => exact ⟨k + 1, by omega, by go_num, by rw [HS.out]; exact HO3, HB3⟩
          case measure => simp [intOf]; omega
        · obtain rfl : k = l.length := by omega
          have hd1 : decide ((l.length : Int) < (l.length : Int)) = false := by simp
          rw [List.take_length] at HO2
          clear HRow
          go_wp2
          go_ret
          exact ⟨_, rfl, R_nums HO2.out rfl, HB2.out⟩

end Go.Proofs.Yteickelddnhdiaa.G
