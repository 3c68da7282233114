/- Contracts: octet.Put, slices.Concat over rows of rows, book.Bytes. -/
import Derived.Test.YteickelddnhdiaaRowsA
import Derived.Test.YteickelddnhdiaaBookC
namespace Go.Proofs.Yteickelddnhdiaa.G
open Go.RowKit Go.Shelf Go.Proofs.YteickelddnhdiaaW.PrintWords
set_option linter.unusedVariables false
set_option linter.unusedSimpArgs false
/-- How many bytes Put puts. -/
def cnt (n : Int) : Nat := (min (max n 0) 8).toNat
/-- A number's k low bytes. -/
def lowBytes (x : Int) (k : Nat) : List Int := (List.range k).map fun i => x / 2 ^ (8 * i) % 256
def putB (b : List Int) (x n : Int) : List Int := b ++ lowBytes x (cnt n)
theorem len_low (b : List Int) (x : Int) (k : Nat) : (b ++ lowBytes x k).length = b.length + k := by simp [lowBytes]
theorem low_succ (b : List Int) (x : Int) (k : Nat) : b ++ lowBytes x (k + 1) = (b ++ lowBytes x k) ++ [x / 2 ^ (8 * k) % 256] := by simp [lowBytes, List.range_succ]
set_option maxRecDepth 100000 in
theorem Put_calls (A0 : Option Addr) (c0 : Nat) (l0 : List Int) (x n : Int) (w : World) (hr0 : Kd.C (Kd.int .u8) w A0 l0.length l0) (hlim : l0.length ≤ 17592186044416) :
    Calls Try.prog 80 #[.slice A0 l0.length c0, .int .u64 x, .int .i64 n] w fun e w' => ∃ v : Value, e = .returned v ∧
      Kd.R (Kd.int .u8) 5 w' w.heap.size (fun _ => True) v (putB l0 x n) ∧ Below w.heap.size w w' := by
  have hmax := C_max hr0
  have HR := Aside0.mk hr0
  clear hr0
  have hmk := make_cap 55 5 .u8 1 Try.underlying55 info_u8 (by decide) ((l0.length : Int) + 8) (l0.length + 8) (by omega) (by omega)
  obtain ⟨mx, m, HM, hm8, hmx, hmn⟩ : ∃ mx : Int, ∃ m : Nat, Aside0 (cnt n = m) ∧ m ≤ 8 ∧ (∀ ats ty W, (Builtin.max_ ats ty #[.int .i64 n, .int .i64 0]).run Try.prog W = .ok (.int .i64 mx) W) ∧
      (∀ ats ty W, (Builtin.min_ ats ty #[.int .i64 mx, .int .i64 8]).run Try.prog W = .ok (.int .i64 (m : Int)) W) :=
    ⟨max n 0, cnt n, ⟨rfl⟩, by unfold cnt; omega, run_max .i64 n 0, fun ats ty W => by rw [run_min]; congr 2; unfold cnt; omega⟩
  go_enter Try.func80, Try.ntmps80
  go_wp2_with (at_builtin; refine print_append_row w.heap.size rfl (.tmp 12) (.tmp 13) 55 5 .u8 1 rfl Try.underlying55 info_u8 (by decide) _ [] l0 A0 l0.length c0 rfl rfl (own_made0 w w.heap.size 5 .u8 (l0.length + 8) (Nat.le_refl _) (by omega)) (C_reads (Kd.C_below HR.out ((Below.refl _ w).alloc (Nat.le_refl _) _))) ((Below.refl _ w).alloc (Nat.le_refl _) _) (by simp) (by simp; omega) ?_; intro v1 w1 ho hb hg hat; have HO1 := Aside0.mk ho; have HB1 := Aside0.mk hb; clear ho hb hg hat)
  clear hmx hmn hmk
  go_loopw [7, 8, 18] (fun v _ i wr => ∃ k : Nat, k ≤ m ∧ i = .int .i64 k ∧ Aside0 (Below w.heap.size w wr) ∧
      Aside0 (wr.ownsRow w.heap.size 5 1 v (l0.length + k) (nums .u8 (l0 ++ lowBytes x k)))) (fun _ _ i _ => m - (intOf i).toNat)
  case atStart => exact ⟨0, by omega, rfl, HB1, ⟨by simpa [lowBytes] using HO1.out⟩⟩
  case round =>
      clear HO1 HB1
      obtain ⟨k, hk, rfl, HBe, HO⟩ := hrel
      by_cases hlt : k < m
      · rename_i v _
        have hk8 : k < 8 := by omega
        go_wp2_with (at_builtin; refine print_append_num w.heap.size rfl (.tmp 21) (.tmp 27) 55 5 .u8 1 rfl Try.underlying55 info_u8 (by decide) _ (l0 ++ lowBytes x k) (x / 2 ^ (8 * k) % 256) rfl rfl (by rw [len_low]; exact HO.out) HBe.out HBe.out.size (by rw [len_low]; omega) ?_; intro v1 w1 ho hb hg hat; have HO2 := Aside0.mk ho; have HB2 := Aside0.mk hb; clear ho hb hg hat)
        go_roundw
        case rel => exact ⟨k + 1, by omega, by go_num, HB2, ⟨by have := HO2.out; rw [List.length_append, len_low] at this; rw [low_succ]; exact this⟩⟩
        case measure => simp [intOf]; omega
      · obtain rfl : k = m := by omega
        go_wp2
        go_ret
        refine ⟨_, rfl, ?_, HBe.out⟩
        rw [show putB l0 x n = l0 ++ lowBytes x k by unfold putB; rw [HM.out]]
        exact R_nums HO.out (by rw [len_low])

theorem Put_nil (x n : Int) (w : World) :
    Calls Try.prog 80 #[.slice none 0 0, .int .u64 x, .int .i64 n] w fun e w' => ∃ v : Value, e = .returned v ∧
      Kd.R (Kd.int .u8) 5 w' w.heap.size (fun _ => True) v (lowBytes x (cnt n)) ∧ Below w.heap.size w w' :=
  Put_calls none 0 [] x n w (C_nil _ _) (by simp)

abbrev H3 := Option Addr × Nat × Nat
def d3 : H3 := (none, 0, 0)
def encH (h : H3) : Value := .slice h.1 h.2.1 h.2.2
theorem encH1 (h : H3) : (encH h).oneCell' = true := rfl
def Hdr (W : World) (hs : List H3) (r : List (List Int)) : Prop :=
  hs.length = r.length ∧ ∀ j, j < r.length → (hs.getD j d3).2.1 = (r.getD j []).length ∧ (r.getD j []).length ≤ (hs.getD j d3).2.2 ∧ Kd.C (Kd.int .i32) W (hs.getD j d3).1 (r.getD j []).length (r.getD j [])
theorem Hdr.nil (W : World) : Hdr W [] [] := ⟨rfl, fun j h => absurd h (Nat.not_lt_zero _)⟩
theorem Hdr.below {W W' : World} {hs : List H3} {r : List (List Int)} (h : Hdr W hs r) (hb : Below W.heap.size W W') : Hdr W' hs r := ⟨h.1, fun j hj => ⟨(h.2 j hj).1, (h.2 j hj).2.1, Kd.C_below (h.2 j hj).2.2 hb⟩⟩
theorem Hdr.append {W : World} {hs hs' : List H3} {r r' : List (List Int)} (h : Hdr W hs r) (h' : Hdr W hs' r') : Hdr W (hs ++ hs') (r ++ r') := by
  refine ⟨by rw [List.length_append, List.length_append, h.1, h'.1], fun j hj => ?_⟩
  rw [List.length_append] at hj
  simp only [List.getD_eq_getElem?_getD]
  by_cases hlt : j < r.length
  · rw [List.getElem?_append_left (by rw [h.1]; exact hlt), List.getElem?_append_left hlt]
    have := h.2 j hlt
    simp only [List.getD_eq_getElem?_getD] at this
    exact this
  · rw [List.getElem?_append_right (by rw [h.1]; omega), List.getElem?_append_right (by omega), h.1]
    have := h'.2 (j - r.length) (by omega)
    simp only [List.getD_eq_getElem?_getD] at this
    exact this
theorem hdr_of_C {W : World} {A : Option Addr} {n : Nat} {r : List (List Int)} (h : Kd.C (Kd.slice 21 (Kd.int .i32)) W A n r) : ∃ hs, ReadsOf encH d3 W A n hs ∧ Hdr W hs r := by
  have hl : r.length = n := h.1
  have key : ∀ j, ∃ x : H3, j < n → (∃ ad, A = some ad ∧ W.cell? (ad.add j) = some (encH x)) ∧ x.2.1 = (r.getD j []).length ∧ (r.getD j []).length ≤ x.2.2 ∧ Kd.C (Kd.int .i32) W x.1 (r.getD j []).length (r.getD j []) := fun j => by
    by_cases hj : j < n
    · obtain ⟨ad, A', c, e, hx, hc, hC⟩ := rows_get h j hj
      exact ⟨(A', (r.getD j []).length, c), fun _ => ⟨⟨ad, e, hx⟩, rfl, hc, hC⟩⟩
    · exact ⟨d3, fun h => absurd h hj⟩
  have hg : ∀ j, j < n → ((List.range n).map (fun j => Classical.choose (key j))).getD j d3 = Classical.choose (key j) := fun j hj => by simp [hj]
  refine ⟨(List.range n).map (fun j => Classical.choose (key j)), ⟨by simp, h.2.1, fun hn => ?_⟩, by simp [hl], fun j hj => ?_⟩
  · obtain ⟨⟨ad, e, _⟩, _⟩ := Classical.choose_spec (key 0) hn
    refine ⟨ad, e, fun j hj => ?_⟩
    obtain ⟨⟨ad', e', hx⟩, _⟩ := Classical.choose_spec (key j) hj
    rw [e] at e'
    cases e'
    rw [hg j hj]
    exact hx
  · rw [hg j (by omega)]
    exact (Classical.choose_spec (key j) (by omega)).2
theorem reads_below {w W : World} {A : Option Addr} {n : Nat} {hs : List H3} (h : ReadsOf encH d3 w A n hs) (hb : Below w.heap.size w W) : ReadsOf encH d3 W A n hs :=
  ⟨h.1, h.2.1, fun hn => by obtain ⟨ad, e, hc⟩ := h.2.2 hn; exact ⟨ad, e, fun j hj => pw_cell_below hb (hc j hj)⟩⟩
theorem C_of_hdr {W : World} {A : Option Addr} {n : Nat} {hs : List H3} {r : List (List Int)} (h : ReadsOf encH d3 W A n hs) (hh : Hdr W hs r) : Kd.C (Kd.slice 21 (Kd.int .i32)) W A n r := by
  have hl : r.length = n := by rw [← hh.1]; exact h.1
  refine ⟨hl, h.2.1, fun hn => ?_⟩
  obtain ⟨ad, e, hc⟩ := h.2.2 hn
  refine ⟨ad, e, fun j p hj => ?_⟩
  have hjn : j < r.length := (List.getElem?_eq_some_iff.1 hj).1
  have hp : r.getD j [] = p := by rw [List.getD_eq_getElem?_getD, hj]; rfl
  obtain ⟨h1, h2, h3⟩ := hh.2 j hjn
  rw [hp] at h1 h2 h3
  refine ⟨[encH (hs.getD j d3)], rfl, ⟨(hs.getD j d3).1, (hs.getD j d3).2.2, by unfold encH; rw [h1], h2, h3⟩, fun i u hu => ?_⟩
  cases i with
  | zero =>
    simp at hu
    subst hu
    have e : j * (Kd.slice 21 (Kd.int .i32)).sz + 0 = j := by show j * 1 + 0 = j; omega
    rw [e]
    exact hc j (by omega)
  | succ i => simp at hu
theorem info_sl : (Try.prog.info? 39).map (fun i => (i.zero, i.size, i.bytes)) = some (some (.slice none 0 0), 1, 24) := by kernel_rfl
theorem flat_take3 {l : List (List (List Int))} {k : Nat} (h : k < l.length) : (l.take (k + 1)).flatten = (l.take k).flatten ++ l.getD k [] := by
  rw [List.take_succ_eq_append_getElem h, List.flatten_append]
  simp [h]
theorem flat_le3 (l : List (List (List Int))) (k : Nat) : (l.take k).flatten.length ≤ l.flatten.length := by
  have h : l.flatten = (l.take k).flatten ++ (l.drop k).flatten := by rw [← List.flatten_append, List.take_append_drop]
  rw [h, List.length_append]
  omega
theorem rows3_get3 {w : World} {A : Option Addr} {n : Nat} {xs : List (List (List Int))} (h : Kd.C (Kd.slice 39 (Kd.slice 21 (Kd.int .i32))) w A n xs) (j : Nat) (hj : j < n) :
    ∃ ad A' c, A = some ad ∧ w.cell? (ad.add j) = some (.slice A' (xs.getD j []).length c) ∧ (xs.getD j []).length ≤ c ∧ Kd.C (Kd.slice 21 (Kd.int .i32)) w A' (xs.getD j []).length (xs.getD j []) := by
  obtain ⟨ad, v, e, hc, hk⟩ := C_get1 h rfl j hj []
  obtain ⟨A', c, hv, hl, hC⟩ := hk.out
  cases hv
  exact ⟨ad, A', c, e, hc, hl, hC⟩
set_option maxRecDepth 100000 in
/-- slices.Grow(nil, n). -/
theorem Grow_nil3 (n : Nat) (hn : n ≤ 1000000) (w : World) :
    Calls Try.prog 115 #[.slice none 0 0, .int .i64 n] w fun e w' => ∃ v, e = .returned v ∧ w'.ownsRow w.heap.size 39 1 v 0 (encs encH []) ∧ Below w.heap.size w w' := by
  by_cases h0 : n = 0
  · subst h0
    have hz : ((0 : Nat) : Int) = 0 := rfl
    go_enter Try.func115, Try.ntmps115
    go_wp2
    go_ret
    exact ⟨_, rfl, World.ownsRow_nil _ _ _ _, Below.refl _ _⟩
  · have hd1 : decide ((n : Int) > 0) = true := by simp; omega
    go_enter Try.func115, Try.ntmps115
    go_wp2_with (at_builtin; refine Kd.R_append_zeros (Kd.scalar encH encH1) (w0 := w) w.heap.size rfl (.tmp 20) (.tmp 21) 22 3 39 (.slice none 0 0) 24 rfl Try.underlying22 Try.underlying3 info_sl rfl (by decide) (by decide) (.slice none 0 0) [] d3 (n : Int) (fun _ => True) rfl rfl rfl (fun _ _ => trivial) (Kd.R_nil _ _ _ _ _) (by omega) (Below.refl _ _) (Nat.le_refl _) (by simp; omega) ?_; intro v1 w1 hr1 hb1 hg1 hat1; obtain ⟨A1, c1, rfl, hl1, _⟩ := Kd.R_reads hr1; have HR := Aside0.mk (Kd.R_take (m := 0) hr1 (Nat.zero_le _)); have HB := Aside0.mk hb1; have hc1 : (0 : Int) ≤ (c1 : Int) := (by omega); clear hr1 hb1 hg1 hat1 hl1)
    go_ret
    refine ⟨_, rfl, ?_, HB.out⟩
    obtain ⟨_, inner, ho, _⟩ := HR.out
    have hin : inner = [] := List.eq_nil_of_length_eq_zero (by rw [ho.1]; simp)
    rw [hin] at ho
    exact ho
/-- slices.Concat(l...). -/
theorem Concat_rows3 (A0 : Option Addr) (c0 : Nat) (l : List (List (List Int))) (hm : l.flatten.length ≤ 1000000) (w : World) (hr : Kd.C (Kd.slice 39 (Kd.slice 21 (Kd.int .i32))) w A0 l.length l) :
    Calls Try.prog 79 #[.slice A0 l.length c0] w fun e w' => ∃ A c, e = .returned (.slice A l.flatten.length c) ∧ Kd.C (Kd.slice 21 (Kd.int .i32)) w' A l.flatten.length l.flatten ∧ Below w.heap.size w w' := by
  have hlm := C_max hr
  have HRow := Aside0.mk (fun W (hB : Below w.heap.size w W) => rows3_get3 (Kd.C_below hr hB))
  have HL := Aside0.mk (fun k (hk : k < l.length) => show (l.take (k + 1)).flatten.length = (l.take k).flatten.length + (l.getD k []).length from by rw [flat_take3 hk, List.length_append])
  have HLe := Aside0.mk (fun k => flat_le3 l k)
  have HM := Aside0.mk hm
  clear hr hm
  go_enter Try.func79, Try.ntmps79
  go_wp2
  go_loopw [3, 11] (fun s v wr => ∃ k : Nat, k ≤ l.length ∧ v = .int .i64 k ∧ s = .int .i64 ((l.take k).flatten.length : Nat) ∧ Aside0 (Below w.heap.size w wr)) (fun _ v _ => l.length - (intOf v).toNat)
  case atStart => exact ⟨0, Nat.zero_le _, rfl, by simp, ⟨Below.refl _ _⟩⟩
  case round =>
    obtain ⟨k, hk, rfl, rfl, HB⟩ := hrel
    have hb1 := HLe.out k
    have hb2 := HLe.out (k + 1)
    have hb3 := HM.out
    by_cases hlt : k < l.length
    · obtain ⟨ad, A', c', rfl, hx, hxc, hC⟩ := HRow.out wr HB.out k hlt
      have hs := HL.out k hlt
      have HS := Aside0.mk hs
      generalize (l.getD k []).length = m at *
      generalize (l.take k).flatten.length = s at *
      have hd : decide ((s : Int) + (m : Int) < 0) = false := by simp; omega
      have hlen : s + m ≤ 1000000 := by omega
      clear hs hC HRow
      go_wp2
      go_roundw
      case rel => exact ⟨k + 1, by omega, by go_num, by rw [HS.out]; go_num, HB⟩
      case measure => simp [intOf]; omega
    · obtain rfl : k = l.length := by omega
      have HG := Aside0.mk (fun W => Grow_nil3 (l.take l.length).flatten.length (by omega) W)
      have HSz := Aside0.mk HB.out.size
      have hd1 : decide ((l.length : Int) < (l.length : Int)) = false := by simp
      clear hb1 hb2 hb3
      generalize (l.take l.length).flatten.length = tot at *
      go_wp2_with (go_at_call 115; ((with_reducible refine (HG.out _).mono ?_); rintro e w1 ⟨v, rfl, ho, hb⟩; have HO := Aside0.mk ho; have HB1 := Aside0.mk (below_then HB.out HSz.out hb); clear ho hb))
      go_loopw [6, 27] (fun u v w2 => ∃ k : Nat, k ≤ l.length ∧ v = .int .i64 k ∧ (∃ hs, Aside0 (w2.ownsRow w.heap.size 39 1 u hs.length (encs encH hs)) ∧ Aside0 (Hdr w hs (l.take k).flatten)) ∧ Aside0 (Below w.heap.size w w2)) (fun _ v _ => l.length - (intOf v).toNat)
      case atStart => exact ⟨0, Nat.zero_le _, rfl, ⟨[], ⟨own_weaken HO.out HSz.out⟩, ⟨Hdr.nil _⟩⟩, HB1⟩
      case round =>
        obtain ⟨k, hk, rfl, ⟨hs, HO2, HH⟩, HB2⟩ := hrel
        by_cases hlt : k < l.length
        · obtain ⟨ad, A', c', rfl, hx, hxc, hC⟩ := HRow.out w (Below.refl _ _) k hlt
          have hx := pw_cell_below HB2.out hx
          have HS := Aside0.mk (flat_take3 hlt)
          have hle1 := HLe.out (k + 1)
          rw [HS.out, List.length_append] at hle1
          obtain ⟨nh, hnh, hnd⟩ := hdr_of_C hC
          have HC := Aside0.mk (reads_below hnh HB2.out)
          have HA := Aside0.mk (HH.out.append hnd)
          have hsl := HH.out.1
          have hnl := hnd.1
          have hd1 : decide ((k : Int) < (l.length : Int)) = true := by simp; omega
          have hb4 := HM.out
          clear hC HRow
          generalize l.getD k [] = row at *
          generalize (l.take k).flatten = acc at *
          have HLim := Aside0.mk (show (hs.length + row.length) * 24 ≤ 140737488355328 by omega)
          clear hle1
          go_wp2_with (at_builtin; refine print_append_row_of (w0 := w) encH d3 w.heap.size rfl (.tmp 31) (.tmp 32) 22 39 (.slice none 0 0) 24 rfl Try.underlying22 info_sl rfl (by decide) encH1 _ hs nh _ _ _ rfl rfl HO2.out HC.out HB2.out HB2.out.size HLim.out ?_; intro v1 w3 ho hb hg hat; have HO3 := Aside0.mk ho; have HB3 := Aside0.mk hb; clear ho hb hg hat)
          go_roundw
          case rel => exact ⟨k + 1, by omega, by go_num, ⟨hs ++ nh, HO3, by rw [HS.out]; exact HA⟩, HB3⟩
          case measure => simp [intOf]; omega
        · obtain rfl : k = l.length := by omega
          have hd1 : decide ((l.length : Int) < (l.length : Int)) = false := by simp
          rw [List.take_length] at HH
          clear HRow
          go_wp2
          go_ret
          obtain ⟨A, c, rfl, hr⟩ := own_reads_of (d := d3) HO2.out
          have hl := HH.out.1
          rw [hl] at hr ⊢
          exact ⟨A, c, rfl, C_of_hdr hr (HH.out.below HB2.out), HB2.out⟩

def fourB (x : Int) : List Int := [x % 256, x / 256 % 256, x / 65536 % 256, x / 16777216 % 256]
theorem four_low (x : Int) : lowBytes (IntKind.u64.wrap (wrap64 x)) (cnt 4) = fourB x := by
  have hc : cnt 4 = 4 := by decide
  rw [hc]
  simp only [lowBytes, fourB, List.range_succ, List.range_zero, List.nil_append, List.map_append, List.map_cons, List.map_nil, List.cons_append]
  have e : IntKind.u64.wrap (wrap64 x) = x % 18446744073709551616 := by
    rw [IntKind.wrap_u64]
    unfold wrap64
    omega
  rw [e]
  simp
  omega
/-- Numbers' bytes. -/
def bytes4 (l : List Int) : List Int := l.flatMap fourB
theorem b4_len (l : List Int) : (bytes4 l).length = 4 * l.length := by
  induction l with
  | nil => rfl
  | cons x l ih => simp only [bytes4, List.flatMap_cons, List.length_append, List.length_cons] at *; rw [ih]; simp [fourB]; omega
theorem b4_succ (l : List Int) (k : Nat) (hk : k < l.length) : bytes4 (l.take (k + 1)) = bytes4 (l.take k) ++ fourB (l.getD k 0) := by
  rw [List.take_succ_eq_append_getElem hk, List.getD_eq_getElem?_getD, List.getElem?_eq_getElem hk]
  simp only [bytes4, List.flatMap_append, List.flatMap_cons, List.flatMap_nil, List.append_nil, Option.getD_some]
def bytesB (b : List (List (List Int))) : List Int := bytes4 b.flatten.flatten
set_option maxRecDepth 100000 in
theorem Bytes_c (A0 : Option Addr) (c0 : Nat) (b : List (List (List Int))) (w : World) (hr : Kd.C (Kd.slice 39 (Kd.slice 21 (Kd.int .i32))) w A0 b.length b) (hc : b.length ≤ c0) (hlim : bookE b = 0 → b.flatten.length ≤ 1000000 ∧ b.flatten.flatten.length ≤ 1000000) :
    Calls Try.prog 36 #[.agg #[.slice A0 b.length c0]] w fun e w' => ∃ v, e = .returned v ∧ (Kd.int .u8).R 5 w' w.heap.size (fun _ => True) v (if bookE b = 0 then bytesB b else []) ∧ Below w.heap.size w w' := by
  have HB0 := Aside0.mk ((Below.refl w.heap.size w).alloc (Nat.le_refl _) (.cells #[.slice A0 b.length c0] 53))
  have hc0 : (w.alloc (.cells #[.slice A0 b.length c0] 53)).cell? ⟨w.heap.size, 0, none⟩ = some (.slice A0 b.length c0) := by simp
  have HCk := Aside0.mk (fun X (hX : Below w.heap.size w X) => Bk.book_Check.calls A0 c0 b (bookE b) X (Kd.C_below hr hX) hc rfl)
  by_cases h0 : bookE b = 0
  · rw [if_pos h0]
    obtain ⟨hl1, hl2⟩ := hlim h0
    rw [h0] at HCk
    have HC3 := Aside0.mk (fun X (hX : Below w.heap.size w X) => Concat_rows3 A0 c0 b hl1 X (Kd.C_below hr hX))
    have HC2 := Aside0.mk (fun A c X hC => Concat_rows A c b.flatten hl2 X hC)
    have HE := Aside0.mk (show bytesB b = bytes4 b.flatten.flatten from rfl)
    clear hr hlim h0 hl1
    obtain ⟨l, hl⟩ : ∃ l, b.flatten.flatten = l := ⟨_, rfl⟩
    rw [hl] at HC2 hl2 HE
    clear hl
    generalize b.flatten = bf at *
    go_enter Try.func36, Try.ntmps36
    go_wp2_with (first
      | (go_at_call 37; ((with_reducible refine (HCk.out _ HB0.out).mono ?_); rintro e w1 ⟨rfl, hb⟩; have HB1 := Aside0.mk (below_then HB0.out HB0.out.size hb); have hc1 := pw_cell_below hb hc0; clear hb))
      | (go_at_call 79; ((with_reducible refine (HC3.out _ HB1.out).mono ?_); rintro e w2 ⟨A2, c2, rfl, hC, hb⟩; have HCf := Aside0.mk hC; have HB2 := Aside0.mk (below_then HB1.out HB1.out.size hb); clear hb hC))
      | (go_at_call 78; ((with_reducible refine (HC2.out _ _ _ HCf.out).mono ?_); rintro e w3 ⟨v3, rfl, ho, hb⟩; obtain ⟨A3, c3, rfl, hl3, hC3⟩ := Kd.R_reads ho; have HL := Aside0.mk hC3; have HB3 := Aside0.mk (below_then HB2.out HB2.out.size hb); clear hb ho hC3)))
    go_loopw [3, 5, 14] (fun v _ i wr => ∃ k : Nat, k ≤ l.length ∧ i = .int .i64 k ∧ Aside0 (Below w3.heap.size w3 wr) ∧ Aside0 (wr.ownsRow w3.heap.size 5 1 v (4 * k) (nums .u8 (bytes4 (l.take k))))) (fun _ _ i _ => l.length - (intOf i).toNat)
    case atStart => exact ⟨0, by omega, rfl, ⟨Below.refl _ _⟩, ⟨World.ownsRow_nil _ _ _ _⟩⟩
    case round =>
      obtain ⟨k, hk, rfl, HBe, HO⟩ := hrel
      by_cases hlt : k < l.length
      · obtain ⟨ad, rfl, hx⟩ := C_ints HL.out k hlt
        have hx := pw_cell_below HBe.out hx
        have HT := Aside0.mk (b4_succ l k hlt)
        have HLn := Aside0.mk (show (bytes4 (l.take k)).length = 4 * k by rw [b4_len, List.length_take_of_le hk])
        generalize l.getD k 0 = x at *
        rename_i v _
        have hcall := Put_nil (IntKind.u64.wrap (wrap64 x)) 4 wr
        rw [four_low] at hcall
        have H2 := Aside0.mk (show (fourB x).length = 4 from rfl)
        generalize fourB x = tx at *
        go_wp2_with (first | (go_at_call 80; refine hcall.mono ?_; rintro e w' ⟨v2, rfl, hR, hb⟩; obtain ⟨A2, c2, rfl, hl2, hC2⟩ := Kd.R_reads hR; have HR2 := Aside0.mk hC2; have HO' := Aside0.mk (pw_own_below HO.out hb); have HB' := Aside0.mk (bcomp HBe.out hb); clear hR hb hl2 hC2) | (at_builtin; refine print_append_row w3.heap.size rfl (.tmp 18) (.tmp 22) 55 5 .u8 1 rfl Try.underlying55 info_u8 (by decide) _ (bytes4 (l.take k)) tx _ _ _ rfl rfl (by rw [HLn.out]; exact HO'.out) (C_reads HR2.out) HB'.out HB'.out.size (by rw [HLn.out, H2.out]; omega) ?_; intro v1 w1 ho hb hg hat; have HO2 := Aside0.mk ho; have HB2 := Aside0.mk hb; clear ho hb hg hat))
        go_roundw
        case rel => exact ⟨k + 1, by omega, by go_num, HB2, ⟨by have := HO2.out; rw [List.length_append, HLn.out, H2.out] at this; rw [HT.out]; exact this⟩⟩
        case measure => simp [intOf]; omega
      · obtain rfl : k = l.length := by omega
        go_wp2
        go_ret
        refine ⟨_, rfl, ?_, below_then HB3.out HB3.out.size HBe.out⟩
        have := HO.out
        rw [List.take_length] at this
        rw [HE.out]
        exact Kd.R_lower (R_nums this (b4_len l)) HB3.out.size
  · rw [if_neg h0]
    have hd : (bookE b != 0) = true := by simpa using h0
    clear hr hlim h0
    generalize bookE b = q at *
    go_enter Try.func36, Try.ntmps36
    go_wp2_with (go_at_call 37; ((with_reducible refine (HCk.out _ HB0.out).mono ?_); rintro e w1 ⟨rfl, hb⟩; have HB1 := Aside0.mk (below_then HB0.out HB0.out.size hb); clear hb))
    go_ret
    exact ⟨_, rfl, Kd.R_nil _ _ _ _ _, HB1.out⟩
end Go.Proofs.Yteickelddnhdiaa.G
namespace Go.Proofs.Yteickelddnhdiaa.Bk
open Go.RowKit Go.Proofs.YteickelddnhdiaaW.PrintWords Go.Proofs.Yteickelddnhdiaa.G
set_option linter.unusedVariables false
def book_Bytes.f (b : List (List (List Int))) : Option (List Int) := if bookE b = 0 → b.flatten.length ≤ 1000000 ∧ b.flatten.flatten.length ≤ 1000000 then some (if bookE b = 0 then bytesB b else []) else none
theorem book_Bytes.calls (A0_0 : Option Addr) (c0_0 : Nat) (l0_0 : List (List (List Int))) (r : List Int) (w : World) (hr0_0 : Kd.C (Kd.slice 39 (Kd.slice 21 (Kd.int .i32))) w A0_0 l0_0.length l0_0) (hc0_0 : l0_0.length ≤ c0_0) (h : book_Bytes.f l0_0 = some r) :
    Calls Try.prog 36 #[.agg #[.slice A0_0 l0_0.length c0_0]] w fun e w' => ∃ v0_ : Value, e = .returned v0_ ∧ Kd.R (Kd.int .u8) 5 w' w.heap.size (fun _ => True) v0_ r ∧ Below w.heap.size w w' := by
  unfold book_Bytes.f at h
  split at h
  · next hl => cases h; exact Bytes_c A0_0 c0_0 l0_0 w hr0_0 hc0_0 hl
  · cases h
end Go.Proofs.Yteickelddnhdiaa.Bk
