/- Contracts: slices.Concat over []uint64, train.Turned. -/
import Derived.Test.YteickelddnhdiaaRowsA
import Derived.StillTailTactics
import Derived.BigQuiet
namespace Go.Proofs.Yteickelddnhdiaa.G
open Go.RowKit Go.Shelf Go.Proofs.YteickelddnhdiaaW.PrintWords
set_option linter.unusedVariables false
set_option linter.unusedSimpArgs false

theorem info_u64 : (Try.prog.info? 76).map (fun i => (i.zero, i.size, i.bytes)) = some (some (.int .u64 0), 1, 8) := by kernel_rfl
theorem rows_get64 {w : World} {A : Option Addr} {n : Nat} {xs : List (List Int)} (h : Kd.C (Kd.slice 76 (Kd.int .u64)) w A n xs) (j : Nat) (hj : j < n) :
    ∃ ad A' c, A = some ad ∧ w.cell? (ad.add j) = some (.slice A' (xs.getD j []).length c) ∧ (xs.getD j []).length ≤ c ∧ Kd.C (Kd.int .u64) w A' (xs.getD j []).length (xs.getD j []) := by
  obtain ⟨ad, v, e, hc, hk⟩ := C_get1 h rfl j hj []
  obtain ⟨A', c, hv, hl, hC⟩ := hk.out
  cases hv
  exact ⟨ad, A', c, e, hc, hl, hC⟩

set_option maxRecDepth 100000 in
/-- slices.Grow(nil, n). -/
theorem Grow_nil64 (n : Nat) (hn : n ≤ 1000000) (w : World) :
    Calls Try.prog 131 #[.slice none 0 0, .int .i64 n] w fun e w' => ∃ v, e = .returned v ∧ w'.ownsRow w.heap.size 76 1 v 0 (nums .u64 []) ∧ Below w.heap.size w w' := by
  by_cases h0 : n = 0
  · subst h0
    have hz : ((0 : Nat) : Int) = 0 := rfl
    go_enter Try.func131, Try.ntmps131
    go_wp2
    go_ret
    exact ⟨_, rfl, World.ownsRow_nil _ _ _ _, Below.refl _ _⟩
  · have hd1 : decide ((n : Int) > 0) = true := by simp; omega
    go_enter Try.func131, Try.ntmps131
    go_wp2_with (at_builtin; refine Kd.R_append_zeros (Kd.int .u64) (w0 := w) w.heap.size rfl (.tmp 20) (.tmp 21) 73 3 76 (.int .u64 0) 8 rfl Try.underlying73 Try.underlying3 info_u64 rfl (by decide) (by decide) (.slice none 0 0) [] 0 (n : Int) (fun _ => True) rfl rfl rfl (fun _ _ => trivial) (Kd.R_nil _ _ _ _ _) (by omega) (Below.refl _ _) (Nat.le_refl _) (by simp; omega) ?_; intro v1 w1 hr1 hb1 hg1 hat1; obtain ⟨A1, c1, rfl, hl1, _⟩ := Kd.R_reads hr1; have HR := Aside0.mk (Kd.R_take (m := 0) hr1 (Nat.zero_le _)); have HB := Aside0.mk hb1; have hc1 : (0 : Int) ≤ (c1 : Int) := (by omega); clear hr1 hb1 hg1 hat1 hl1)
    go_ret
    refine ⟨_, rfl, ?_, HB.out⟩
    obtain ⟨_, inner, ho, _⟩ := HR.out
    have hin : inner = [] := List.eq_nil_of_length_eq_zero (by rw [ho.1]; simp)
    rw [hin] at ho
    exact ho
/-- slices.Concat(l...). -/
theorem Concat_rows64 (A0 : Option Addr) (c0 : Nat) (l : List (List Int)) (hm : l.flatten.length ≤ 1000000) (w : World) (hr : Kd.C (Kd.slice 76 (Kd.int .u64)) w A0 l.length l) :
    Calls Try.prog 105 #[.slice A0 l.length c0] w fun e w' => ∃ v, e = .returned v ∧ (Kd.int .u64).R 76 w' w.heap.size (fun _ => True) v l.flatten ∧ Below w.heap.size w w' := by
  have hlm := C_max hr
  have HRow := Aside0.mk (fun W (hB : Below w.heap.size w W) => rows_get64 (Kd.C_below hr hB))
  have HL := Aside0.mk (fun k (hk : k < l.length) => flat_take hk)
  have HLe := Aside0.mk (fun k => flat_le l k)
  have HM := Aside0.mk hm
  clear hr hm
  go_enter Try.func105, Try.ntmps105
  go_wp2
  go_loopw [3, 11] (fun s v wr => ∃ k : Nat, k ≤ l.length ∧ v = .int .i64 k ∧ s = .int .i64 ((l.take k).flatten.length : Nat) ∧ Aside0 (Below w.heap.size w wr)) (fun _ v _ => l.length - (intOf v).toNat)
  case atStart => exact ⟨0, Nat.zero_le _, rfl, by simp, ⟨Below.refl _ _⟩⟩
  case round =>
    obtain ⟨k, hk, rfl, rfl, HB⟩ := hrel
    have hb1 := HLe.out k
    have hb2 := HLe.out (k + 1)
    have hb3 := HM.out
    by_cases hlt : k < l.length
    · obtain ⟨ad, A', c', rfl, hx, hxc, hC⟩ := HRow.out wr HB.out k hlt
      have hs := HL.out k hlt
      have HS := Aside0.mk hs
      generalize (l.getD k []).length = m at *
      generalize (l.take k).flatten.length = s at *
      have hd : decide ((s : Int) + (m : Int) < 0) = false := by simp; omega
      have hlen : s + m ≤ 1000000 := by omega
      clear hs hC HRow
      go_wp2
      go_roundw
      case rel => exact ⟨k + 1, by omega, by go_num, by rw [HS.out]; go_num, HB⟩
      case measure => simp [intOf]; omega
    · obtain rfl : k = l.length := by omega
      have HG := Aside0.mk (fun W => Grow_nil64 (l.take l.length).flatten.length (by omega) W)
      have HSz := Aside0.mk HB.out.size
      have hd1 : decide ((l.length : Int) < (l.length : Int)) = false := by simp
      clear hb1 hb2 hb3
      generalize (l.take l.length).flatten.length = tot at *
      go_wp2_with (go_at_call 131; ((with_reducible refine (HG.out _).mono ?_); rintro e w1 ⟨v, rfl, ho, hb⟩; have HO := Aside0.mk ho; have HB1 := Aside0.mk (below_then HB.out HSz.out hb); clear ho hb))
      go_loopw [6, 27] (fun u v w2 => ∃ k : Nat, k ≤ l.length ∧ v = .int .i64 k ∧ Aside0 (w2.ownsRow w.heap.size 76 1 u (l.take k).flatten.length (nums .u64 (l.take k).flatten)) ∧ Aside0 (Below w.heap.size w w2)) (fun _ v _ => l.length - (intOf v).toNat)
      case atStart => exact ⟨0, Nat.zero_le _, rfl, ⟨own_weaken HO.out HSz.out⟩, HB1⟩
      case round =>
        obtain ⟨k, hk, rfl, HO2, HB2⟩ := hrel
        by_cases hlt : k < l.length
        · obtain ⟨ad, A', c', rfl, hx, hxc, hC⟩ := HRow.out _ HB2.out k hlt
          have HS := Aside0.mk (show (l.take (k + 1)).flatten = (l.take k).flatten ++ l.getD k [] by
            rw [List.take_succ_eq_append_getElem hlt, List.flatten_append]
            simp [hlt])
          have hle1 := HLe.out (k + 1)
          rw [HS.out, List.length_append] at hle1
          have HC := Aside0.mk (C_reads hC)
          have hd1 : decide ((k : Int) < (l.length : Int)) = true := by simp; omega
          have hb4 := HM.out
          clear hC HRow
          generalize l.getD k [] = row at *
          generalize (l.take k).flatten = acc at *
          have HLim := Aside0.mk (show (acc.length + row.length) * 8 ≤ 140737488355328 by omega)
          clear hle1
          go_wp2_with (at_builtin; refine print_append_row (w0 := w) w.heap.size rfl (.tmp 31) (.tmp 32) 73 76 .u64 8 rfl Try.underlying73 info_u64 (by decide) _ acc row _ _ _ rfl rfl HO2.out HC.out HB2.out HB2.out.size HLim.out ?_; intro v1 w3 ho hb hg hat; have HO3 := Aside0.mk ho; have HB3 := Aside0.mk hb; clear ho hb hg hat)
          go_roundw
          case rel => exact ⟨k + 1, by omega, by go_num, by rw [HS.out]; exact HO3, HB3⟩
          case measure => simp [intOf]; omega
        · obtain rfl : k = l.length := by omega
          have hd1 : decide ((l.length : Int) < (l.length : Int)) = false := by simp
          rw [List.take_length] at HO2
          clear HRow
          go_wp2
          go_ret
          exact ⟨_, rfl, R_nums HO2.out rfl, HB2.out⟩

theorem C_slice_mk {α : Type} {e : Nat} {d : Kd α} {w : World} {ad : Addr} {xs : List (List α)} (hm : xs.length ≤ 9223372036854775807) (h : ∀ j p, xs[j]? = some p → ∃ A c, w.cell? (ad.add j) = some (.slice A p.length c) ∧ p.length ≤ c ∧ d.C w A p.length p) : (Kd.slice e d).C w (some ad) xs.length xs :=
  ⟨rfl, hm, fun _ => ⟨ad, rfl, fun j p hj => by
    obtain ⟨A, c, h1, h2, h3⟩ := h j p hj
    refine ⟨[.slice A p.length c], rfl, ⟨A, c, rfl, h2, h3⟩, fun i u hu => ?_⟩
    cases i with
    | zero =>
      simp at hu
      subst hu
      have e : j * (Kd.slice e d).sz + 0 = j := by show j * 1 + 0 = j; omega
      rw [e]
      exact h1
    | succ i => simp at hu⟩⟩
theorem alloc_size_le (w : World) (o : Obj) : w.heap.size ≤ (w.alloc o).heap.size := by
  show _ ≤ (w.heap.push o).size
  rw [Array.size_push]
  exact Nat.le_succ _
/-- Draws from a place on. -/
def turnedL (l : List Int) (s : Int) : List Int := if l.length = 0 then [] else l.drop ((max 0 s).toNat % l.length) ++ l.take ((max 0 s).toNat % l.length)
set_option maxRecDepth 100000 in
theorem Turned_calls (A0 : Option Addr) (c0 : Nat) (l : List Int) (s : Int) (w : World) (hr : Kd.C (Kd.int .u64) w A0 l.length l) (hc : l.length ≤ c0) (hm : l.length ≤ 1000000) :
    Calls Try.prog 59 #[.slice A0 l.length c0, .int .i64 s] w fun e w' => ∃ v, e = .returned v ∧ (Kd.int .u64).R 76 w' w.heap.size (fun _ => True) v (turnedL l s) ∧ Below w.heap.size w w' := by
  by_cases h0 : l.length = 0
  · have hd : ((l.length : Int) == 0) = true := by simp; exact List.eq_nil_of_length_eq_zero h0
    have HT := Aside0.mk (show turnedL l s = [] by simp [turnedL, h0])
    rw [HT.out]
    clear hr h0
    go_enter Try.func59, Try.ntmps59
    go_wp2
    go_ret
    exact ⟨_, rfl, Kd.R_nil _ _ _ _ _, Below.refl _ _⟩
  have hd : ((l.length : Int) == 0) = false := by simp; intro h; exact h0 (by rw [h]; rfl)
  obtain ⟨mx, HM⟩ : ∃ mx : Nat, Aside0 ((max 0 s).toNat = mx) := ⟨_, ⟨rfl⟩⟩
  have hmx : ∀ ats ty W, (Builtin.max_ ats ty #[.int .i64 0, .int .i64 s]).run Try.prog W = .ok (.int .i64 (mx : Int)) W := fun ats ty W => by rw [run_max .i64 0 s]; congr 2; have := HM.out; omega
  obtain ⟨t, ht⟩ : ∃ t, mx % l.length = t := ⟨_, rfl⟩
  have htl : t < l.length := by rw [← ht]; exact Nat.mod_lt _ (by omega)
  have htm : Int.tmod (mx : Int) (l.length : Int) = (t : Int) := by rw [← ht]; rfl
  have HT := Aside0.mk (show turnedL l s = [l.drop t, l.take t].flatten by unfold turnedL; rw [if_neg h0, HM.out, ht]; simp)
  rw [HT.out]
  have hne : ¬ (l.length : Int) = 0 := by omega
  have htc : ¬ c0 = t := by omega
  have htl2 : t ≤ l.length := by omega
  have htc2 : t ≤ c0 := by omega
  obtain ⟨ad, rfl, _⟩ := C_ints hr 0 (by omega)
  have HR := Aside0.mk hr
  have HL := Aside0.mk htl
  have HC0 := Aside0.mk hc
  have HM0 := Aside0.mk hm
  clear hr ht h0
  go_enter Try.func59, Try.ntmps59
  go_wp2
  go_still_tail 6, (by kernel_rfl)
  change wpList _ _ _ _ _ w.drew
  have HB1 := Aside0.mk ((Below.refl w.heap.size w).drew)
  have HR1 := Aside0.mk (Kd.C_below HR.out ((Below.refl w.heap.size w).drew))
  generalize w.drew = w1 at *
  have HC2 := Aside0.mk (show ∀ ty, Kd.C (Kd.slice 76 (Kd.int .u64)) (w1.alloc (.cells #[.slice (some (ad.add t)) (l.length - t) (c0 - t), .slice (some ad) t c0] ty)) (some ⟨w1.heap.size, 0, none⟩) 2 [l.drop t, l.take t] from fun ty => by
    have hB := (Below.refl w1.heap.size w1).alloc (Nat.le_refl _) (.cells #[.slice (some (ad.add t)) (l.length - t) (c0 - t), .slice (some ad) t c0] ty)
    have hC := Kd.C_below HR1.out hB
    have c1 := C_piece hC t (l.length - t) (by omega)
    have c2 := C_piece hC 0 t (by omega)
    have ea : ad.add 0 = ad := by simp [Addr.add]
    rw [List.take_of_length_le (by simp)] at c1
    rw [ea, List.drop_zero] at c2
    have l1 : (l.drop t).length = l.length - t := by simp
    have l2 : (l.take t).length = t := by simp; omega
    refine C_slice_mk (xs := [l.drop t, l.take t]) (by simp) fun j p hj => ?_
    rcases j with _ | _ | j
    · simp at hj
      subst hj
      exact ⟨some (ad.add t), c0 - t, by rw [l1, show (⟨w1.heap.size, 0, none⟩ : Addr).add 0 = ⟨w1.heap.size, 0, none⟩ by simp [Addr.add]]; simp, by rw [l1]; have := HC0.out; omega, by rw [l1]; exact c1⟩
    · simp at hj
      subst hj
      exact ⟨some ad, c0, by rw [l2, show (⟨w1.heap.size, 0, none⟩ : Addr).add 1 = ⟨w1.heap.size, 1, none⟩ by simp [Addr.add]]; simp, by rw [l2]; omega, by rw [l2]; exact c2⟩
    · simp at hj)
  have HCc := Aside0.mk (fun W ad' c (hC : Kd.C (Kd.slice 76 (Kd.int .u64)) W (some ad') 2 [l.drop t, l.take t]) => show Calls Try.prog 105 #[.slice (some ad') 2 c] W _ from Concat_rows64 (some ad') c [l.drop t, l.take t] (by simp; have := HM0.out; omega) W hC)
  have HSz := Aside0.mk HB1.out.size
  go_wp2_with (go_at_call 105; (((with_reducible refine (HCc.out _ _ _ (HC2.out _)).mono ?_); rintro e w2 ⟨v, rfl, ho, hb⟩; have HO := Aside0.mk (Kd.R_lower ho (Nat.le_trans HSz.out (alloc_size_le _ _))); have HB2 := Aside0.mk (below_then (HB1.out.alloc HSz.out _) (Nat.le_trans HSz.out (alloc_size_le _ _)) hb); clear ho hb)))
  go_ret
  exact ⟨_, rfl, HO.out, HB2.out⟩
end Go.Proofs.Yteickelddnhdiaa.G
