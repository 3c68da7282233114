/- slices.Repeat at []int. -/
import Derived.Test.YtcgpkfpfpjclkaaMeanH
import Derived.Test.YtcgpkfpfpjclkaaShelf
import Derived.Laws.CopyOwn
import Derived.IntWalk
import Derived.Deep.RegionLaw
namespace Go.Proofs.Ytcgpkfpfpjclkaa.G
open Go.RowKit Go.Shelf Go.MapKept Go.Proofs.YtcgpkfpfpjclkaaW.PrintWords
set_option linter.unusedVariables false
set_option linter.unusedSimpArgs false
theorem info_int : (Try.prog.info? 3).map (fun i => (i.zero, i.size, i.bytes)) = some (some (.int .i64 0), 1, 8) := by kernel_rfl
theorem zero_int : ∀ w : World, (zeroValue 3).run Try.prog w = .ok (.int .i64 0) w := fun _ => by kernel_rfl
def repL (l : List Int) (m : Nat) : List Int := (List.range m).map fun i => l.getD (i % l.length) 0
theorem repL_length (l : List Int) (m : Nat) : (repL l m).length = m := by simp [repL]
def repOk (l L : List Int) (n : Nat) : Prop := ∀ i, i < n → L.getD i 0 = l.getD (i % l.length) 0
theorem repOk_all {l L : List Int} {m : Nat} (h : repOk l L m) (hl : L.length = m) : L = repL l m := by
  apply List.ext_getElem
  · rw [repL_length, hl]
  · intro i h1 h2
    have := h i (by omega)
    rw [List.getD_eq_getElem?_getD, List.getElem?_eq_getElem h1] at this
    simpa [repL] using this
/-- L with the first c numbers laid from place n on, too. -/
def layL (L : List Int) (n c : Nat) : List Int := L.take n ++ (L.take c ++ L.drop (n + c))
theorem layL_length {L : List Int} {n c : Nat} (h : n + c ≤ L.length) : (layL L n c).length = L.length := by
  simp [layL]
  omega
theorem layL_get {L : List Int} {n c i : Nat} (h : n + c ≤ L.length) (hi : i < n + c) : (layL L n c).getD i 0 = if i < n then L.getD i 0 else L.getD (i - n) 0 := by
  unfold layL
  simp only [List.getD_eq_getElem?_getD]
  by_cases h1 : i < n
  · rw [if_pos h1, List.getElem?_append_left (by simp; omega), List.getElem?_take_of_lt h1]
  · rw [if_neg h1, List.getElem?_append_right (by simp; omega), List.length_take, show min n L.length = n by omega, List.getElem?_append_left (by simp; omega), List.getElem?_take_of_lt (by omega)]
theorem repOk_lay {l L : List Int} {n c q : Nat} (hn : n = l.length * q) (hc : c ≤ n) (h : n + c ≤ L.length) (hr : repOk l L n) : repOk l (layL L n c) (n + c) := by
  intro i hi
  rw [layL_get h hi]
  split
  · exact hr i (by assumption)
  · rename_i h1
    rw [hr (i - n) (by omega)]
    have e : i = (i - n) + l.length * q := by omega
    have e2 : i % l.length = (i - n) % l.length := by
      conv => lhs; rw [e]
      rw [Nat.add_mul_mod_self_left]
    rw [e2]
theorem splice_lay (L : List Int) (n c : Nat) (hc : c ≤ L.length) : splice (nums .i64 L) n (nums .i64 (L.take c)) = nums .i64 (layL L n c) := by
  simp [splice, nums, layL, hc]
theorem splice_first (L l : List Int) : splice (nums .i64 L) 0 (nums .i64 l) = nums .i64 (l ++ L.drop l.length) := by
  simp [splice, nums]
theorem own_of_block {w : World} {base g m : Nat} {e : TypeId} {L : List Int} (hb : base ≤ g) (hg : w.heap[g]? = some (.cells (nums .i64 L).toArray e (0, 0))) (hm : L.length = m) (hx : m ≤ 9223372036854775807) : w.ownsRow base e 1 (.slice (some ⟨g, 0, none⟩) m m) m (nums .i64 L) := by
  refine ⟨by simp [nums, hm], .inr ⟨g, m, _, rfl, hb, hg, Nat.le_refl _, by simpa [maxLen] using hx, by simp [nums, hm], ?_⟩⟩
  rw [Nat.mul_one]
  simp only []
  exact List.take_of_length_le (by simp [nums, hm])
theorem cell_lt {w : World} {p : Addr} {v : Value} (h : w.cell? p = some v) : p.block < w.heap.size := by
  simp only [World.cell?] at h
  refine Classical.byContradiction fun hn => ?_
  rw [Array.getElem?_eq_none (by omega)] at h
  simp at h
theorem cell_of_block {w : World} {g : Nat} {e : TypeId} {L : List Int} (hg : w.heap[g]? = some (.cells (nums .i64 L).toArray e (0, 0))) (j : Nat) (v : Value) (h : (nums .i64 L)[j]? = some v) : w.cell? ⟨g, j, none⟩ = some v := by
  simp [World.cell?, hg, h]

/-- A copy as one step, its slot told. -/
theorem step_copyN {P : Program} {ops : Array Oper} {o : Oper} {a : Act} {w : World} {K : Act → World → Prop} {Q : Exit → Act → World → Prop} {E : Prop} (N : Tmp) (hdst : o.dst = some N) (hgd : o.guard = none) (d s : Operand) (dT sT : TypeId)
    (ho : o.op = .call { callee := .builtin .copy, args := #[d, s], argTypes := #[dT, sT] }) (elem : TypeId) (hu : P.underlying dT = some (.slice elem)) (hsz : (P.info? elem).map (·.size) = some 1)
    (dp sp : Option Addr) (dLen dCap sLen sCap : Nat) (hd : a.eval d = .slice dp dLen dCap) (hs : a.eval s = .slice sp sLen sCap)
    (g off : Nat) (cur : List Value) (t : TypeId) (hg : w.heap[g]? = some (.cells cur.toArray t (0, 0))) (cs : List Value) (n : Nat) (hcl : cs.length = n) (hn : n = Nat.min sLen dLen)
    (hpos : 0 < cs.length → dp = some ⟨g, off, none⟩ ∧ ∃ ad, sp = some ad ∧ ∀ j v, cs[j]? = some v → w.cell? (ad.add j) = some v)
    (hfit : off + cs.length ≤ cur.length) (h1 : ∀ v ∈ cs, v.oneCell' = true) (B : Nat) (w0 : World) (hb : Below B w0 w) (hBg : B ≤ g)
    (h : ∀ w', Hid (w'.heap[g]? = some (.cells (splice cur off cs).toArray t (0, 0))) → Below B w0 w' → K (a.put (some N) (.int .i64 n)) w') :
    if Region.wanted o (yielded ops a.tmps) = true then Oper.wp P o a w K Q else E := by
  subst hcl
  exact step_copy_splice hgd d s dT sT ho elem hu hsz dp sp dLen dCap sLen sCap hd hs g off cur t hg cs hn hpos hfit h1 B w0 hb hBg (fun w' h1 h2 => by rw [hdst]; exact h w' h1 h2)

set_option maxRecDepth 100000 in
set_option maxHeartbeats 1000000 in
theorem Repeat_c (A0 : Option Addr) (c0 : Nat) (l : List Int) (cnt : Nat) (h1 : 1 ≤ l.length) (hc1 : 1 ≤ cnt) (hm : l.length * cnt ≤ 1000000) (w : World) (hr : Kd.C (Kd.int .i64) w A0 l.length l) :
    Calls Try.prog 38 #[.slice A0 l.length c0, .int .i64 cnt] w fun e w' => ∃ v, e = .returned v ∧ (Kd.int .i64).R 3 w' w.heap.size (fun _ => True) v (repL l (l.length * cnt)) ∧ Below w.heap.size w w' := by
  obtain ⟨M, hM⟩ : ∃ M, l.length * cnt = M := ⟨_, rfl⟩
  have hlM : l.length ≤ M := by rw [← hM]; exact Nat.le_mul_of_pos_right _ hc1
  have hcM : cnt ≤ M := by rw [← hM]; exact Nat.le_mul_of_pos_left _ h1
  have hmul := Try.bits_Mul l.length cnt (by omega) (by omega)
  rw [hM, show M / 18446744073709551616 = 0 by omega, show M % 18446744073709551616 = M by omega] at hmul
  rw [hM] at hm ⊢
  have HMul := Aside0.mk hmul
  have HM := Aside0.mk hM
  have HR := Aside0.mk hr
  obtain ⟨ad, rfl, hsrc⟩ : ∃ ad, A0 = some ad ∧ ∀ j v, (nums .i64 l)[j]? = some v → w.cell? (ad.add j) = some v := by
    obtain ⟨ad, e, _⟩ := C_ints hr 0 (by omega)
    refine ⟨ad, e, fun j v hv => ?_⟩
    simp only [nums, List.getElem?_map, Option.map_eq_some_iff] at hv
    obtain ⟨x, hx, rfl⟩ := hv
    obtain ⟨hj, hx⟩ := List.getElem?_eq_some_iff.1 hx
    obtain ⟨ad', e', hc⟩ := C_ints hr j hj
    rw [e] at e'
    cases e'
    rw [hc, List.getD_eq_getElem?_getD, List.getElem?_eq_getElem hj, hx]
    rfl
  have HS := Aside0.mk hsrc
  have HLt := Aside0.mk (show ∀ j v, (nums .i64 l)[j]? = some v → (ad.add j).block < w.heap.size from fun j v hv => cell_lt (hsrc j v hv))
  have hmk := print_make 47 3 .i64 8 Try.underlying47 (by kernel_rfl) (by decide) M (by omega)
  have HG := Aside0.mk (show ∀ W : World, (W.alloc (.cells (madeCells #[.int .i64 0] M) 3)).heap[W.heap.size]? = some (.cells (nums .i64 (List.replicate M 0)).toArray 3 (0, 0)) from fun W => by
    rw [(heap_alloc W _).1]
    congr 2
    apply Array.ext'
    simp [madeCells, nums, Nat.mod_one, List.map_const'])
  clear hmul hM hr hsrc
  go_enter Try.func38, Try.ntmps38
  go_wp2_with fail
  refine (HMul.out _).mono ?_
  rintro e w1 ⟨rfl, rfl⟩
  have hB0 := Aside0.mk ((Below.refl w1.heap.size w1).alloc (Nat.le_refl _) (.cells (madeCells #[.int .i64 0] M) 3))
  have HMin := Aside0.mk (show (nums .i64 l).length = Nat.min l.length M by simp [nums, Nat.min_def]; omega)
  go_wp2_with (with_reducible refine wpList_copy_splice rfl (.tmp 31) (.tmp 32) 47 47 rfl 3 Try.underlying47 (by kernel_rfl) (some ⟨w1.heap.size, 0, none⟩) (some ad) M M l.length c0 rfl rfl w1.heap.size 0 (nums .i64 (List.replicate M 0)) 3 (HG.out _) (nums .i64 l) HMin.out (fun _ => ⟨rfl, ad, rfl, fun j v hv => by rw [hB0.out.cell (HLt.out j v hv)]; exact HS.out j v hv⟩) (by simp [nums]; omega) (by simp [nums, Value.oneCell']) w1.heap.size w1 hB0.out (Nat.le_refl _) ?_; intro w2 hg2 hb2; have HB2 := Aside0.mk hb2; clear hb2)
  have HG2 := Aside0.mk (show w2.heap[w1.heap.size]? = some (.cells (nums .i64 (l ++ (List.replicate M 0).drop l.length)).toArray 3 (0, 0)) by rw [← splice_first]; exact hg2)
  have HSt := Aside0.mk (show repOk l (l ++ (List.replicate M 0).drop l.length) l.length from fun i hi => by
    rw [List.getD_eq_getElem?_getD, List.getElem?_append_left hi, List.getD_eq_getElem?_getD, Nat.mod_eq_of_lt hi])
  have HSl := Aside0.mk (show (l ++ (List.replicate M 0).drop l.length).length = M by simp; omega)
  generalize (l ++ (List.replicate M 0).drop l.length) = L2 at *
  clear hg2 HG hmk HMin
  go_loopw [8] (fun v wr => ∃ (n q : Nat) (L : List Int), v = .int .i64 n ∧ Aside0 (n = l.length * q) ∧ n ≤ M ∧ 1 ≤ n ∧ Aside0 (wr.heap[w1.heap.size]? = some (.cells (nums .i64 L).toArray 3 (0, 0))) ∧ Aside0 (L.length = M) ∧ Aside0 (repOk l L n) ∧ Aside0 (Below w1.heap.size w1 wr)) (fun v _ => M - (intOf v).toNat)
  case atStart => exact ⟨l.length, 1, L2, by simp [goInt, nums], ⟨by omega⟩, hlM, h1, HG2, HSl, HSt, HB2⟩
  case round =>
    obtain ⟨n, q, L, rfl, Hq, hn, hn1, HG, HL, HK, HB⟩ := hrel
    by_cases hlt : n < M
    · have hd1 : decide ((n : Int) < (M : Int)) = true := by simp; omega
      obtain ⟨c, hc⟩ : ∃ c, min n (M - n) = c := ⟨_, rfl⟩
      have HC := Aside0.mk (show (nums .i64 (L.take c)).length = Nat.min n (M - n) by have := HL.out; have h2 : (nums .i64 (L.take c)).length = min c L.length := by simp [nums]
                                                                                      rw [h2, Nat.min_def, show Nat.min n (M - n) = min n (M - n) from rfl, hc]; split <;> omega)
      have hcn : c ≤ n ∧ n + c ≤ M ∧ 1 ≤ c := by omega
      have HC2 := Aside0.mk (show (nums .i64 (L.take c)).length = c by rw [HC.out]; exact hc)
      have HC3 := Aside0.mk (show c = Nat.min n (M - n) from hc.symm)
      have hcE := Aside0.mk hc
      have HSp := Aside0.mk (splice_lay L n c (by have := HL.out; omega))
      have HcL := Aside0.mk (show n + (nums .i64 (L.take c)).length ≤ (nums .i64 L).length by rw [HC2.out]; have := HL.out; simp [nums]; omega)
      have HSrc := Aside0.mk (show ∀ j v, (nums .i64 (L.take c))[j]? = some v → wr.cell? ((⟨w1.heap.size, 0, none⟩ : Addr).add j) = some v from fun j v hv => by
        rw [show (⟨w1.heap.size, 0, none⟩ : Addr).add j = ⟨w1.heap.size, j, none⟩ by unfold Addr.add; split <;> simp_all]
        refine cell_of_block HG.out j v ?_
        have hj : j < c := by have := (List.getElem?_eq_some_iff.1 hv).1; rw [HC2.out] at this; exact this
        simp only [nums, List.getElem?_map, List.getElem?_take_of_lt hj] at hv ⊢
        exact hv)
      clear hc
      have HMul2 := Aside0.mk (show n + c = l.length * (q + c / l.length) by
        have h1 := Hq.out
        have h2 := HM.out
        have hd : l.length ∣ c := by
          have hn : l.length ∣ n := ⟨q, h1⟩
          have hM : l.length ∣ M := ⟨cnt, h2.symm⟩
          rw [← hcE.out, Nat.min_def]
          split
          · exact hn
          · exact Nat.dvd_sub hM hn
        rw [Nat.mul_add, Nat.mul_div_cancel' hd, ← h1])
      have hne : ¬ M = n := by omega
      have hle : (n : Int) ≤ (M : Int) := by omega
      have hw : IntKind.i64.wrap ((n : Int) + (c : Int)) = ((n + c : Nat) : Int) := by rw [IntWalk.i64_in _ (by omega)]; rfl
      go_wp2
      go_region_law (refine step_copyN 45 rfl rfl (.tmp 41) (.tmp 44) 47 47 rfl 3 Try.underlying47 (by kernel_rfl) (some ⟨w1.heap.size, n, none⟩) (some ⟨w1.heap.size, 0, none⟩) (M - n) (M - n) n M (by simp [Act.eval, Act.put]) (by simp [Act.eval, Act.put]) w1.heap.size n (nums .i64 L) 3 HG.out (nums .i64 (L.take c)) c HC2.out HC3.out (fun _ => ⟨rfl, _, rfl, HSrc.out⟩) HcL.out (fun v hv => by obtain ⟨x, _, rfl⟩ := List.mem_map.1 hv; rfl) w1.heap.size w1 (HB.out.trans ⟨rfl, rfl, rfl, Nat.le_refl _, fun _ _ => rfl⟩) (Nat.le_refl _) ?_; intro w4 hg4 hb4; have HB4 := Aside0.mk hb4; clear hb4)
      have HG4 := Aside0.mk (show w4.heap[w1.heap.size]? = some (.cells (nums .i64 (layL L n c)).toArray 3 (0, 0)) by rw [← HSp.out]; exact hg4)
      clear hg4
      simp only [Act.put, List.setIfInBounds_toArray, List.set_cons_succ, List.set_cons_zero, List.getElem_toArray, List.getElem_cons_succ, List.getElem_cons_zero, hw]
      clear hw
      go_wp2
      go_roundw
      case rel => exact ⟨n + c, q + c / l.length, layL L n c, rfl, HMul2, by omega, by omega, HG4, ⟨by rw [layL_length (by have := HL.out; omega)]; exact HL.out⟩, ⟨repOk_lay Hq.out hcn.1 (by have := HL.out; omega) HK.out⟩, HB4⟩
      case measure => simp [intOf]; omega
    · obtain rfl : n = M := by omega
      have hd1 : decide ((n : Int) < (n : Int)) = false := by simp
      have HO := Aside0.mk (own_of_block (base := w1.heap.size) (Nat.le_refl _) HG.out HL.out (by omega))
      rw [repOk_all HK.out HL.out] at HO
      go_wp2
      go_ret
      exact ⟨_, rfl, R_nums HO.out (repL_length _ _), HB.out⟩


set_option maxRecDepth 100000 in
set_option maxHeartbeats 1000000 in
theorem Repeat_0 (A0 : Option Addr) (c0 : Nat) (l : List Int) (h1 : 1 ≤ l.length) (hm : l.length ≤ 1000000) (w : World) :
    Calls Try.prog 38 #[.slice A0 l.length c0, .int .i64 (0 : Nat)] w fun e w' => ∃ v, e = .returned v ∧ (Kd.int .i64).R 3 w' w.heap.size (fun _ => True) v [] ∧ Below w.heap.size w w' := by
  have hmul := Try.bits_Mul l.length 0 (by omega) (by omega)
  rw [Nat.mul_zero] at hmul
  have HMul := Aside0.mk hmul
  have hmk : ∀ W : World, (Instr.makeSlice 47 (.int .i64 0) (.int .i64 0)).run Try.prog W = .ok (.slice (some ⟨W.heap.size, 0, none⟩) 0 0) (W.alloc (.cells (madeCells #[.int .i64 0] 0) 3)) := print_make 47 3 .i64 8 Try.underlying47 (by kernel_rfl) (by decide) 0 (by omega)
  have HG := Aside0.mk (show ∀ W : World, (W.alloc (.cells (madeCells #[.int .i64 0] 0) 3)).heap[W.heap.size]? = some (.cells (nums .i64 []).toArray 3 (0, 0)) from fun W => by
    rw [(heap_alloc W _).1]
    congr 2
    apply Array.ext'
    simp [madeCells, nums])
  clear hmul
  go_enter Try.func38, Try.ntmps38
  go_wp2_with fail
  refine (HMul.out _).mono ?_
  rintro e w1 ⟨rfl, rfl⟩
  have hB0 := Aside0.mk ((Below.refl w1.heap.size w1).alloc (Nat.le_refl _) (.cells (madeCells #[.int .i64 0] 0) 3))
  have HMin := Aside0.mk (show ([] : List Value).length = Nat.min l.length 0 by simp [Nat.min_def])
  go_wp2_with (with_reducible refine wpList_copy_splice rfl (.tmp 31) (.tmp 32) 47 47 rfl 3 Try.underlying47 (by kernel_rfl) (some ⟨w1.heap.size, 0, none⟩) A0 0 0 l.length c0 rfl rfl w1.heap.size 0 (nums .i64 []) 3 (HG.out _) [] HMin.out (fun h => absurd h (by simp)) (by simp [nums]) (by simp) w1.heap.size w1 hB0.out (Nat.le_refl _) ?_; intro w2 hg2 hb2; have HB2 := Aside0.mk hb2; clear hb2)
  have HO := Aside0.mk (own_of_block (L := []) (m := 0) (base := w1.heap.size) (Nat.le_refl _) (show w2.heap[w1.heap.size]? = some (.cells (nums .i64 []).toArray 3 (0, 0)) from hg2) rfl (by omega))
  clear hg2 HG hmk HMin
  have HE := Aside0.mk (And.intro HO.out HB2.out)
  clear HO HB2
  go_loopw [8] (fun v wr => v = .int .i64 0 ∧ wr = w2) (fun _ _ => 0)
  case atStart => exact ⟨by simp [goInt], rfl⟩
  case round =>
    obtain ⟨rfl, rfl⟩ := hrel
    go_wp2
    go_ret
    exact ⟨_, rfl, R_nums HE.out.1 rfl, HE.out.2⟩
theorem repL_one (n : Nat) : repL [-1] n = List.replicate n (-1) := by
  apply List.ext_getElem
  · simp [repL]
  · intro i h1 h2
    simp [repL, Nat.mod_one]
/-- Repeat of one. -/
theorem Repeat_m1 (A0 : Option Addr) (c0 : Nat) (cnt : Nat) (hm : cnt ≤ 1000000) (w : World) (hr : Kd.C (Kd.int .i64) w A0 1 [-1]) :
    Calls Try.prog 38 #[.slice A0 1 c0, .int .i64 cnt] w fun e w' => ∃ v, e = .returned v ∧ (Kd.int .i64).R 3 w' w.heap.size (fun _ => True) v (List.replicate cnt (-1)) ∧ Below w.heap.size w w' := by
  by_cases h0 : cnt = 0
  · subst h0
    exact Repeat_0 A0 c0 [-1] (by simp) (by simp) w
  · have h := Repeat_c A0 c0 [-1] cnt (by simp) (by omega) (by simp; omega) w hr
    rw [show ([-1] : List Int).length * cnt = cnt by simp, repL_one] at h
    exact h
end Go.Proofs.Ytcgpkfpfpjclkaa.G
