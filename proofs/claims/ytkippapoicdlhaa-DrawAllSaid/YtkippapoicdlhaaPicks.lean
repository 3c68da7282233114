/- The contract of draw.Picks. -/
import Derived.Test.YtkippapoicdlhaaPicksA
import Derived.Test.YtkippapoicdlhaaDrx0
namespace Go.Proofs.Ytkippapoicdlhaa.G
open Go.RowKit Go.Shelf Go.MapKept Go.Proofs.YtkippapoicdlhaaW.PrintWords
set_option linter.unusedVariables false
set_option linter.unusedSimpArgs false

def swapF (f : Nat → Nat) (i j : Nat) : Nat → Nat := fun x => if x = i then f j else if x = j then f i else f x
/-- The row after t swaps. -/
def rowF (l : List Int) (n : Nat) : Nat → Nat → Nat
  | 0 => id
  | t + 1 => swapF (rowF l n t) t (t + (drawV l t % ((n - t : Nat) : Int)).toNat)
def firstsL (l : List Int) (n t : Nat) : List Int := (List.range t).map fun i => ((rowF l n (i + 1) i : Nat) : Int)
def picksL (l : List Int) (n k : Nat) : List Int := repL (firstsL l n (min n k)) k
theorem firstsL_length (l : List Int) (n t : Nat) : (firstsL l n t).length = t := by simp [firstsL]
theorem firstsL_succ (l : List Int) (n t : Nat) : firstsL l n (t + 1) = firstsL l n t ++ [((rowF l n (t + 1) t : Nat) : Int)] := by simp [firstsL, List.range_succ]
/-- The map tells the row. -/
def rowM (f : Value → Option Value) (r : Nat → Nat) : Prop := ∀ x : Nat, (f (.int .i64 x)).getD (.int .i64 x) = .int .i64 (r x)
theorem rowM_swap {f : Value → Option Value} {r : Nat → Nat} (h : rowM f r) (i j : Nat) (z : Value) :
    rowM (updF (updF (updF f (.int .i64 i) z) (.int .i64 i) (.int .i64 (r j))) (.int .i64 j) (.int .i64 (r i))) (swapF r i j) := by
  intro x
  unfold swapF
  by_cases hj : x = j
  · subst hj
    rw [updF_same]
    by_cases hi : x = i
    · subst hi
      simp
    · rw [if_neg hi, if_pos rfl]
      simp
  · have hne : (Value.int .i64 (x : Int)) ≠ .int .i64 (j : Int) := by simp; omega
    rw [updF_other hne]
    by_cases hi : x = i
    · subst hi
      rw [updF_same, if_pos rfl]
      simp
    · have hni : (Value.int .i64 (x : Int)) ≠ .int .i64 (i : Int) := by simp; omega
      rw [updF_other hni, updF_other hni, if_neg hi, if_neg hj]
      exact h x
theorem rowM_first (f : Value → Option Value) (r : Nat → Nat) (i j : Nat) (z : Value) :
    updF (updF (updF f (.int .i64 i) z) (.int .i64 i) (.int .i64 (r j))) (.int .i64 j) (.int .i64 (r i)) (.int .i64 i) = some (.int .i64 (swapF r i j i)) := by
  unfold swapF
  rw [if_pos rfl]
  by_cases hj : i = j
  · subst hj
    rw [updF_same]
  · rw [updF_other (by simp; omega), updF_same]
/-- The map is no row of cells. -/
theorem MapF.off {d : TypeDesc} {w : World} {b base n : Nat} {f : Value → Option Value} {e : TypeId} {s : Nat} {v : Value} {xs : List Value} (h : MapF d w b f) (ho : w.ownsRow base e s v n xs) : some b ≠ v.ownBlock := by
  intro hb
  obtain ⟨cells, hc⟩ := own_typed ho b hb.symm
  obtain ⟨o, h1, h2⟩ := h.notCells
  rw [h1] at hc
  cases hc
  cases h2
/-- Where index i stands: nothing that was behind is looked at again. -/
theorem draw_lt {l : List Int} (hl : ∀ x ∈ l, 0 ≤ x ∧ x < 18446744073709551616) (t : Nat) : 0 ≤ drawV l t ∧ drawV l t < 18446744073709551616 := by
  unfold drawV
  split
  · omega
  · have hlt : t % l.length < l.length := Nat.mod_lt _ (by omega)
    rw [List.getD_eq_getElem?_getD, List.getElem?_eq_getElem hlt]
    exact hl _ (List.getElem_mem hlt)

end Go.Proofs.Ytkippapoicdlhaa.G
namespace Go.Proofs.Ytkippapoicdlhaa.Dr
open Go.RowKit Go.Shelf Go.MapKept Go.Proofs.YtkippapoicdlhaaW.PrintWords Go.Proofs.Ytkippapoicdlhaa.G
set_option linter.unusedVariables false
set_option linter.unusedSimpArgs false

def draw_Picks.f (l : List Int) (n k : Int) : Option (List Int × Int) :=
  if ∀ x ∈ l, 0 ≤ x ∧ x < 18446744073709551616 then some (if n < 1 ∨ 16777216 < n ∨ k < 0 ∨ 4096 < k then ([], 2) else (picksL l n.toNat k.toNat, 0)) else none

set_option maxRecDepth 100000 in
set_option maxHeartbeats 2000000 in
theorem Picks_ok (A0 : Option Addr) (c0 : Nat) (l : List Int) (n k : Nat) (w : World) (hr : Kd.C (Kd.int .u64) w A0 l.length l) (hl : ∀ x ∈ l, 0 ≤ x ∧ x < 18446744073709551616) (hn1 : 1 ≤ n) (hn2 : n ≤ 16777216) (hk : k ≤ 4096) :
    Calls Try.prog 16 #[.slice A0 l.length c0, .int .i64 n, .int .i64 k] w fun e w' => ∃ v : Value, e = .returned (.tuple #[v, .int .i64 0]) ∧ Kd.V (Kd.int .i64) 3 w' w.heap.size (fun k_ => (w.heap.size ≤ k_)) v (picksL l n k) ∧ Below w.heap.size w w' := by
  have HR := Aside0.mk (fun W (hB : Below w.heap.size w W) => Kd.C_below hr hB)
  have HD := Aside0.mk (draw_lt hl)
  have hmm := @run_makeMap Try.prog
  clear hr hl
  obtain ⟨m, hm⟩ : ∃ m, min n k = m := ⟨_, rfl⟩
  have hmin : ∀ W, (Builtin.min_ #[3, 3] 3 #[.int .i64 n, .int .i64 k]).run Try.prog W = .ok (.int .i64 m) W := fun W => by rw [run_min]; congr 2; omega
  have HM := Aside0.mk hm
  have hmn : m ≤ n ∧ m ≤ 4096 := by omega
  clear hm
  go_enter Try.func16, Try.ntmps16
  go_wp2_with fail
  go_loopw [9, 30] (fun v i wr => ∃ (t : Nat) (f : Value → Option Value), t ≤ m ∧ i = .int .i64 t ∧ Aside0 (wr.ownsRow (w.heap.size + 1) 3 1 v (nums .i64 (firstsL l n t)).length (nums .i64 (firstsL l n t))) ∧ Aside0 (MapF (.int .i64) wr w.heap.size f) ∧ Aside0 (rowM f (rowF l n t)) ∧ Aside0 (Below w.heap.size w wr) ∧ w.heap.size + 1 ≤ wr.heap.size) (fun _ i _ => m - (intOf i).toNat)
  case atStart => exact ⟨0, fun _ => none, by omega, rfl, ⟨⟨rfl, .inl ⟨rfl, rfl⟩⟩⟩, ⟨MapF.new _ _⟩, ⟨fun x => rfl⟩, ⟨(Below.refl _ _).alloc (Nat.le_refl _) _⟩, by simp⟩
  case round =>
    obtain ⟨t, f, ht, rfl, HO, HF, HRow, HB, hsz⟩ := hrel
    by_cases hlt : t < m
    · have hd1 : decide ((t : Int) < (m : Int)) = true := by simp; omega
      have hdr := Draw_c A0 c0 l t (by omega) wr (HR.out _ HB.out)
      obtain ⟨hd0, hd2⟩ := HD.out t
      obtain ⟨J, hJ⟩ : ∃ J : Nat, drawV l t % ((n - t : Nat) : Int) = (J : Int) := ⟨(drawV l t % ((n - t : Nat) : Int)).toNat, (Int.toNat_of_nonneg (Int.emod_nonneg _ (by omega))).symm⟩
      have hJ2 : J < n - t := by have := Int.emod_lt_of_pos (drawV l t) (show (0 : Int) < ((n - t : Nat) : Int) by omega); omega
      have HStep := Aside0.mk (show rowF l n (t + 1) = swapF (rowF l n t) t (t + J) by rw [rowF, hJ]; rfl)
      have hJ3 : drawV l t % ((n : Int) - (t : Int)) = (J : Int) := by rw [← hJ]; congr 1; omega
      have HSucc := Aside0.mk (firstsL_succ l n t)
      have HFl := Aside0.mk (firstsL_length l n t)
      have HLim := Aside0.mk (show ((nums .i64 (firstsL l n t)).length + 1) * 8 ≤ 140737488355328 by simp only [nums, List.length_map, firstsL_length]; omega)
      generalize drawV l t = d at *
      have HDr := Aside0.mk hdr
      clear hdr hJ HR HD
      have hne : ¬ ((n : Int) - (t : Int) = 0) := by omega
      have a1 := rowAt_c w.heap.size f ((t : Int) + (J : Int)) wr HF.out
      have a2 := rowAt_c w.heap.size f (t : Int) wr HF.out
      rw [show ((t : Int) + (J : Int)) = ((t + J : Nat) : Int) by omega, HRow.out (t + J), show (((t + J : Nat) : Int)) = (t : Int) + (J : Int) by omega] at a1
      rw [HRow.out t] at a2
      have HA1 := Aside0.mk a1
      have HA2 := Aside0.mk a2
      have HNew := Aside0.mk (rowM_swap HRow.out t (t + J) ((f (.int .i64 t)).getD (.int .i64 0)))
      rw [show (Value.int .i64 ((t + J : Nat) : Int)) = .int .i64 ((t : Int) + (J : Int)) by congr 1] at HNew
      have HX := Aside0.mk (rowM_first f (rowF l n t) t (t + J) ((f (.int .i64 t)).getD (.int .i64 0)))
      rw [show (Value.int .i64 ((t + J : Nat) : Int)) = .int .i64 ((t : Int) + (J : Int)) by congr 1] at HX
      rw [← HStep.out] at HX HNew
      clear a1 a2
      generalize rowF l n (t + 1) t = x at *
      generalize rowF l n t (t + J) = rj at *
      generalize rowF l n t t = ri at *
      go_wp2_with (first
        | (go_at_call 20; ((with_reducible refine HDr.out.mono ?_); rintro e w1 ⟨rfl, rfl⟩))
        | (go_at_call 45; ((with_reducible refine HA1.out.mono ?_); rintro e w1 ⟨rfl, rfl⟩))
        | (go_at_call 45; ((with_reducible refine HA2.out.mono ?_); rintro e w1 ⟨rfl, rfl⟩))
        | (with_reducible refine wpList_entry_F rfl (.tmp 44) (.tmp 45) rfl rfl (.int .i64 t) rfl Try.underlying78 Try.underlying3 (isKey_int _ _) HF.out (.int .i64 0) (zero_int _) ?_; intro st w1 hE hg1; have HE := Aside0.mk hE; have HG1 := Aside0.mk hg1; clear hE hg1)
        | (with_reducible refine wpList_store_F rfl (.tmp 44) (.tmp 55) (.tmp 50) rfl rfl (.int .i64 t) (.int .i64 rj) _ rfl rfl HE.out ?_; intro w2 hF2 hg2; have HF2 := Aside0.mk hF2; have HG2 := Aside0.mk hg2; clear hF2 hg2)
        | (with_reducible refine wpList_update_F rfl (.tmp 46) (.tmp 47) (.tmp 53) rfl rfl (.int .i64 ((t : Int) + (J : Int))) (.int .i64 ri) rfl rfl Try.underlying78 Try.underlying3 (isKey_int _ _) HF2.out ?_; intro w3 hF3 hg3; have HF3 := Aside0.mk hF3; have HG3 := Aside0.mk hg3; clear hF3 hg3)
        | (with_reducible refine wpList_look1_F rfl (.tmp 57) (.tmp 58) rfl rfl (.int .i64 t) rfl Try.underlying78 Try.underlying3 (isKey_int _ _) HF3.out (.int .i64 x) HX.out ?_
           have HG := Aside0.mk (World.grownBy.trans (World.grownBy.trans HG1.out HG2.out) HG3.out)
           have HO3 := Aside0.mk (HO.out.kept HG.out (.inr (fun e => MapF.off HF.out HO.out e.symm)))
           have hz3 : wr.heap.size ≤ w3.heap.size := HG.out.size
           clear HG1 HG2 HG3 HE HF2)
        | (at_builtin; refine print_append (w0 := w3) (w.heap.size + 1) rfl (.tmp 56) (.tmp 60) 27 3 (.int .i64 0) 8 rfl Try.underlying27 info_int rfl (by decide) _ (nums .i64 (firstsL l n t)) (.int .i64 x) rfl rfl rfl HO3.out (Below.refl _ _) (by omega) HLim.out ?_; intro v1 w4 ho4 hb4 hg4 hat4; have HO5 := Aside0.mk ho4; have HG4 := Aside0.mk hg4; clear ho4 hb4 hg4 hat4))
      go_roundw
      case rel =>
        have hb4 := (HB.out.grown HG.out (Nat.le_of_succ_le hsz) (fun k hk => by cases hk; exact Nat.le_refl _)).grown HG4.out (by omega) (fun k hk => Nat.le_of_succ_le (own_base HO3.out k hk))
        refine ⟨t + 1, _, by omega, by go_num, ⟨?_⟩, ⟨MapF.grown HF3.out HG4.out (MapF.off HF3.out HO3.out)⟩, HNew, ⟨hb4⟩, by have := HG4.out.size; omega⟩
        rw [HSucc.out, nums_append]
        exact HO5.out
      case measure => simp [intOf]; omega
    · obtain rfl : t = m := by omega
      have hd1 : decide ((t : Int) < (t : Int)) = false := by simp
      have hfl := firstsL_length l n t
      have hR : (Kd.int .i64).R 3 wr (w.heap.size + 1) (fun _ => True) u9 (firstsL l n t) := R_nums HO.out (by simp [nums])
      obtain ⟨A, c, rfl, hlc, hC⟩ := Kd.R_reads hR
      have HR2 := Aside0.mk hR
      have HC2 := Aside0.mk hC
      have hmE := HM.out
      clear hR hC HO HF HRow hmin HD HR
      rw [hfl] at hlc HC2 HR2
      rw [hfl]
      have HFl := Aside0.mk hfl
      clear hfl
      by_cases h0 : t = 0
      · subst h0
        have hk0 : k = 0 := by omega
        have HP := Aside0.mk (show picksL l n k = [] by rw [hk0]; rfl)
        clear HM
        have hz : ((0 : Nat) : Int) = 0 := rfl
        go_wp2
        go_ret2
        have h1 := HR2.out
        rw [show firstsL l n 0 = [] from rfl] at h1
        exact ⟨_, rfl, by rw [HP.out]; exact Kd.V_mono (Kd.R_V (base' := w.heap.size) (Kd.R_bound h1)) (fun k hk => Nat.le_of_succ_le hk.2.1), HB.out⟩
      · have hd2 : ((t : Int) == 0) = false := by simp; omega
        have hd3 : ¬ ((t : Int) = 0) := by omega
        obtain ⟨cnt, hcnt⟩ : ∃ cnt, (k + t - 1) / t = cnt := ⟨_, rfl⟩
        have htk : t ≤ k := by omega
        have hcn1 : 1 ≤ cnt := by rw [← hcnt]; exact (Nat.le_div_iff_mul_le (by omega)).2 (by omega)
        have hcn2 : k ≤ t * cnt ∧ t * cnt ≤ k + t - 1 := by
          rw [← hcnt]
          refine ⟨?_, Nat.mul_div_le _ _⟩
          have := Nat.lt_mul_div_succ (k + t - 1) (show 0 < t by omega)
          rw [Nat.mul_add, Nat.mul_one] at this
          omega
        have hq : Int.tdiv ((k : Int) + (t : Int) - 1) (t : Int) = (cnt : Int) := by
          rw [Int.tdiv_eq_ediv_of_nonneg (by omega), show (k : Int) + (t : Int) - 1 = ((k + t - 1 : Nat) : Int) by omega, ← hcnt]
          rfl
        have hq2 : ((k : Int) + (t : Int) - 1) / (t : Int) = (cnt : Int) := by
          rw [show (k : Int) + (t : Int) - 1 = ((k + t - 1 : Nat) : Int) by omega, ← hcnt]
          rfl
        have hrep := Repeat_c A c (firstsL l n t) cnt (by rw [HFl.out]; omega) hcn1 (by rw [HFl.out]; omega) wr (by rw [HFl.out]; exact HC2.out)
        rw [HFl.out] at hrep
        have HRep := Aside0.mk hrep
        have hsz2 : w.heap.size ≤ wr.heap.size := by omega
        have HT := Aside0.mk (show picksL l n k = (repL (firstsL l n t) (t * cnt)).take k by
          unfold picksL
          rw [HM.out]
          unfold repL
          rw [← List.map_take, List.take_range, Nat.min_eq_left hcn2.1])
        have hc8 : cnt ≤ 8192 := by have := Nat.le_mul_of_pos_left cnt (show 0 < t by omega); omega
        generalize t * cnt = M at *
        clear hrep hcnt
        go_wp2_with (go_at_call 46; ((with_reducible refine HRep.out.mono ?_); rintro e w5 ⟨v5, rfl, hr5, hb5⟩; obtain ⟨A5, c5, rfl, hl5, _⟩ := Kd.R_reads hr5; have HR5 := Aside0.mk hr5; have HB5 := Aside0.mk hb5; have hc5 : (k : Int) ≤ (c5 : Int) := (by rw [repL_length] at hl5; omega); clear hr5 hb5 hl5))
        go_ret2
        have h1 := HR5.out
        have h2 : (Kd.int .i64).F w5 (fun k_ => w.heap.size ≤ k_) A5 k (picksL l n k) := by
          rw [HT.out]
          have h3 := Kd.R_F (Kd.R_take (m := k) (Kd.R_bound h1) (by rw [repL_length]; exact hcn2.1))
          exact Kd.F_mono h3 (fun k_ hk => Nat.le_trans hsz2 hk.2.1)
        have h4 : (picksL l n k).length = k := by rw [HT.out, List.length_take, repL_length]; omega
        refine ⟨_, rfl, ⟨A5, k, by rw [h4]; rfl, by rw [h4]; exact Nat.le_refl _, by rw [h4]; exact h2⟩, below_then HB.out hsz2 HB5.out⟩

theorem Picks_no (A0 : Option Addr) (c0 : Nat) (l : List Int) (n k : Int) (w : World) (h : n < 1 ∨ 16777216 < n ∨ k < 0 ∨ 4096 < k) :
    Calls Try.prog 16 #[.slice A0 l.length c0, .int .i64 n, .int .i64 k] w fun e w' => e = .returned (.tuple #[.slice none 0 0, .int .i64 2]) ∧ w = w' := by
  by_cases h1 : n < 1
  · have d1 : decide (n < 1) = true := by simpa using h1
    go_enter Try.func16, Try.ntmps16
    go_wp2_with fail
    go_ret2
    exact ⟨rfl, rfl⟩
  have d1 : decide (n < 1) = false := by simpa using h1
  by_cases h2 : 16777216 < n
  · have d2 : decide (n > 16777216) = true := by simpa using h2
    go_enter Try.func16, Try.ntmps16
    go_wp2_with fail
    go_ret2
    exact ⟨rfl, rfl⟩
  have d2 : decide (n > 16777216) = false := by simpa using h2
  by_cases h3 : k < 0
  · have d3 : decide (k < 0) = true := by simpa using h3
    go_enter Try.func16, Try.ntmps16
    go_wp2_with fail
    go_ret2
    exact ⟨rfl, rfl⟩
  have d3 : decide (k < 0) = false := by simpa using h3
  have h4 : 4096 < k := by omega
  have d4 : decide (k > 4096) = true := by simpa using h4
  clear h
  go_enter Try.func16, Try.ntmps16
  go_wp2_with fail
  go_ret2
  exact ⟨rfl, rfl⟩

theorem draw_Picks.calls (A0 : Option Addr) (c0 : Nat) (l0 : List Int) (a1 a2 : Int) (r1 : List Int) (r2 : Int) (w : World) (hr0 : Kd.C (Kd.int .u64) w A0 l0.length l0) (hc0 : l0.length ≤ c0) (h : draw_Picks.f l0 a1 a2 = some (r1, r2)) :
    Calls Try.prog 16 #[.slice A0 l0.length c0, .int .i64 a1, .int .i64 a2] w fun e w' => ∃ v0_ : Value, e = .returned (.tuple #[v0_, .int .i64 r2]) ∧ Kd.V (Kd.int .i64) 3 w' w.heap.size (fun k_ => (w.heap.size ≤ k_)) v0_ r1 ∧ Below w.heap.size w w' := by
  unfold draw_Picks.f at h
  split at h
  · rename_i hl
    split at h
    · rename_i hb
      cases h
      refine (Picks_no A0 c0 l0 a1 a2 w hb).mono ?_
      rintro e w' ⟨rfl, rfl⟩
      exact ⟨_, rfl, Kd.V_nil _ _ _ _ _, Below.refl _ _⟩
    · rename_i hb
      cases h
      obtain ⟨n, rfl⟩ : ∃ n : Nat, a1 = n := ⟨a1.toNat, by omega⟩
      obtain ⟨k, rfl⟩ : ∃ k : Nat, a2 = k := ⟨a2.toNat, by omega⟩
      exact Picks_ok A0 c0 l0 n k w hr0 hl (by omega) (by omega) (by omega)
  · cases h

end Go.Proofs.Ytkippapoicdlhaa.Dr
