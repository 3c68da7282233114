/- The contract of wayfinderref11.Distinct. -/
import Derived.Test.YtkippapoicdlhaaMapF
import Derived.Test.YtkippapoicdlhaaDrx0
namespace Go.Proofs.Ytkippapoicdlhaa.Dr
open Go.RowKit Go.Shelf Go.MapKept Go.Proofs.YtkippapoicdlhaaW.PrintWords Go.Proofs.Ytkippapoicdlhaa.G
set_option linter.unusedVariables false
set_option linter.unusedSimpArgs false

theorem nodup_iff (l : List Int) : l.Nodup ↔ ∀ i (h : i < l.length), l[i] ∉ l.take i := by
  rw [List.Nodup, List.pairwise_iff_getElem]
  constructor
  · intro h i hi hm
    obtain ⟨j, hj, e⟩ := List.mem_iff_getElem.1 hm
    rw [List.length_take] at hj
    rw [List.getElem_take] at e
    exact h j i (by omega) hi (by omega) e
  · intro h i j hi hj hij e
    exact h j hj (e ▸ List.mem_iff_getElem.2 ⟨i, by rw [List.length_take]; omega, by rw [List.getElem_take]⟩)
theorem take_succ_mem {l : List Int} {i : Nat} (h : i < l.length) (x : Int) : x ∈ l.take (i + 1) ↔ x = l[i] ∨ x ∈ l.take i := by
  rw [List.take_succ_eq_append_getElem h, List.mem_append, List.mem_singleton, or_comm]

def wayfinderref11_Distinct.f (l : List Int) : Option Bool := if l.length ≤ 1000000 ∧ ∀ x ∈ l, -9223372036854775808 ≤ x ∧ x ≤ 9223372036854775807 then some (decide l.Nodup) else none
theorem zero_bool : ∀ w : World, (zeroValue 4).run Try.prog w = .ok (.bool false) w := fun _ => by kernel_rfl
set_option maxRecDepth 100000 in
set_option maxHeartbeats 1000000 in
theorem wayfinderref11_Distinct.calls (A0 : Option Addr) (c0 : Nat) (l0 : List Int) (r : Bool) (w : World) (hr0 : Kd.C (Kd.int .i64) w A0 l0.length l0) (hc0 : l0.length ≤ c0) (h : wayfinderref11_Distinct.f l0 = some r) :
    Calls Try.prog 24 #[.slice A0 l0.length c0] w fun e w' => e = .returned (.bool r) ∧ Below w.heap.size w w' := by
  unfold wayfinderref11_Distinct.f at h
  split at h
  rotate_left
  · cases h
  rename_i hl
  cases h
  have hm := hl.1
  have hmm := @run_makeMap Try.prog
  have HC := Aside0.mk (fun W (hB : Below w.heap.size w W) => C_ints (Kd.C_below hr0 hB))
  clear hl hr0
  go_enter Try.func24, Try.ntmps24
  go_wp2
  go_loopw [4] (fun v wr => ∃ (i : Nat) (f : Value → Option Value), i ≤ l0.length ∧ v = .int .i64 i ∧ Aside0 (MapF (.int .i64) wr w.heap.size f) ∧ Aside0 (∀ x : Int, (f (.int .i64 x)).getD (.bool false) = .bool (decide (x ∈ l0.take i))) ∧ Aside0 (Below w.heap.size w wr) ∧ Aside0 (∀ j (h : j < l0.length), j < i → l0[j] ∉ l0.take j)) (fun v _ => l0.length - (intOf v).toNat)
  case atStart => exact ⟨0, fun _ => none, by omega, rfl, ⟨MapF.new _ _⟩, ⟨fun x => by simp⟩, ⟨(Below.refl _ _).alloc (Nat.le_refl _) _⟩, ⟨fun j _ h => by omega⟩⟩
  case round =>
    obtain ⟨i, f, hi, rfl, HF, HM, HB, HN⟩ := hrel
    by_cases hlt : i < l0.length
    · obtain ⟨ad, rfl, hx⟩ := HC.out wr HB.out i hlt
      have hg : l0.getD i 0 = l0[i] := by simp [hlt]
      rw [hg] at hx
      have hv := HM.out l0[i]
      have HS := Aside0.mk (take_succ_mem hlt)
      have HI := Aside0.mk (show ∀ j (h : j < l0.length), j < i + 1 → l0[i] ∉ l0.take i → l0[j] ∉ l0.take j from fun j h hj hn => by
        rcases Nat.lt_succ_iff_lt_or_eq.1 hj with h1 | rfl
        · exact HN.out j h h1
        · exact hn)
      have HD := Aside0.mk (show l0[i] ∈ l0.take i → decide l0.Nodup = false from fun hd => decide_eq_false (fun h => (nodup_iff l0).1 h i hlt hd))
      have hd1 : decide ((i : Int) < (l0.length : Int)) = true := by simp; omega
      clear HC hg
      generalize l0[i] = x at *
      by_cases hd : x ∈ l0.take i
      · rw [decide_eq_true hd] at hv
        have HV := Aside0.mk hv
        have HDD := Aside0.mk (HD.out hd)
        clear hd hv
        go_wp2_with (with_reducible refine wpList_look0_F rfl (.tmp 12) (.tmp 16) rfl rfl (.int .i64 x) rfl Try.underlying86 Try.underlying3 (isKey_int _ _) HF.out (.bool false) (zero_bool _) (.bool true) HV.out ?_)
        go_ret
        exact ⟨by rw [HDD.out]; rfl, HB.out⟩
      · have HX := Aside0.mk hd
        rw [decide_eq_false hd] at hv
        have HV := Aside0.mk hv
        clear hd hv
        go_wp2_with (first
          | (with_reducible refine wpList_look0_F rfl (.tmp 12) (.tmp 16) rfl rfl (.int .i64 x) rfl Try.underlying86 Try.underlying3 (isKey_int _ _) HF.out (.bool false) (zero_bool _) (.bool false) HV.out ?_)
          | (with_reducible refine wpList_update_F rfl (.tmp 18) (.tmp 22) (.const (.bool true)) rfl rfl (.int .i64 x) (.bool true) rfl rfl Try.underlying86 Try.underlying3 (isKey_int _ _) HF.out ?_; intro w3 hF3 hg3; have HF3 := Aside0.mk hF3; have HG3 := Aside0.mk hg3; clear hF3 hg3))
        go_roundw
        case rel =>
          refine ⟨i + 1, _, by omega, by go_num, HF3, ⟨fun y => ?_⟩, ⟨HB.out.grown HG3.out HB.out.size (fun k hk => by cases hk; exact Nat.le_refl _)⟩, ⟨fun j h hj => HI.out j h hj HX.out⟩⟩
          by_cases hy : y = x
          · subst hy
            rw [updF_same]
            simp [(HS.out y).2 (.inl rfl)]
          · rw [updF_other (by simp; exact hy), HM.out y]
            congr 1
            rw [decide_eq_decide, HS.out y]
            exact ⟨.inr, fun h => h.resolve_left hy⟩
        case measure => simp [intOf]; omega
    · obtain rfl : i = l0.length := by omega
      have hd1 : decide ((l0.length : Int) < (l0.length : Int)) = false := by simp
      have HDD := Aside0.mk (show decide l0.Nodup = true from decide_eq_true ((nodup_iff l0).2 fun j h => HN.out j h h))
      clear HC
      go_wp2
      go_ret
      exact ⟨by rw [HDD.out]; rfl, HB.out⟩

end Go.Proofs.Ytkippapoicdlhaa.Dr
