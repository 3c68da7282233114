/- Contracts of the reference: Of, Signed (two bytes), Read. -/
import Derived.Test.YtkogapmggicanaaRef3c
namespace Go.Proofs.Ytkogapmggicanaa.G
open Go.RowKit Go.Shelf Go.Proofs.YtkogapmggicanaaW.PrintWords
set_option linter.unusedVariables false
set_option linter.unusedSimpArgs false

theorem of_add (l : List Int) (k : Nat) (hk : k < 8) (h : ∀ j, j < k + 1 → isByte (l.getD j 0)) :
    IntKind.u64.wrap (ofTo l k + IntKind.u64.wrap (IntKind.u64.wrap (l.getD k 0) * 2 ^ (8 * k))) = ofTo l (k + 1) := by
  obtain ⟨h1, h2⟩ := ofTo_bound l (k + 1) h
  obtain ⟨h3, h4⟩ := ofTo_bound l k (fun j hj => h j (by omega))
  obtain ⟨b1, b2⟩ := h k (by omega)
  have hp : (2 : Int) ^ (8 * (k + 1)) ≤ 18446744073709551616 := by
    have : (2 : Nat) ^ (8 * (k + 1)) ≤ 2 ^ 64 := Nat.pow_le_pow_right (by decide) (by omega)
    have e : ((2 : Int) ^ (8 * (k + 1))) = ((2 ^ (8 * (k + 1)) : Nat) : Int) := by simp
    rw [e]
    omega
  have hq : (0 : Int) < 2 ^ (8 * k) := Int.pow_pos (by decide)
  simp only [ofTo] at h1 h2 ⊢
  have e1 : IntKind.u64.wrap (l.getD k 0) = l.getD k 0 := by rw [IntKind.wrap_u64]; omega
  rw [e1]
  have h5 := Int.mul_nonneg b1 (Int.le_of_lt hq)
  generalize l.getD k 0 * 2 ^ (8 * k) = q at *
  rw [IntKind.wrap_u64, IntKind.wrap_u64]
  omega
theorem ROf_calls (A0 : Option Addr) (c0 : Nat) (l0 : List Int) (w : World) (hr0 : Kd.C (Kd.int .u8) w A0 l0.length l0) (hb : ∀ j, j < l0.length → isByte (l0.getD j 0)) :
    Calls Try.prog 76 #[.slice A0 l0.length c0] w fun e w' => e = .returned (.int .u64 (ofTo l0 (min l0.length 8))) ∧ w = w' := by
  have hmax := C_max hr0
  have HC := Aside0.mk (C_ints hr0)
  have HB := Aside0.mk hb
  clear hr0 hb
  go_enter Try.func76, Try.ntmps76
  go_wp2
  go_loopw [3, 4] (fun x i wr => ∃ k : Nat, k ≤ min l0.length 8 ∧ i = .int .i64 k ∧ x = .int .u64 (ofTo l0 k) ∧ Aside0 (w = wr)) (fun _ i _ => 9 - (intOf i).toNat)
  case atStart => exact ⟨0, by omega, rfl, rfl, ⟨rfl⟩⟩
  case round =>
    obtain ⟨k, hk, rfl, rfl, HW⟩ := hrel
    by_cases hlt : k < l0.length
    · have d1 : decide ((k : Int) < (l0.length : Int)) = true := by simpa using hlt
      by_cases hk8 : k < 8
      · have d2 : decide ((k : Int) < 8) = true := by simp; omega
        obtain ⟨ad, rfl, hx⟩ := HC.out k (by omega)
        obtain rfl := HW.out
        have HS := Aside0.mk (of_add l0 k hk8 (fun j hj => HB.out j (by omega)))
        have hki : (k : Int) < (l0.length : Int) := by omega
        have hkm := Aside0.mk (show k + 1 ≤ min l0.length 8 by omega)
        generalize l0.getD k 0 = b at *
        generalize ofTo l0 k = o at *
        go_wp2
        go_roundw
        case rel => exact ⟨k + 1, hkm.out, by go_num, by rw [HS.out], by first | exact ⟨rfl⟩ | exact ⟨trivial⟩⟩
        case measure => simp [intOf]; omega
      · have d2 : decide ((k : Int) < 8) = false := by simp; omega
        have HE := Aside0.mk (show min l0.length 8 = k by omega)
        go_wp2
        go_ret
        exact ⟨by rw [HE.out]; rfl, HW.out⟩
    · have d1 : decide ((k : Int) < (l0.length : Int)) = false := by simp; omega
      have HE := Aside0.mk (show min l0.length 8 = k by omega)
      go_wp2
      go_ret
      exact ⟨by rw [HE.out]; rfl, HW.out⟩

def signed2 (x : Int) : Int := if x % 65536 ≥ 32768 then x % 65536 - 65536 else x % 65536
theorem RSigned_calls (x : Int) (w : World) (hx : 0 ≤ x) :
    Calls Try.prog 75 #[.int .u64 x, .int .i64 2] w fun e w' => e = .returned (.int .i64 (signed2 x)) ∧ w = w' := by
  have ht : x.tmod 65536 = x % 65536 := Int.tmod_eq_emod_of_nonneg hx
  by_cases h : x % 65536 ≥ 32768
  · have HF := Aside0.mk (show signed2 x = x % 65536 - 65536 by simp only [signed2, if_pos h])
    have h1 : 0 ≤ x % 65536 ∧ x % 65536 < 65536 := by omega
    have d : decide (x % 65536 ≥ 32768) = true := by simpa using h
    have d' : decide (32768 ≤ x % 65536) = true := by simpa using h
    rw [HF.out]
    clear h HF
    go_enter Try.func75, Try.ntmps75
    go_wp2
    go_ret
    exact ⟨rfl, rfl⟩
  · have HF := Aside0.mk (show signed2 x = x % 65536 by simp only [signed2, if_neg h])
    have h1 : 0 ≤ x % 65536 ∧ x % 65536 < 65536 := by omega
    have d : decide (x % 65536 ≥ 32768) = false := by simpa using h
    have d' : decide (32768 ≤ x % 65536) = false := by simpa using h
    rw [HF.out]
    clear h HF
    go_enter Try.func75, Try.ntmps75
    go_wp2
    go_ret
    exact ⟨rfl, rfl⟩
theorem signed_num (a b : Int) (ha : isByte a) (hb : isByte b) : IntKind.i16.wrap (signed2 (ofTo [a, b] 2)) = num2 a b := by
  unfold isByte at ha hb
  unfold num2 signedV
  simp only [ofTo, List.getD_cons_zero, List.getD_cons_succ]
  generalize hx : (0 + a * 2 ^ (8 * 0) + b * 2 ^ (8 * 1) : Int) = x
  have h0 : 0 ≤ x ∧ x < 65536 := by omega
  rw [if_neg (by omega)]
  have e1 : (8 * (8 - min (2 : Int) 8)).toNat = 48 := by decide
  rw [e1, IntKind.wrap_u64]
  have e3 : ∀ y, IntKind.i16.wrap y = (y + 32768) % 65536 - 32768 := fun y => by
    simp [IntKind.wrap, IntKind.signed, IntKind.bits]
    omega
  rw [e3, e3]
  unfold wrap64 signed2
  have e2 : (2 : Int) ^ 48 = 281474976710656 := by decide
  rw [e2]
  split <;> omega

/-! ### Read -/
theorem readTo_succ (l : List Int) (k : Nat) : ((List.range (k + 1)).map fun j => num2 (l.getD (2 * j) 0) (l.getD (2 * j + 1) 0)) = ((List.range k).map fun j => num2 (l.getD (2 * j) 0) (l.getD (2 * j + 1) 0)) ++ [num2 (l.getD (2 * k) 0) (l.getD (2 * k + 1) 0)] := by
  simp [List.range_succ]
def readTo (l : List Int) (k : Nat) : List Int := (List.range k).map fun j => num2 (l.getD (2 * j) 0) (l.getD (2 * j + 1) 0)
theorem readTo_len (l : List Int) (k : Nat) : (readTo l k).length = k := by simp [readTo]
set_option maxRecDepth 100000 in
set_option maxHeartbeats 1000000 in
theorem RRead_calls (A0 : Option Addr) (c0 : Nat) (l0 : List Int) (w : World) (hr0 : Kd.C (Kd.int .u8) w A0 l0.length l0) (hc0 : l0.length ≤ c0) (hb : ∀ j, j < l0.length → isByte (l0.getD j 0)) :
    Calls Try.prog 35 #[.slice A0 l0.length c0] w fun e w' => ∃ v : Value, e = .returned (.tuple #[v, .int .i64 (readE l0)]) ∧ Kd.R (Kd.int .i16) 24 w' w.heap.size (fun _ => True) v (readV l0) ∧ Below w.heap.size w w' := by
  have hmax := C_max hr0
  by_cases h1 : l0.length > 2048
  · have HE := Aside0.mk (show readE l0 = 3 by simp [readE, h1])
    have HV := Aside0.mk (show readV l0 = [] by simp [readV, HE.out])
    have d1 : decide ((l0.length : Int) > 2048) = true := by simp; omega
    clear hr0 hb h1
    go_enter Try.func35, Try.ntmps35
    go_wp2
    go_ret2
    exact ⟨_, by rw [HE.out]; rfl, by rw [HV.out]; exact Kd.R_nil _ _ _ _ _, Below.refl _ _⟩
  · have d1 : decide ((l0.length : Int) > 2048) = false := by simp; omega
    by_cases h2 : l0.length % 2 = 0
    · have HE := Aside0.mk (show readE l0 = 0 by simp [readE, h1, h2])
      have HV := Aside0.mk (show readV l0 = readTo l0 (l0.length / 2) by unfold readV; rw [if_pos HE.out]; rfl)
      rw [HE.out, HV.out]
      have d2 : ((l0.length : Int) % 2 != 0) = false := by simp; omega
      have HR := Aside0.mk (fun W (hB : Below w.heap.size w W) => Kd.C_below hr0 hB)
      have HA := Aside0.mk (show 0 < l0.length → ∃ ad, A0 = some ad from fun h => by obtain ⟨ad, e, _⟩ := C_ints hr0 0 h; exact ⟨ad, e⟩)
      have HBy := Aside0.mk hb
      obtain ⟨N, hN⟩ : ∃ N, l0.length = 2 * N := ⟨l0.length / 2, by omega⟩
      have hN2 : l0.length / 2 = N := by omega
      rw [hN2]
      have HNl := Aside0.mk hN
      clear hr0 hb HE HV h2 hN2 hN
      go_enter Try.func35, Try.ntmps35
      go_wp2
      go_loopw [4, 5] (fun v i wr => ∃ k kc : Nat, 2 * k = kc ∧ k ≤ N ∧ i = .int .i64 kc ∧ Aside0 (Below w.heap.size w wr) ∧
        Aside0 (wr.ownsRow w.heap.size 24 1 v k (nums .i16 (readTo l0 k)))) (fun _ i _ => l0.length - (intOf i).toNat)
      case atStart => exact ⟨0, 0, rfl, by omega, rfl, ⟨Below.refl _ _⟩, ⟨World.ownsRow_nil _ _ _ _⟩⟩
      case round =>
        obtain ⟨k, kc, hkc, hk, rfl, HBe, HO⟩ := hrel
        by_cases hlt : k < N
        · obtain ⟨ad, rfl⟩ := HA.out (by have := HNl.out; omega)
          have hpc := C_piece (HR.out _ HBe.out) kc 2 (by have := HNl.out; omega)
          have hp2 := piece_two l0 k (by have := HNl.out; omega)
          rw [Nat.mul_comm, hkc] at hp2
          rw [hp2] at hpc
          have hne : ¬ c0 = kc := by have := HNl.out; omega
          have hb0 := HBy.out (2 * k) (by have := HNl.out; omega)
          have hb1 := HBy.out (2 * k + 1) (by have := HNl.out; omega)
          have hOf := ROf_calls (some (ad.add kc)) (c0 - kc) (pair2 l0 k) wr hpc (fun j hj => by
            have hj2 : j < 2 := hj
            rcases (show j = 0 ∨ j = 1 by omega) with rfl | rfl
            · exact hb0
            · exact hb1)
          have hSg := RSigned_calls (ofTo (pair2 l0 k) 2) wr (ofTo_bound (pair2 l0 k) 2 (fun j hj => by rcases (show j = 0 ∨ j = 1 by omega) with rfl | rfl; exact hb0; exact hb1)).1
          have HNm := Aside0.mk (show IntKind.i16.wrap (signed2 (ofTo (pair2 l0 k) 2)) = num2 (l0.getD (2 * k) 0) (l0.getD (2 * k + 1) 0) from signed_num _ _ hb0 hb1)
          have HRs := Aside0.mk (show readTo l0 (k + 1) = readTo l0 k ++ [num2 (l0.getD (2 * k) 0) (l0.getD (2 * k + 1) 0)] from readTo_succ l0 k)
          have hOf : Calls Try.prog 76 #[.slice (some (ad.add kc)) 2 (c0 - kc)] wr fun e w' => e = .returned (.int .u64 (ofTo (pair2 l0 k) 2)) ∧ wr = w' := hOf
          generalize ofTo (pair2 l0 k) 2 = o at hOf hSg HNm
          generalize signed2 o = sg at hSg HNm
          have HOf := Aside0.mk hOf
          have HSg := Aside0.mk hSg
          have hk1 : (0 : Int) ≤ (kc : Int) := by have := HNl.out; omega
          have hk2 : (kc : Int) ≤ (kc : Int) + 2 := by have := HNl.out; omega
          have hk3 : (kc : Int) + 2 ≤ (c0 : Int) := by have := HNl.out; omega
          have hk4 : (kc : Int) < (l0.length : Int) := by have := HNl.out; omega
          have hk5 : ((kc : Int) + 2).toNat = kc + 2 := by have := HNl.out; omega
          have hk6 : kc + 2 - kc = 2 := by have := HNl.out; omega
          clear hOf hSg hp2 hpc hb0 hb1
          go_wp2_with (first | (go_at_call 76; refine HOf.out.mono ?_; rintro e w' ⟨rfl, rfl⟩) | (go_at_call 75; refine HSg.out.mono ?_; rintro e w' ⟨rfl, rfl⟩) | (at_builtin; refine print_append_num w.heap.size rfl (.tmp 19) (.tmp 28) 43 24 .i16 2 rfl Try.underlying43 info_i16 (by decide) _ (readTo l0 k) (IntKind.i16.wrap sg) rfl rfl (by rw [readTo_len]; exact HO.out) HBe.out HBe.out.size (by rw [readTo_len]; have := HNl.out; omega) ?_; intro v1 w1 ho hb hg hat; have HO2 := Aside0.mk ho; have HB2 := Aside0.mk hb; clear ho hb hg hat))
          go_roundw
          case rel => exact ⟨k + 1, kc + 2, by omega, by omega, by go_num, HB2, ⟨by have := HO2.out; rw [List.length_append, readTo_len, HNm.out] at this; rw [HRs.out]; exact this⟩⟩
          case measure => simp [intOf]; have := HNl.out; omega
        · obtain rfl : k = N := by omega
          have hk4 : ¬ ((kc : Int) < (l0.length : Int)) := by have := HNl.out; omega
          go_wp2
          go_ret2
          exact ⟨_, rfl, R_nums HO.out (readTo_len _ _), HBe.out⟩
    · have HE := Aside0.mk (show readE l0 = 4 by simp [readE, h1, h2])
      have HV := Aside0.mk (show readV l0 = [] by simp [readV, HE.out])
      have d2 : ((l0.length : Int) % 2 != 0) = true := by simp; omega
      clear hr0 hb h1 h2
      go_enter Try.func35, Try.ntmps35
      go_wp2
      go_ret2
      exact ⟨_, by rw [HE.out]; rfl, by rw [HV.out]; exact Kd.R_nil _ _ _ _ _, Below.refl _ _⟩

end Go.Proofs.Ytkogapmggicanaa.G
