/- Contracts of octet: Of, Signed. -/
import Derived.Test.YtkogapmggicanaaBase
namespace Go.Proofs.Ytkogapmggicanaa.G
open Go.RowKit Go.Shelf Go.Proofs.YtkogapmggicanaaW.PrintWords
set_option linter.unusedVariables false
set_option linter.unusedSimpArgs false

/-- The number of the first k bytes. -/
def ofTo (l : List Int) : Nat → Int
  | 0 => 0
  | k + 1 => ofTo l k + l.getD k 0 * 2 ^ (8 * k)
def isByte (x : Int) : Prop := 0 ≤ x ∧ x < 256

theorem ofTo_bound (l : List Int) : ∀ k, (∀ j, j < k → isByte (l.getD j 0)) → 0 ≤ ofTo l k ∧ ofTo l k < 2 ^ (8 * k)
  | 0, _ => by simp [ofTo]
  | k + 1, h => by
    obtain ⟨h1, h2⟩ := ofTo_bound l k (fun j hj => h j (by omega))
    obtain ⟨b1, b2⟩ := h k (by omega)
    have e : (2 : Int) ^ (8 * (k + 1)) = 256 * 2 ^ (8 * k) := by
      rw [show 8 * (k + 1) = 8 * k + 8 by omega, Int.pow_add]
      omega
    have hp : (0 : Int) < 2 ^ (8 * k) := Int.pow_pos (by decide)
    simp only [ofTo]
    rw [e]
    have h3 := Int.mul_le_mul_of_nonneg_right (show l.getD k 0 ≤ 255 by omega) (Int.le_of_lt hp)
    have h4 := Int.mul_nonneg b1 (Int.le_of_lt hp)
    omega
theorem of_step (l : List Int) (k : Nat) (hk : k < 8) (h : ∀ j, j < k + 1 → isByte (l.getD j 0)) :
    bits .or .u64 (ofTo l k) (IntKind.u64.wrap (IntKind.u64.wrap (l.getD k 0) * 2 ^ (8 * k))) = ofTo l (k + 1) := by
  obtain ⟨h1, h2⟩ := ofTo_bound l k (fun j hj => h j (by omega))
  obtain ⟨b1, b2⟩ := h k (by omega)
  simp only [ofTo]
  generalize l.getD k 0 = b at *
  obtain ⟨o, ho⟩ : ∃ o : Nat, ofTo l k = o := ⟨(ofTo l k).toNat, by omega⟩
  obtain ⟨c, hc⟩ : ∃ c : Nat, b = c := ⟨b.toNat, by omega⟩
  rw [ho] at h1 h2 ⊢
  rw [hc] at b1 b2 ⊢
  have e1 : IntKind.u64.wrap (c : Int) = (c : Int) := by rw [IntKind.wrap_u64]; omega
  have hpn : ((2 : Int) ^ (8 * k)) = ((2 ^ (8 * k) : Nat) : Int) := by simp
  have hp56 : 2 ^ (8 * k) ≤ 2 ^ 56 := Nat.pow_le_pow_right (by decide) (by omega)
  have hc2 : c * 2 ^ (8 * k) ≤ 255 * 2 ^ 56 := Nat.mul_le_mul (by omega) hp56
  rw [e1, hpn, ← Int.natCast_mul, IntKind.wrap_u64]
  rw [hpn] at h2
  have h2' : o < 2 ^ (8 * k) := Int.ofNat_lt.1 h2
  have e2 : ((c * 2 ^ (8 * k) : Nat) : Int) % 18446744073709551616 = ((c * 2 ^ (8 * k) : Nat) : Int) := Int.emod_eq_of_lt (by omega) (by generalize c * 2 ^ (8 * k) = q at *; omega)
  rw [e2, u64_or_nat o (c * 2 ^ (8 * k)) (by generalize 2 ^ (8 * k) = q at *; omega) (by generalize c * 2 ^ (8 * k) = q at *; omega)]
  rw [Nat.or_comm, Nat.mul_comm c, ← Nat.two_pow_add_eq_or_of_lt h2' c]
  rw [Nat.mul_comm, Nat.add_comm, Int.natCast_add]
theorem Of_calls (A0 : Option Addr) (c0 : Nat) (l0 : List Int) (w : World) (hr0 : Kd.C (Kd.int .u8) w A0 l0.length l0) (hb : ∀ j, j < l0.length → isByte (l0.getD j 0)) :
    Calls Try.prog 68 #[.slice A0 l0.length c0] w fun e w' => e = .returned (.int .u64 (ofTo l0 (min l0.length 8))) ∧ w = w' := by
  have hmax := C_max hr0
  have HC := Aside0.mk (C_ints hr0)
  have HB := Aside0.mk hb
  clear hr0 hb
  obtain ⟨m, hm8, hml, HM, hmn⟩ : ∃ m : Nat, m ≤ 8 ∧ m ≤ l0.length ∧ Aside0 (min l0.length 8 = m) ∧ (∀ ats ty W, (Builtin.min_ ats ty #[.int .i64 (l0.length : Int), .int .i64 8]).run Try.prog W = .ok (.int .i64 (m : Int)) W) :=
    ⟨min l0.length 8, by omega, by omega, ⟨rfl⟩, fun ats ty W => by rw [run_min]; congr 2; omega⟩
  rw [HM.out]
  go_enter Try.func68, Try.ntmps68
  go_wp2
  clear hmn
  go_loopw [2, 3, 7] (fun x _ i wr => ∃ k : Nat, k ≤ m ∧ i = .int .i64 k ∧ x = .int .u64 (ofTo l0 k) ∧ Aside0 (w = wr)) (fun _ _ i _ => m - (intOf i).toNat)
  case atStart => exact ⟨0, by omega, rfl, rfl, ⟨rfl⟩⟩
  case round =>
    obtain ⟨k, hk, rfl, rfl, HW⟩ := hrel
    by_cases hlt : k < m
    · have hk8 : k < 8 := by omega
      have hkl : k < l0.length := by omega
      obtain ⟨ad, rfl, hx⟩ := HC.out k (by omega)
      obtain rfl := HW.out
      have HS := Aside0.mk (of_step l0 k hk8 (fun j hj => HB.out j (by omega)))
      generalize l0.getD k 0 = b at *
      generalize ofTo l0 k = o at *
      go_wp2
      go_roundw
      case rel => exact ⟨k + 1, by omega, by go_num, by rw [HS.out], by first | exact ⟨rfl⟩ | exact ⟨trivial⟩⟩
      case measure => simp [intOf]; omega
    · obtain rfl : k = m := by omega
      go_wp2
      go_ret
      exact ⟨rfl, HW.out⟩

/-- A number's signed reading of its n low bytes (n at least 1). -/
def signedV (x n : Int) : Int := if n < 1 then 0 else (wrap64 (IntKind.u64.wrap (x * 2 ^ (8 * (8 - min n 8)).toNat))) / 2 ^ (8 * (8 - min n 8)).toNat
theorem Signed_calls (x n : Int) (w : World) :
    Calls Try.prog 67 #[.int .u64 x, .int .i64 n] w fun e w' => e = .returned (.int .i64 (signedV x n)) ∧ w = w' := by
  by_cases hn : n < 1
  · have HF := Aside0.mk (show signedV x n = 0 by simp [signedV, hn])
    go_enter Try.func67, Try.ntmps67
    go_wp2
    go_ret
    exact ⟨by rw [HF.out]; rfl, rfl⟩
  · have HF := Aside0.mk (show signedV x n = (wrap64 (IntKind.u64.wrap (x * 2 ^ (8 * (8 - min n 8)).toNat))) / 2 ^ (8 * (8 - min n 8)).toNat by simp [signedV, hn])
    obtain ⟨m, h1, h8, HM, hmn⟩ : ∃ m : Nat, 1 ≤ m ∧ m ≤ 8 ∧ Aside0 (min n 8 = (m : Int)) ∧ (∀ ats ty W, (Builtin.min_ ats ty #[.int .i64 n, .int .i64 8]).run Try.prog W = .ok (.int .i64 (m : Int)) W) :=
      ⟨(min n 8).toNat, by omega, by omega, ⟨by omega⟩, fun ats ty W => by rw [run_min]; congr 2; omega⟩
    rw [HF.out, HM.out, show (8 * (8 - (m : Int))).toNat = 8 * (8 - m) by omega]
    clear HF
    go_enter Try.func67, Try.ntmps67
    go_wp2
    go_ret
    exact ⟨by simp, rfl⟩

end Go.Proofs.Ytkogapmggicanaa.G
