/- vec.Fixed, as a plain function of the double's bits. -/
import Derived.Test.YtkogapmggicanaaBase
import Derived.WalkLawsBesides
import Derived.Laws.FloatArith
namespace Go.Proofs.Ytkogapmggicanaa.G
open Go.RowKit Go.Shelf Go.Proofs.YtkogapmggicanaaW.PrintWords
set_option linter.unusedVariables false
set_option linter.unusedSimpArgs false

def lowF : Nat := 13898108450065350656
def highF : Nat := 4674736138332667904
/-- The product, made whole, as bits. -/
def scaled (b : Nat) (frac : Nat) : Nat := ((FloatKind.f64.format.mul b (floatOfInt .f64 (2 ^ frac))).getD 0)
def wholeF (b : Nat) : Nat := FloatKind.f64.encode ((FloatKind.f64.decode b).integral .even)
def geF (x y : Nat) : Bool := FloatKind.f64.format.order x y == some .gt || FloatKind.f64.format.order x y == some .eq
def leF (x y : Nat) : Bool := FloatKind.f64.format.order x y == some .lt || FloatKind.f64.format.order x y == some .eq
def nanF (b : Nat) : Bool := (FloatKind.f64.decode b).isNaN
def inF (r : Nat) : Bool := geF r lowF && leF r highF

theorem run_frombits (x : Int) (w : World) : (callFunc 61 #[.int .u64 x]).run Try.prog w = .ok (.value (.float .f64 x.toNat)) w := by kernel_rfl

theorem toIntegral_at (m : Nat) : Extern.MathFloor.toIntegral "math.RoundToEven" .even #[.float .f64 m] =
    match FloatKind.f64.decode m with
    | .nan s t =>
      if FloatKind.f64.format.quiet t = t then pure (.float .f64 m) else do
      let kept ← choose (.extern "math.Floor,Ceil,Trunc,RoundToEven.signallingNaN kept" 2)
      pure (.float .f64 (if kept == 1 then m else FloatKind.f64.encode (.nan s (FloatKind.f64.format.quiet t))))
    | d => pure (.float .f64 (FloatKind.f64.encode (d.integral .even))) := rfl
theorem run_rte (m : Nat) (hm : nanF m = false) (w : World) : (callFunc 62 #[.float .f64 m]).run Try.prog w = .ok (.value (.float .f64 (wholeF m))) w := by
  have h : (callFunc 62 #[.float .f64 m]).run Try.prog w = (Extern.MathFloor.toIntegral "math.RoundToEven" .even #[.float .f64 m] >>= fun v => pure (Next.value v)).run Try.prog w := by kernel_rfl
  rw [h, toIntegral_at]
  unfold nanF at hm
  unfold wholeF
  cases hd : FloatKind.f64.decode m with
  | nan s t => rw [hd] at hm; simp [Ieee.Datum.isNaN] at hm
  | infinity s => rfl
  | number s a e => rfl
theorem order_self (b : Nat) : (FloatKind.f64.format.order b b != some .eq) = nanF b := by
  unfold nanF Ieee.Format.order FloatKind.decode
  cases h : FloatKind.f64.format.read b with
  | nan s t => rfl
  | infinity s => cases s <;> rfl
  | number s a e => simp [Ieee.Datum.order, Ieee.Datum.isNaN]
theorem run_nan (t : TypeId) (b : Nat) (w : World) : (binOp .neq t (.float .f64 b) (.float .f64 b)).run Try.prog w = .ok (.bool (nanF b)) w := by
  rw [← order_self]
  rfl
theorem run_ge (t : TypeId) (x y : Nat) (w : World) : (binOp .geq t (.float .f64 x) (.float .f64 y)).run Try.prog w = .ok (.bool (geF x y)) w := rfl
theorem run_le (t : TypeId) (x y : Nat) (w : World) : (binOp .leq t (.float .f64 x) (.float .f64 y)).run Try.prog w = .ok (.bool (leF x y)) w := rfl
theorem run_mulF (t : TypeId) (x y : Nat) (h : (FloatKind.f64.format.mul x y).isSome = true) (w : World) : (binOp .mul t (.float .f64 x) (.float .f64 y)).run Try.prog w = .ok (.float .f64 ((FloatKind.f64.format.mul x y).getD 0)) w :=
  run_float_arith w .mul t .f64 x y _ (by obtain ⟨r, hr⟩ := Option.isSome_iff_exists.1 h; simp [floatBits, hr])

/-- What Fixed tells. -/
def fixV (x frac : Int) : Int :=
  if frac < 0 ∨ frac > 15 then 0 else if nanF x.toNat then 0 else if inF (wholeF (scaled x.toNat frac.toNat)) then (floatToIntVal .f64 (wholeF (scaled x.toNat frac.toNat)) .i16).getD 0 else 0
def fixE (x frac : Int) : Int :=
  if frac < 0 ∨ frac > 15 then 2 else if nanF x.toNat then 2 else if inF (wholeF (scaled x.toNat frac.toNat)) then 0 else 11
/-- The product is one; it is none that is no number; what lies within the bounds is a number of 16 bits. -/
def FixOk (b : Nat) (f : Nat) : Prop := (FloatKind.f64.format.mul b (floatOfInt .f64 (2 ^ f))).isSome = true ∧ nanF (scaled b f) = false ∧ (inF (wholeF (scaled b f)) = true → (floatToIntVal .f64 (wholeF (scaled b f)) .i16).isSome = true)

set_option maxHeartbeats 1000000 in
set_option maxRecDepth 100000 in
theorem Fixed_calls (x frac : Int) (w : World) (hok : 0 ≤ frac → frac ≤ 15 → nanF x.toNat = false → FixOk x.toNat frac.toNat) :
    Calls Try.prog 16 #[.int .u64 x, .int .i64 frac] w fun e w' => e = .returned (.tuple #[.int .i16 (fixV x frac), .int .i64 (fixE x frac)]) ∧ Below w.heap.size w w' := by
  have e1 := run_frombits x
  by_cases hr : frac < 0 ∨ frac > 15
  · have HV := Aside0.mk (show fixV x frac = 0 by simp [fixV, hr])
    have HE := Aside0.mk (show fixE x frac = 2 by simp [fixE, hr])
    rw [HV.out, HE.out]
    clear HV HE hok
    by_cases h0 : frac < 0
    · have hd : decide (frac < 0) = true := decide_eq_true h0
      clear hr h0
      go_enter Try.func16, Try.ntmps16
      go_wp2
      go_ret2
      exact ⟨rfl, Below.refl _ _⟩
    · have hd : decide (frac < 0) = false := decide_eq_false h0
      have hd2 : decide (frac > 15) = true := by simp; omega
      clear hr h0
      go_enter Try.func16, Try.ntmps16
      go_wp2
      go_ret2
      exact ⟨rfl, Below.refl _ _⟩
  · have hd : decide (frac < 0) = false := by simp; omega
    have hd2 : decide (frac > 15) = false := by simp; omega
    obtain ⟨f, rfl⟩ : ∃ f : Nat, frac = f := ⟨frac.toNat, by omega⟩
    have hf : f ≤ 15 := by omega
    have hnan := order_self x.toNat
    cases hn : nanF x.toNat
    · rw [Int.toNat_natCast] at hok
      obtain ⟨hs, hn2, hi⟩ := hok (by omega) (by omega) hn
      have HV := Aside0.mk (show fixV x (f : Int) = if inF (wholeF (scaled x.toNat f)) then (floatToIntVal .f64 (wholeF (scaled x.toNat f)) .i16).getD 0 else 0 by simp [fixV, hn]; omega)
      have HE := Aside0.mk (show fixE x (f : Int) = if inF (wholeF (scaled x.toNat f)) then 0 else 11 by simp [fixE, hn]; omega)
      rw [HV.out, HE.out]
      rw [hn] at hnan
      clear HV HE hok hr hn
      have hmul := run_mulF 72 x.toNat (floatOfInt .f64 (2 ^ f)) hs
      have hrte := run_rte (scaled x.toNat f) hn2
      have hw : wrap64 (2 ^ f) = 2 ^ f := by
        have : f = 0 ∨ f = 1 ∨ f = 2 ∨ f = 3 ∨ f = 4 ∨ f = 5 ∨ f = 6 ∨ f = 7 ∨ f = 8 ∨ f = 9 ∨ f = 10 ∨ f = 11 ∨ f = 12 ∨ f = 13 ∨ f = 14 ∨ f = 15 := by omega
        rcases this with rfl | rfl | rfl | rfl | rfl | rfl | rfl | rfl | rfl | rfl | rfl | rfl | rfl | rfl | rfl | rfl <;> (unfold wrap64; decide)
      change ∀ w, _ = Result.ok (Value.float FloatKind.f64 (scaled x.toNat f)) w at hmul
      generalize scaled x.toNat f = sc at *
      generalize wholeF sc = r at *
      obtain ⟨o1, ho1⟩ : ∃ o, FloatKind.f64.format.order r 13898108450065350656 = o := ⟨_, rfl⟩
      obtain ⟨o2, ho2⟩ : ∃ o, FloatKind.f64.format.order r 4674736138332667904 = o := ⟨_, rfl⟩
      have HI := Aside0.mk (show inF r = ((o1 == some .gt || o1 == some .eq) && (o2 == some .lt || o2 == some .eq)) by rw [← ho1, ← ho2]; rfl)
      clear hs hn2
      cases hin : inF r
      · rw [hin] at HI
        clear hi
        simp only [Bool.false_eq_true, if_false]
        have H1 := HI.out
        clear HI
        rcases o1 with _ | _ | _ | _ <;> rcases o2 with _ | _ | _ | _
        all_goals first
          | (exfalso; revert H1; decide)
          | (clear H1 hin
             go_enter Try.func16, Try.ntmps16
             go_wp2
             go_ret2
             exact ⟨rfl, Below.refl _ _⟩)
      · obtain ⟨z, hz⟩ := Option.isSome_iff_exists.1 (hi hin)
        have hcv := fun W => run_convert_float_int (P := Try.prog) W 72 24 .f64 .i16 r z rfl Try.underlying24 hz
        rw [hin] at HI
        have HZ := Aside0.mk hz
        rw [if_pos rfl, if_pos rfl, HZ.out, Option.getD_some]
        have H1 := HI.out
        clear hi hz HI
        rcases o1 with _ | _ | _ | _ <;> rcases o2 with _ | _ | _ | _
        all_goals first
          | (exfalso; revert H1; decide)
          | (clear H1 hin
             go_enter Try.func16, Try.ntmps16
             go_wp2
             go_ret2
             exact ⟨rfl, Below.refl _ _⟩)
    · have HV := Aside0.mk (show fixV x (f : Int) = 0 by simp [fixV, hn])
      have HE := Aside0.mk (show fixE x (f : Int) = 2 by simp [fixE, hn])
      rw [HV.out, HE.out]
      rw [hn] at hnan
      clear HV HE hok hr hn
      go_enter Try.func16, Try.ntmps16
      go_wp2
      go_ret2
      exact ⟨rfl, Below.refl _ _⟩

end Go.Proofs.Ytkogapmggicanaa.G
