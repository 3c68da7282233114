/- Contracts of the package vec: CheckWide, pair, Dist. -/
import Derived.Test.YtcgpkfpfpjclkaaVecA
namespace Go.Proofs.Ytcgpkfpfpjclkaa.G
open Go.RowKit Go.Shelf Go.Proofs.YtcgpkfpfpjclkaaW.PrintWords
set_option linter.unusedVariables false
set_option linter.unusedSimpArgs false

theorem ContainsFunc_i32 (A0 : Option Addr) (n c0 : Nat) (g : Nat) (lb : Array Value) (vs : Nat → Value) (p : Nat → Bool) (w : World) (eg : Enters Try.prog g)
    (hn : n ≤ 9223372036854775807) (hc : ∀ j, j < n → ∃ ad, A0 = some ad ∧ w.cell? (ad.add j) = some (vs j)) (hp : PredAtRow g lb vs p n w) :
    Calls Try.prog 49 #[.slice A0 n c0, .func (.func g) #[] lb] w fun e w' => e = .returned (.bool (anyIdx p n)) ∧ Below w.heap.size w w' := by
  have hcall := IndexFunc_i32 A0 n c0 g lb vs p w eg hn hc hp
  have HG := Aside0.mk (firstIdx_ge p n)
  clear hc hp eg
  generalize firstIdx p n = z at hcall HG
  go_enter Try.func49, Try.ntmps49
  go_wp2_with (go_at_call 56; refine hcall.mono ?_; rintro e w' ⟨rfl, hb'⟩; have HB' := Aside0.mk hb'; clear hb')
  go_ret
  exact ⟨by rw [← HG.out]; rfl, HB'.out⟩

def beyond (x : Int) : Bool := decide (x < -131072) || decide (x > 131072)
theorem beyond_calls (a0 : Int) (w : World) :
    Calls Try.prog 50 #[.int .i32 a0] w fun e w' => e = .returned (.bool (beyond a0)) ∧ Drawn0 w w' := by
  by_cases h : a0 < -131072
  · have h1 : decide (a0 < (-131072)) = true := decide_eq_true h
    have h2 : beyond a0 = true := by simp [beyond, h]
    clear h
    rw [h2]
    clear h2
    go_enter Try.func50, Try.ntmps50
    go_wp2
    go_ret
    exact ⟨rfl, Drawn0.refl _⟩
  · have h1 : decide (a0 < (-131072)) = false := decide_eq_false h
    have h2 : beyond a0 = decide (a0 > 131072) := by simp [beyond, h]
    clear h
    rw [h2]
    clear h2
    go_enter Try.func50, Try.ntmps50
    go_wp2
    go_ret
    exact ⟨rfl, Drawn0.refl _⟩

def checkWide (l : List Int) : Int := if l.length < 1 ∨ l.length > 1024 then 2 else if l.any beyond then 11 else 0
theorem anyIdx_list (l : List Int) (q : Int → Bool) : anyIdx (fun j => q (l.getD j 0)) l.length = l.any q := by
  unfold anyIdx
  rw [Bool.eq_iff_iff, List.any_eq_true, List.any_eq_true]
  constructor
  · rintro ⟨j, hj, hq⟩
    rw [List.mem_range] at hj
    exact ⟨l[j], List.getElem_mem hj, by simpa [List.getD_eq_getElem?_getD, List.getElem?_eq_getElem hj] using hq⟩
  · rintro ⟨x, hx, hq⟩
    obtain ⟨j, hj, rfl⟩ := List.mem_iff_getElem.1 hx
    exact ⟨j, List.mem_range.2 hj, by simpa [List.getD_eq_getElem?_getD, List.getElem?_eq_getElem hj] using hq⟩

theorem CheckWide_calls (A0 : Option Addr) (c0 : Nat) (l0 : List Int) (w : World) (hr0 : Kd.C (Kd.int .i32) w A0 l0.length l0) :
    Calls Try.prog 36 #[.slice A0 l0.length c0] w fun e w' => e = .returned (.int .i64 (checkWide l0)) ∧ Below w.heap.size w w' := by
  have hmax := C_max hr0
  have hcall := fun W (hB : Below w.heap.size w W) => ContainsFunc_i32 A0 l0.length c0 50 #[] (fun j => .int .i32 (l0.getD j 0)) (fun j => beyond (l0.getD j 0)) W (enters_of Try.func50 (by kernel_rfl) rfl) hmax (C_ints (Kd.C_below hr0 hB))
    (fun j _ W2 hb2 => (beyond_calls _ W2).mono fun e w' ⟨he, hd⟩ => ⟨he, bcomp hb2 hd.below⟩)
  rw [anyIdx_list] at hcall
  have HC := Aside0.mk hcall
  clear hcall hr0
  by_cases h1 : l0.length < 1
  · have hd : decide ((l0.length : Int) < 1) = true := by simp; omega
    have HF := Aside0.mk (show checkWide l0 = 2 by simp [checkWide, h1])
    clear h1
    go_enter Try.func36, Try.ntmps36
    go_wp2
    go_ret
    exact ⟨by rw [HF.out]; rfl, Below.refl _ _⟩
  · by_cases h2 : l0.length > 1024
    · have hd : decide ((l0.length : Int) < 1) = false := by simp; omega
      have HF := Aside0.mk (show checkWide l0 = 2 by simp [checkWide, h1, h2])
      go_enter Try.func36, Try.ntmps36
      go_wp2
      go_ret
      exact ⟨by rw [HF.out]; rfl, Below.refl _ _⟩
    · have hd : decide ((l0.length : Int) < 1) = false := by simp; omega
      have hd2 : decide ((l0.length : Int) > 1024) = false := by simp; omega
      cases hq : l0.any beyond
      · have HF := Aside0.mk (show checkWide l0 = 0 by simp [checkWide, h1, h2, hq])
        rw [hq] at HC
        clear hq
        go_enter Try.func36, Try.ntmps36
        go_wp2_with (go_at_call 49; refine (HC.out _ (Below.refl _ _)).mono ?_; rintro e w' ⟨rfl, hb'⟩; have HB' := Aside0.mk hb'; clear hb')
        go_ret
        exact ⟨by rw [HF.out]; rfl, HB'.out⟩
      · have HF := Aside0.mk (show checkWide l0 = 11 by simp [checkWide, h1, h2, hq])
        rw [hq] at HC
        clear hq
        go_enter Try.func36, Try.ntmps36
        go_wp2_with (go_at_call 49; refine (HC.out _ (Below.refl _ _)).mono ?_; rintro e w' ⟨rfl, hb'⟩; have HB' := Aside0.mk hb'; clear hb')
        go_ret
        exact ⟨by rw [HF.out]; rfl, HB'.out⟩

end Go.Proofs.Ytcgpkfpfpjclkaa.G
