/- Contracts of the package vec: along, Add, Sub. -/
import Derived.Test.YtkogapmggicanaaVecC
namespace Go.Proofs.Ytkogapmggicanaa.G
open Go.RowKit Go.Shelf Go.Proofs.YtkogapmggicanaaW.PrintWords
set_option linter.unusedVariables false
set_option linter.unusedSimpArgs false

/-- Number by number, the first k. -/
def alongTo (h : Int → Int → Int) (a b : List Int) (k : Nat) : List Int := (List.range k).map fun j => h (a.getD j 0) (b.getD j 0)
/-- What along tells. -/
def alongE (h : Int → Int → Int) (a b : List Int) : Int := if pairE a b ≠ 0 then pairE a b else if (alongTo h a b a.length).any beyond then 11 else 0
def alongL (h : Int → Int → Int) (a b : List Int) : List Int := if alongE h a b = 0 then alongTo h a b a.length else []

theorem alongTo_length (h : Int → Int → Int) (a b : List Int) (k : Nat) : (alongTo h a b k).length = k := by simp [alongTo]
theorem along_step (h : Int → Int → Int) (a b : List Int) (k n : Nat) (hk : k < n) :
    (alongTo h a b k ++ List.replicate (n - k) 0).set k (h (a.getD k 0) (b.getD k 0)) = alongTo h a b (k + 1) ++ List.replicate (n - (k + 1)) 0 := by
  have e : n - k = (n - (k + 1)) + 1 := by omega
  rw [e, List.replicate_succ, List.set_append_right _ _ (by rw [alongTo_length]; exact Nat.le_refl _), alongTo_length, Nat.sub_self, List.set_cons_zero]
  simp only [alongTo, List.range_succ, List.map_append, List.map_cons, List.map_nil, List.append_assoc, List.cons_append, List.nil_append]
theorem along_calls (A0 : Option Addr) (c0 : Nat) (l0 : List Int) (A1 : Option Addr) (c1 : Nat) (l1 : List Int) (g : Nat) (h : Int → Int → Int) (w : World) (hr0 : Kd.C (Kd.int .i32) w A0 l0.length l0) (hr1 : Kd.C (Kd.int .i32) w A1 l1.length l1)
    (eg : Enters Try.prog g) (hg : ∀ x y W, Calls Try.prog g #[.int .i32 x, .int .i32 y] W fun e W' => e = .returned (.int .i32 (h x y)) ∧ W = W') :
    Calls Try.prog 64 #[.slice A0 l0.length c0, .slice A1 l1.length c1, .func (.func g) #[] #[]] w fun e w' => ∃ v : Value, e = .returned (.tuple #[v, .int .i64 (alongE h l0 l1)]) ∧
      Kd.R (Kd.int .i32) 21 w' w.heap.size (fun _ => True) v (alongL h l0 l1) ∧ Below w.heap.size w w' := by
  have hmax := C_max hr0
  have hmax1 := C_max hr1
  have hcall := pair_calls A0 c0 l0 A1 c1 l1 w hr0 hr1
  by_cases hz : pairE l0 l1 = 0
  · obtain ⟨hw0, hw1, hl⟩ := pairE_ok hz
    obtain ⟨hn1, hn, _⟩ := wide_of hw0
    have HL := Aside0.mk hl
    have HC := Aside0.mk (C_ints hr0)
    have HC1 := Aside0.mk (C_ints hr1)
    have HZ := Aside0.mk hz
    have HG := Aside0.mk hg
    rw [hz] at hcall
    unfold Enters at eg
    clear hz hw0 hw1 hl hr0 hr1 hg
    have hmk := print_make 33 21 .i32 4 Try.underlying33 info_i32 (by decide) l0.length (by omega)
    go_enter Try.func64, Try.ntmps64
    go_wp2_with (go_at_call 63; refine hcall.mono ?_; rintro e w1 ⟨rfl, hb'⟩; have HB' := Aside0.mk hb'; clear hb')
    go_loopw [10, 22] (fun _ v wr => ∃ k : Nat, k ≤ l0.length ∧ v = .int .i64 k ∧ Aside0 (Below w.heap.size w wr) ∧
      Aside0 (wr.ownsRow w.heap.size 21 1 (.slice (some ⟨w1.heap.size, 0, none⟩) l0.length l0.length) l0.length (nums .i32 (alongTo h l0 l1 k ++ List.replicate (l0.length - k) 0)))) (fun _ v _ => l0.length - (intOf v).toNat)
    case atStart =>
      exact ⟨0, by omega, rfl, ⟨HB'.out.alloc HB'.out.size _⟩, ⟨by simpa [alongTo] using own_made w1 w.heap.size 21 .i32 l0.length HB'.out.size (by omega)⟩⟩
    case round =>
      obtain ⟨k, hk, rfl, HBe, HO⟩ := hrel
      by_cases hlt : k < l0.length
      · obtain ⟨ad, rfl, hx⟩ := HC.out k hlt
        obtain ⟨ad1, rfl, hy⟩ := HC1.out k (by have := HL.out; omega)
        have hx := pw_cell_below HBe.out hx
        have hy := pw_cell_below HBe.out hy
        have hlt1 : k < l1.length := by have := HL.out; omega
        obtain ⟨hcell, hfree⟩ := own_at HO.out (k : Int) (by omega) (by omega)
        have HS := Aside0.mk (own_store HO.out (k : Int) (h (l0.getD k 0) (l1.getD k 0)))
        have HLs := Aside0.mk (along_step h l0 l1 k l0.length hlt)
        generalize l0.getD k 0 = x at *
        generalize l1.getD k 0 = y at *
        rw [Int.toNat_natCast] at hcell hfree HS
        go_wp2
        go_region_with (go_at_fn g; refine (HG.out _ _ _).mono ?_; rintro e w' ⟨rfl, rfl⟩)
        all_goals
          go_wp2
          go_roundw
          case rel =>
            refine ⟨k + 1, by omega, by go_num, ⟨(HBe.out.setCell (p := ⟨w1.heap.size, k, none⟩) HB'.out.size _).drew⟩, ⟨?_⟩⟩
            have := HS.out.1
            rw [HLs.out] at this
            exact this
          case measure => simp [intOf]; omega
      · obtain rfl : k = l0.length := by omega
        have HO2 := HO.out
        rw [Nat.sub_self, List.replicate_zero, List.append_nil] at HO2
        have hR := R_nums HO2 (alongTo_length h l0 l1 l0.length)
        have hcon := ContainsFunc_i32 (some ⟨w1.heap.size, 0, none⟩) l0.length l0.length 70 #[] (fun j => .int .i32 ((alongTo h l0 l1 l0.length).getD j 0)) (fun j => beyond ((alongTo h l0 l1 l0.length).getD j 0)) wr (enters_of Try.func70 (by kernel_rfl) rfl) hmax
          (by have := C_ints (R_C hR).1; rwa [alongTo_length] at this)
          (fun j _ W2 hb2 => (beyond_calls _ W2).mono fun e w' ⟨he, hd⟩ => ⟨he, bcomp hb2 hd.below⟩)
        have hany := anyIdx_list (alongTo h l0 l1 l0.length) beyond
        rw [alongTo_length] at hany
        rw [hany] at hcon
        have HR := Aside0.mk hR
        clear hR HO2 hany HO HC HC1 HG
        cases hq : (alongTo h l0 l1 l0.length).any beyond
        · have HE := Aside0.mk (show alongE h l0 l1 = 0 by simp [alongE, HZ.out, hq])
          have HV := Aside0.mk (show alongL h l0 l1 = alongTo h l0 l1 l0.length by simp [alongL, HE.out])
          rw [hq] at hcon
          clear hq
          go_wp2_with (go_at_call 69; refine hcon.mono ?_; rintro e w' ⟨rfl, hb'⟩; have HB2 := Aside0.mk hb'; clear hb')
          go_ret2
          exact ⟨_, by rw [HE.out]; rfl, by rw [HV.out]; exact Kd.R_below HR.out HB2.out, bcomp HBe.out HB2.out⟩
        · have HE := Aside0.mk (show alongE h l0 l1 = 11 by simp [alongE, HZ.out, hq])
          have HV := Aside0.mk (show alongL h l0 l1 = [] by simp [alongL, HE.out])
          rw [hq] at hcon
          clear hq
          go_wp2_with (go_at_call 69; refine hcon.mono ?_; rintro e w' ⟨rfl, hb'⟩; have HB2 := Aside0.mk hb'; clear hb')
          go_ret2
          exact ⟨_, by rw [HE.out]; rfl, by rw [HV.out]; exact Kd.R_nil _ _ _ _ _, bcomp HBe.out HB2.out⟩
  · have HE := Aside0.mk (show alongE h l0 l1 = pairE l0 l1 by simp [alongE, hz])
    have HV := Aside0.mk (show alongL h l0 l1 = [] by simp [alongL, HE.out, hz])
    have hz2 : (pairE l0 l1 != 0) = true := by simpa using hz
    clear hz hr0 hr1
    generalize pairE l0 l1 = z at *
    go_enter Try.func64, Try.ntmps64
    go_wp2_with (go_at_call 63; refine hcall.mono ?_; rintro e w1 ⟨rfl, hb'⟩; have HB' := Aside0.mk hb'; clear hb')
    go_ret2
    exact ⟨_, by rw [HE.out]; rfl, by rw [HV.out]; exact Kd.R_nil _ _ _ _ _, HB'.out⟩

/-! ### Add, Sub -/
def addW (x y : Int) : Int := wrap32 (x + y)
def subW (x y : Int) : Int := wrap32 (x - y)
theorem Add1_calls (x y : Int) (W : World) : Calls Try.prog 65 #[.int .i32 x, .int .i32 y] W fun e W' => e = .returned (.int .i32 (addW x y)) ∧ W = W' := by
  go_enter Try.func65, Try.ntmps65
  go_wp2
  go_ret
  exact ⟨rfl, rfl⟩
theorem Sub1_calls (x y : Int) (W : World) : Calls Try.prog 72 #[.int .i32 x, .int .i32 y] W fun e W' => e = .returned (.int .i32 (subW x y)) ∧ W = W' := by
  go_enter Try.func72, Try.ntmps72
  go_wp2
  go_ret
  exact ⟨rfl, rfl⟩
theorem Add_calls (A0 : Option Addr) (c0 : Nat) (l0 : List Int) (A1 : Option Addr) (c1 : Nat) (l1 : List Int) (w : World) (hr0 : Kd.C (Kd.int .i32) w A0 l0.length l0) (hr1 : Kd.C (Kd.int .i32) w A1 l1.length l1) :
    Calls Try.prog 24 #[.slice A0 l0.length c0, .slice A1 l1.length c1] w fun e w' => ∃ v : Value, e = .returned (.tuple #[v, .int .i64 (alongE addW l0 l1)]) ∧
      Kd.R (Kd.int .i32) 21 w' w.heap.size (fun _ => True) v (alongL addW l0 l1) ∧ Below w.heap.size w w' := by
  have hcall := along_calls A0 c0 l0 A1 c1 l1 65 addW w hr0 hr1 (enters_of Try.func65 (by kernel_rfl) rfl) Add1_calls
  clear hr0 hr1
  go_enter Try.func24, Try.ntmps24
  go_wp2_with (go_at_call 64; refine hcall.mono ?_; rintro e w1 ⟨v, rfl, hR, hb'⟩; have HR := Aside0.mk hR; have HB' := Aside0.mk hb'; clear hb' hR)
  go_ret2
  exact ⟨_, rfl, HR.out, HB'.out⟩
theorem Sub_calls (A0 : Option Addr) (c0 : Nat) (l0 : List Int) (A1 : Option Addr) (c1 : Nat) (l1 : List Int) (w : World) (hr0 : Kd.C (Kd.int .i32) w A0 l0.length l0) (hr1 : Kd.C (Kd.int .i32) w A1 l1.length l1) :
    Calls Try.prog 31 #[.slice A0 l0.length c0, .slice A1 l1.length c1] w fun e w' => ∃ v : Value, e = .returned (.tuple #[v, .int .i64 (alongE subW l0 l1)]) ∧
      Kd.R (Kd.int .i32) 21 w' w.heap.size (fun _ => True) v (alongL subW l0 l1) ∧ Below w.heap.size w w' := by
  have hcall := along_calls A0 c0 l0 A1 c1 l1 72 subW w hr0 hr1 (enters_of Try.func72 (by kernel_rfl) rfl) Sub1_calls
  clear hr0 hr1
  go_enter Try.func31, Try.ntmps31
  go_wp2_with (go_at_call 64; refine hcall.mono ?_; rintro e w1 ⟨v, rfl, hR, hb'⟩; have HR := Aside0.mk hR; have HB' := Aside0.mk hb'; clear hb' hR)
  go_ret2
  exact ⟨_, rfl, HR.out, HB'.out⟩

end Go.Proofs.Ytkogapmggicanaa.G
