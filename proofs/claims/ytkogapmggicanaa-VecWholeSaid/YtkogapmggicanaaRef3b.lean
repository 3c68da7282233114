/- Contracts of the reference of vec: Dist, with, Sub, Add, Wide, Same. -/
import Derived.Test.YtkogapmggicanaaRef3
import Derived.Test.YtkogapmggicanaaReg
import Derived.Deep.RegionLaw
namespace Go.Proofs.Ytkogapmggicanaa.G
open Go.RowKit Go.Shelf Go.Proofs.YtkogapmggicanaaW.PrintWords
set_option linter.unusedVariables false
set_option linter.unusedSimpArgs false

theorem RDist_calls (A0 : Option Addr) (c0 : Nat) (l0 : List Int) (A1 : Option Addr) (c1 : Nat) (l1 : List Int) (w : World) (hr0 : Kd.C (Kd.int .i32) w A0 l0.length l0) (hr1 : Kd.C (Kd.int .i32) w A1 l1.length l1) :
    Calls Try.prog 32 #[.slice A0 l0.length c0, .slice A1 l1.length c1] w fun e w' => e = .returned (.tuple #[.int .i64 (distV l0 l1), .int .i64 (pairE l0 l1)]) ∧ Below w.heap.size w w' := by
  have hmax := C_max hr0
  have hmax1 := C_max hr1
  have hcall := both_calls A0 c0 l0 A1 c1 l1 w hr0 hr1
  by_cases hz : pairE l0 l1 = 0
  · obtain ⟨hw0, hw1, hl⟩ := pairE_ok hz
    obtain ⟨_, hn, hwa⟩ := wide_of hw0
    obtain ⟨_, _, hwb⟩ := wide_of hw1
    have HF := Aside0.mk (show distV l0 l1 = distTo l0 l1 l0.length by simp [distV, hz])
    have HB := Aside0.mk (distTo_bound (n := l0.length) hwa (fun j hj => hwb j (by omega)))
    have HA := Aside0.mk hwa
    have HA1 := Aside0.mk hwb
    have HL := Aside0.mk hl
    have HC := Aside0.mk (C_ints hr0)
    have HC1 := Aside0.mk (C_ints hr1)
    rw [HF.out]
    rw [hz] at hcall ⊢
    clear hz hw0 hw1 hl hwa hwb hr0 hr1 HF
    go_enter Try.func32, Try.ntmps32
    go_wp2_with (go_at_call 73; refine hcall.mono ?_; rintro e w1 ⟨rfl, hb'⟩; have HB' := Aside0.mk hb'; clear hb')
    go_loopw [7, 8, 9] (fun s v _ wr => ∃ k : Nat, k ≤ l0.length ∧ v = .int .i64 k ∧ s = .int .i64 (distTo l0 l1 k) ∧ Aside0 (Below w.heap.size w wr)) (fun _ v _ _ => l0.length - (intOf v).toNat)
    case atStart => exact ⟨0, by omega, rfl, rfl, HB'⟩
    case round =>
      clear HB'
      obtain ⟨k, hk, rfl, rfl, HBe⟩ := hrel
      by_cases hlt : k < l0.length
      · obtain ⟨ad, rfl, hx⟩ := HC.out k hlt
        obtain ⟨ad1, rfl, hy⟩ := HC1.out k (by have := HL.out; omega)
        have hx := pw_cell_below HBe.out hx
        have hy := pw_cell_below HBe.out hy
        obtain ⟨hd0, hd1⟩ := HB.out k hk
        have hwx := HA.out k hlt
        have hwy := HA1.out k (by have := HL.out; omega)
        obtain ⟨hs0, hs1⟩ := sq_bound hwx hwy
        have HS := Aside0.mk (show distTo l0 l1 (k + 1) = distTo l0 l1 k + sq (l0.getD k 0) (l1.getD k 0) from rfl)
        have hlt1 : k < l1.length := by have := HL.out; omega
        generalize l0.getD k 0 = x at *
        generalize l1.getD k 0 = y at *
        generalize distTo l0 l1 k = dk at *
        obtain ⟨hx1, hx2⟩ := hwx
        obtain ⟨hy1, hy2⟩ := hwy
        unfold sq at hs0 hs1
        go_wp2
        go_quiet (fail)
        go_wp2
        go_roundw
        case rel => exact ⟨k + 1, by omega, by go_num, by rw [HS.out]; rfl, ⟨pw_below_drewN HBe.out _⟩⟩
        case measure => simp [intOf]; omega
      · obtain rfl : k = l0.length := by omega
        go_wp2
        go_ret2
        exact ⟨rfl, HBe.out⟩
  · have HF := Aside0.mk (show distV l0 l1 = 0 by simp [distV, hz])
    rw [HF.out]
    have hz2 : (pairE l0 l1 != 0) = true := by simpa using hz
    clear hz HF hr0 hr1
    generalize pairE l0 l1 = z at *
    go_enter Try.func32, Try.ntmps32
    go_wp2_with (go_at_call 73; refine hcall.mono ?_; rintro e w1 ⟨rfl, hb'⟩; have HB' := Aside0.mk hb'; clear hb')
    go_ret2
    exact ⟨rfl, HB'.out⟩


/-! ### with -/
/-- append in a region that draws: its run known. -/
theorem step_append_eq {P : Program} {w w1 : World} {ops : Array Oper} {o : Oper} {a : Act} {K : Act → World → Prop} {Q : Exit → Act → World → Prop} {E : Prop} {v u v1 : Value} {ty t1 t2 : TypeId} {s x : Operand}
    (hr : (Builtin.append_ #[t1, t2] ty #[v, u]).run P w = .ok v1 w1) (hgd : o.guard = none) (ho : o.op = .call { callee := .builtin .append, args := #[s, x], argTypes := #[t1, t2] }) (hty : o.type = ty) (hs : a.eval s = v) (hx : a.eval x = u)
    (hn : K (a.put o.dst v1) w1) : if Region.wanted o (yielded ops a.tmps) = true then Oper.wp P o a w K Q else E := by
  subst hty
  rw [if_pos (by simp [Region.wanted, hgd])]
  unfold Oper.wp execOp
  simp only [ho, resolve, invoke, builtin, Sem.run_bind, Sem.run_pure, Result.andThen_ok, List.map_toArray, List.map_cons, List.map_nil, hs, hx, hr]
  exact hn
theorem app_below {w0 W w1 : World} {base : Nat} {e : TypeId} {n : Nat} {v : Value} {xs : List Value} {o : Obj} (HB : Below base w0 W) (hb : base ≤ W.heap.size) (HO : W.ownsRow base e 1 v n xs) (hg : (W.alloc o).grownBy w1 v.ownBlock) : Below base w0 w1 :=
  (HB.alloc hb _).grown hg (by simp; omega) (own_base HO)

def withH (t x y : Int) : Int := IntKind.i32.wrap (x + IntKind.i32.wrap (t * y))
theorem wrap_32 (y : Int) : IntKind.i32.wrap y = wrap32 y := by
  unfold wrap32
  simp [IntKind.wrap, IntKind.signed, IntKind.bits]
  omega
theorem alongTo_succ (h : Int → Int → Int) (a b : List Int) (k : Nat) : alongTo h a b (k + 1) = alongTo h a b k ++ [h (a.getD k 0) (b.getD k 0)] := by
  simp [alongTo, List.range_succ]
set_option maxRecDepth 100000 in
set_option maxHeartbeats 2000000 in
theorem with_calls (A0 : Option Addr) (c0 : Nat) (l0 : List Int) (A1 : Option Addr) (c1 : Nat) (l1 : List Int) (t : Int) (w : World) (hr0 : Kd.C (Kd.int .i32) w A0 l0.length l0) (hr1 : Kd.C (Kd.int .i32) w A1 l1.length l1) :
    Calls Try.prog 74 #[.slice A0 l0.length c0, .slice A1 l1.length c1, .int .i32 t] w fun e w' => ∃ v : Value, e = .returned (.tuple #[v, .int .i64 (alongE (withH t) l0 l1)]) ∧
      Kd.R (Kd.int .i32) 21 w' w.heap.size (fun _ => True) v (alongL (withH t) l0 l1) ∧ Below w.heap.size w w' := by
  have hmax := C_max hr0
  have hcall := both_calls A0 c0 l0 A1 c1 l1 w hr0 hr1
  by_cases hz : pairE l0 l1 = 0
  · obtain ⟨hw0, hw1, hl⟩ := pairE_ok hz
    obtain ⟨hn1, hn, _⟩ := wide_of hw0
    have HL := Aside0.mk hl
    have HC := Aside0.mk (C_ints hr0)
    have HC1 := Aside0.mk (C_ints hr1)
    have HZ := Aside0.mk hz
    rw [hz] at hcall
    clear hz hw0 hw1 hl hr0 hr1
    go_enter Try.func74, Try.ntmps74
    go_wp2_with (go_at_call 73; refine hcall.mono ?_; rintro e w1 ⟨rfl, hb'⟩; have HB' := Aside0.mk hb'; clear hb')
    go_loopw [9, 10] (fun v i wr => ∃ k : Nat, k ≤ l0.length ∧ i = .int .i64 k ∧ Aside0 (Below w.heap.size w wr) ∧
      Aside0 (wr.ownsRow w.heap.size 21 1 v k (nums .i32 (alongTo (withH t) l0 l1 k)))) (fun _ i _ => l0.length - (intOf i).toNat)
    case atStart => exact ⟨0, by omega, rfl, HB', ⟨World.ownsRow_nil _ _ _ _⟩⟩
    case round =>
      obtain ⟨k, hk, rfl, HBe, HO⟩ := hrel
      by_cases hlt : k < l0.length
      · obtain ⟨ad, rfl, hx⟩ := HC.out k hlt
        obtain ⟨ad1, rfl, hy⟩ := HC1.out k (by have := HL.out; omega)
        have hx := pw_cell_below HBe.out hx
        have hy := pw_cell_below HBe.out hy
        have hlt1 : k < l1.length := by have := HL.out; omega
        have hki : (k : Int) < (l0.length : Int) := by omega
        have hki1 : (k : Int) < (l1.length : Int) := by omega
        have HTs := Aside0.mk (alongTo_succ (withH t) l0 l1 k)
        generalize l0.getD k 0 = x at *
        generalize l1.getD k 0 = y at *
        obtain ⟨v1, w2, hap, hown1, hgrow⟩ := app1_run 33 21 .i32 4 Try.underlying33 info_i32 w.heap.size wr.drew _ (alongTo (withH t) l0 l1 k) (withH t x y) (by rw [alongTo_length]; exact HO.out) (by rw [alongTo_length]; omega) (by rw [alongTo_length]; omega) HBe.out.size
        have HB2 := Aside0.mk (app_below HBe.out.drew HBe.out.size (HO.out : wr.drew.ownsRow _ _ _ _ _ _) hgrow)
        have HO2 := Aside0.mk (show w2.ownsRow w.heap.size 21 1 v1 (k + 1) (nums .i32 (alongTo (withH t) l0 l1 (k + 1))) by rw [HTs.out]; rw [alongTo_length] at hown1; exact hown1)
        have HAP := Aside0.mk hap
        clear hap hown1 hgrow
        go_wp2
        go_region_law (refine step_append_eq HAP.out rfl rfl rfl rfl rfl ?_)
        all_goals
          go_wp2
          go_roundw
          case rel => exact ⟨k + 1, by omega, by go_num, HB2, HO2⟩
          case measure => simp [intOf]; omega
      · obtain rfl : k = l0.length := by omega
        have hR := R_nums HO.out (alongTo_length (withH t) l0 l1 l0.length)
        obtain ⟨A2, c2, rfl, hl2, hC2⟩ := Kd.R_reads hR
        have hcon := RCheckWide_calls A2 c2 _ wr hC2
        have hce : checkWide (alongTo (withH t) l0 l1 l0.length) = if (alongTo (withH t) l0 l1 l0.length).any beyond then 11 else 0 := by
          unfold checkWide
          rw [alongTo_length, if_neg (by omega)]
        have HR := Aside0.mk hR
        clear hR HO HC HC1 hC2 hl2
        cases hq : (alongTo (withH t) l0 l1 l0.length).any beyond
        · have HE := Aside0.mk (show alongE (withH t) l0 l1 = 0 by simp [alongE, HZ.out, hq])
          have HV := Aside0.mk (show alongL (withH t) l0 l1 = alongTo (withH t) l0 l1 l0.length by simp [alongL, HE.out])
          rw [hce, hq] at hcon
          simp only [Bool.false_eq_true, if_false] at hcon
          clear hq hce
          go_wp2_with (go_at_call 37; refine hcon.mono ?_; rintro e w' ⟨rfl, hb'⟩; have HB2 := Aside0.mk hb'; clear hb')
          go_ret2
          exact ⟨_, by rw [HE.out]; rfl, by rw [HV.out]; exact Kd.R_below HR.out HB2.out, bcomp HBe.out HB2.out⟩
        · have HE := Aside0.mk (show alongE (withH t) l0 l1 = 11 by simp [alongE, HZ.out, hq])
          have HV := Aside0.mk (show alongL (withH t) l0 l1 = [] by simp [alongL, HE.out])
          rw [hce, hq] at hcon
          simp only [if_true] at hcon
          clear hq hce
          go_wp2_with (go_at_call 37; refine hcon.mono ?_; rintro e w' ⟨rfl, hb'⟩; have HB2 := Aside0.mk hb'; clear hb')
          go_ret2
          exact ⟨_, by rw [HE.out]; rfl, by rw [HV.out]; exact Kd.R_nil _ _ _ _ _, bcomp HBe.out HB2.out⟩
  · have HE := Aside0.mk (show alongE (withH t) l0 l1 = pairE l0 l1 by simp [alongE, hz])
    have HV := Aside0.mk (show alongL (withH t) l0 l1 = [] by simp [alongL, HE.out, hz])
    have hz2 : (pairE l0 l1 != 0) = true := by simpa using hz
    clear hz hr0 hr1
    generalize pairE l0 l1 = z at *
    go_enter Try.func74, Try.ntmps74
    go_wp2_with (go_at_call 73; refine hcall.mono ?_; rintro e w1 ⟨rfl, hb'⟩; have HB' := Aside0.mk hb'; clear hb')
    go_ret2
    exact ⟨_, by rw [HE.out]; rfl, by rw [HV.out]; exact Kd.R_nil _ _ _ _ _, HB'.out⟩
theorem withH_add : withH 1 = addW := by
  funext x y
  unfold withH addW
  simp only [wrap_32]
  unfold wrap32
  omega
theorem withH_sub : withH (-1) = subW := by
  funext x y
  unfold withH subW
  simp only [wrap_32]
  unfold wrap32
  omega
theorem RAdd_calls (A0 : Option Addr) (c0 : Nat) (l0 : List Int) (A1 : Option Addr) (c1 : Nat) (l1 : List Int) (w : World) (hr0 : Kd.C (Kd.int .i32) w A0 l0.length l0) (hr1 : Kd.C (Kd.int .i32) w A1 l1.length l1) :
    Calls Try.prog 34 #[.slice A0 l0.length c0, .slice A1 l1.length c1] w fun e w' => ∃ v : Value, e = .returned (.tuple #[v, .int .i64 (alongE addW l0 l1)]) ∧
      Kd.R (Kd.int .i32) 21 w' w.heap.size (fun _ => True) v (alongL addW l0 l1) ∧ Below w.heap.size w w' := by
  have hcall := with_calls A0 c0 l0 A1 c1 l1 1 w hr0 hr1
  rw [withH_add] at hcall
  clear hr0 hr1
  go_enter Try.func34, Try.ntmps34
  go_wp2_with (go_at_call 74; refine hcall.mono ?_; rintro e w1 ⟨v, rfl, hR, hb'⟩; have HR := Aside0.mk hR; have HB' := Aside0.mk hb'; clear hb' hR)
  go_ret2
  exact ⟨_, rfl, HR.out, HB'.out⟩
theorem RSub_calls (A0 : Option Addr) (c0 : Nat) (l0 : List Int) (A1 : Option Addr) (c1 : Nat) (l1 : List Int) (w : World) (hr0 : Kd.C (Kd.int .i32) w A0 l0.length l0) (hr1 : Kd.C (Kd.int .i32) w A1 l1.length l1) :
    Calls Try.prog 33 #[.slice A0 l0.length c0, .slice A1 l1.length c1] w fun e w' => ∃ v : Value, e = .returned (.tuple #[v, .int .i64 (alongE subW l0 l1)]) ∧
      Kd.R (Kd.int .i32) 21 w' w.heap.size (fun _ => True) v (alongL subW l0 l1) ∧ Below w.heap.size w w' := by
  have hcall := with_calls A0 c0 l0 A1 c1 l1 (-1) w hr0 hr1
  rw [withH_sub] at hcall
  clear hr0 hr1
  go_enter Try.func33, Try.ntmps33
  go_wp2_with (go_at_call 74; refine hcall.mono ?_; rintro e w1 ⟨v, rfl, hR, hb'⟩; have HR := Aside0.mk hR; have HB' := Aside0.mk hb'; clear hb' hR)
  go_ret2
  exact ⟨_, rfl, HR.out, HB'.out⟩

end Go.Proofs.Ytkogapmggicanaa.G
