/- Row VecMoves: its walk. -/
import Derived.Test.YtkogapmggicanaaMovesM
import Derived.Test.YtkogapmggicanaaVecSums
import Derived.Test.YtkogapmggicanaaRef3c
namespace Go.Proofs.Ytkogapmggicanaa.G
open Go.RowKit Go.Shelf Go.Proofs.YtkogapmggicanaaW.PrintWords
set_option linter.unusedVariables false
set_option linter.unusedSimpArgs false

/-! ### Pick -/
theorem pick_mod (t n : Int) (hn : 1 ≤ n) : (t.tmod n < 0 → t.tmod n + n = t % n) ∧ (¬ t.tmod n < 0 → t.tmod n = t % n) ∧ -n < t.tmod n ∧ t.tmod n < n := by
  have h1 := Int.emod_nonneg t (show n ≠ 0 by omega)
  have h2 := Int.emod_lt_of_pos t (show 0 < n by omega)
  have e := Int.tmod_eq_emod (a := t) (b := n)
  split at e
  · omega
  · have : ((n.natAbs : Nat) : Int) = n := by omega
    rename_i hc
    have h3 : t % n ≠ 0 := fun h => hc (.inr (Int.dvd_of_emod_eq_zero h))
    omega
theorem Pick_calls (t n : Int) (w : World) (hn : 1 ≤ n) (hn2 : n ≤ 4611686018427387904) :
    Calls Try.prog 18 #[.int .i64 t, .int .i64 n] w fun e w' => e = .returned (.int .i64 (t % n)) ∧ w = w' := by
  obtain ⟨p1, p2, p3, p4⟩ := pick_mod t n hn
  have d : decide (n < 1) = false := by simp; omega
  have d0 : (n == 0) = false := by simp; omega
  have hn0 : ¬ n = 0 := by omega
  by_cases h : t.tmod n < 0
  · have HE := Aside0.mk (p1 h)
    have e1 : decide (t.tmod n < 0) = true := by simpa using h
    rw [← HE.out]
    clear p1 p2 HE
    generalize hr : t.tmod n = r at *
    go_enter Try.func18, Try.ntmps18
    go_wp2
    go_ret
    exact ⟨rfl, rfl⟩
  · have HE := Aside0.mk (p2 h)
    have e1 : decide (t.tmod n < 0) = false := by simpa using h
    rw [← HE.out]
    clear p1 p2 HE
    generalize hr : t.tmod n = r at *
    go_enter Try.func18, Try.ntmps18
    go_wp2
    go_ret
    exact ⟨rfl, rfl⟩

/-! ### two rows that grow, apart -/
def apart (va vb : Value) : Prop := ∀ k, va.ownBlock = some k → vb.ownBlock ≠ some k
theorem apart_kept_l {va vb : Value} (h : apart va vb) : vb.ownBlock = none ∨ vb.ownBlock ≠ va.ownBlock := by
  cases hb : vb.ownBlock with
  | none => exact .inl rfl
  | some k => exact .inr fun e => h k e.symm hb
theorem apart_kept_r {va vb : Value} (h : apart va vb) : va.ownBlock = none ∨ va.ownBlock ≠ vb.ownBlock := by
  cases ha : va.ownBlock with
  | none => exact .inl rfl
  | some k => exact .inr fun e => h k ha e.symm
theorem apart_new_l {W W' : World} {b e s n e2 s2 n2 : Nat} {va vb : Value} {xs ys : List Value} (h : W'.ownsRow W.heap.size e s va n xs) (k : W.ownsRow b e2 s2 vb n2 ys) : apart va vb := fun q h1 h2 => by
  have := own_base h q h1
  have := own_lt k q h2
  omega
theorem apart_new_r {W W' : World} {b e s n e2 s2 n2 : Nat} {va vb : Value} {xs ys : List Value} (h : W'.ownsRow W.heap.size e s vb n xs) (k : W.ownsRow b e2 s2 va n2 ys) : apart va vb := fun q h1 h2 => by
  have := own_base h q h2
  have := own_lt k q h1
  omega
theorem apart_app_l {W : World} {b e s n : Nat} {va vb v1 : Value} {ys : List Value} (h : apart va vb) (hat : v1.ownBlock = va.ownBlock ∨ v1.ownBlock = some W.heap.size) (k : W.ownsRow b e s vb n ys) : apart v1 vb := fun q h1 h2 => by
  rcases hat with h3 | h3
  · exact h q (h3 ▸ h1) h2
  · have := own_lt k q h2
    rw [h3] at h1
    cases h1
    omega
theorem apart_app_r {W : World} {b e s n : Nat} {va vb v1 : Value} {ys : List Value} (h : apart va vb) (hat : v1.ownBlock = vb.ownBlock ∨ v1.ownBlock = some W.heap.size) (k : W.ownsRow b e s va n ys) : apart va v1 := fun q h1 h2 => by
  rcases hat with h3 | h3
  · exact h q h1 (h3 ▸ h2)
  · have := own_lt k q h1
    rw [h3] at h2
    cases h2
    omega
theorem row_lower {W : World} {b b2 e s n : Nat} {v : Value} {xs : List Value} (h : W.ownsRow b e s v n xs) (hb : b2 ≤ b) : W.ownsRow b2 e s v n xs := by
  refine ⟨h.1, ?_⟩
  rcases h.2 with hn | ⟨g, cap, cur, r1, r2, r3⟩
  · exact .inl hn
  · exact .inr ⟨g, cap, cur, r1, by omega, r3⟩
/-- append(v, piece..), as an equation. -/
theorem appP_run (t e : TypeId) (k : IntKind) (bytes : Nat) (ht : Try.prog.underlying t = some (.slice e)) (hinfo : (Try.prog.info? e).map (fun i => (i.zero, i.size, i.bytes)) = some (some (.int k 0), 1, bytes))
    (base : Nat) (W : World) (v : Value) (xs ys : List Int) (ad : Addr) (m c : Nat) (hy : Kd.C (Kd.int k) W (some ad) m ys) (hown : W.ownsRow base e 1 v xs.length (nums k xs)) (hl : (xs.length + m) * bytes ≤ 140737488355328) (h63 : xs.length + m ≤ 9223372036854775807) (hbase : base ≤ W.heap.size) :
    ∃ v1 w1, (Builtin.append_ #[t, t] t #[v, .slice (some ad) m c]).run Try.prog W = .ok v1 w1 ∧ (w1.ownsRow base e 1 v1 (xs ++ ys).length (nums k (xs ++ ys)) ∧ W.grownBy w1 v.ownBlock ∧ (v1.ownBlock = v.ownBlock ∨ v1.ownBlock = some W.heap.size)) := by
  obtain ⟨i0, hi, hzz⟩ := Option.map_eq_some_iff.1 hinfo
  simp only [Prod.mk.injEq] at hzz
  obtain ⟨hz0, hz1, hz2⟩ := hzz
  have hm : ys.length = m := hy.1
  obtain ⟨v1, w1, hr, ho, hg, _, hat⟩ := run_append_own_at (P := Try.prog) W base t t e i0 (.int k 0) 1 bytes ht hi hz0 hz1 hz2 rfl (by decide) v xs.length (nums k xs) hown ad m c (nums k ys) (by simp [nums, hm])
    (fun j u hu => by
      have hj : j < ys.length := by
        have := (List.getElem?_eq_some_iff.1 hu).1
        simpa [nums] using this
      obtain ⟨ad', e', hc⟩ := C_ints hy j (by omega)
      cases e'
      rw [hc]
      simp [nums, List.getElem?_eq_getElem hj] at hu
      rw [List.getD_eq_getElem?_getD, List.getElem?_eq_getElem hj, ← hu]
      rfl) (by simp [nums, Value.oneCell']) (by simpa [maxLen] using h63) hl hbase
  exact ⟨v1, w1, hr, by rw [nums_append, List.length_append, hm]; exact ho, hg, hat⟩
theorem step_app {P : Program} {w : World} {ops : Array Oper} {o : Oper} {a : Act} {K : Act → World → Prop} {Q : Exit → Act → World → Prop} {E : Prop} {v u : Value} {ty t1 t2 : TypeId} {s x : Operand} {Post : Value → World → Prop}
    (hr : ∃ v1 w1, (Builtin.append_ #[t1, t2] ty #[v, u]).run P w = .ok v1 w1 ∧ Post v1 w1) (hgd : o.guard = none) (ho : o.op = .call { callee := .builtin .append, args := #[s, x], argTypes := #[t1, t2] }) (hty : o.type = ty) (hs : a.eval s = v) (hx : a.eval x = u)
    (hn : ∀ v1 w1, Post v1 w1 → K (a.put o.dst v1) w1) : if Region.wanted o (yielded ops a.tmps) = true then Oper.wp P o a w K Q else E := by
  obtain ⟨v1, w1, h1, h2⟩ := hr
  exact step_append_eq h1 hgd ho hty hs hx (hn v1 w1 h2)
/-- The kit's Own, the row itself. -/
theorem Own_row (A0 : Option Addr) (c0 n : Nat) (l0 : List Int) (w : World) (hr0 : Kd.C (Kd.int .i32) w A0 n l0) (hlim : l0.length ≤ 17592186044416) :
    Calls Try.prog 25 #[.slice A0 n c0] w fun e w' => ∃ v : Value, e = .returned v ∧
      w'.ownsRow w.heap.size 21 1 v l0.length (nums .i32 l0) ∧ Below w.heap.size w w' := by
  have hn : l0.length = n := hr0.1
  subst hn
  have hlit := own_lit w w.heap.size 21 .i32 [] (Nat.le_refl _) (by simp)
  have hb0 := (Below.refl w.heap.size w).alloc (Nat.le_refl _) (.cells (nums .i32 []).toArray 21)
  have HR := Aside0.mk (C_reads (Kd.C_below hr0 hb0))
  have HO := Aside0.mk hlit
  have HB := Aside0.mk hb0
  clear hr0 hlit hb0
  go_enter Try.func25, Try.ntmps25
  go_wp2_with (at_builtin; refine print_append_row w.heap.size rfl (.tmp 3) (.tmp 4) 33 21 .i32 4 rfl Try.underlying33 info_i32 (by decide) _ [] l0 _ _ _ rfl rfl HO.out HR.out HB.out HB.out.size (by simp; omega) ?_; intro v1 w1 ho hb hg hat; have HO2 := Aside0.mk ho; have HB2 := Aside0.mk hb; clear ho hb hg hat)
  go_ret
  exact ⟨_, rfl, HO2.out, HB2.out⟩
theorem Dist_rows (W : World) (b1 b2 : Nat) (va vb : Value) (la lb : List Int) (ha : W.ownsRow b1 21 1 va la.length (nums .i32 la)) (hb : W.ownsRow b2 21 1 vb lb.length (nums .i32 lb)) :
    Calls Try.prog 20 #[va, vb] W fun e w' => e = .returned (.tuple #[.int .i64 (distV la lb), .int .i64 (pairE la lb)]) ∧ Below W.heap.size W w' := by
  obtain ⟨A1, c1, rfl, _, hC1⟩ := Kd.R_reads (R_nums ha rfl)
  obtain ⟨A2, c2, rfl, _, hC2⟩ := Kd.R_reads (R_nums hb rfl)
  exact Dist_calls A1 c1 la A2 c2 lb W hC1 hC2

set_option maxRecDepth 100000 in
set_option maxHeartbeats 8000000 in
theorem VecMoves_calls (A0 : Option Addr) (c0 : Nat) (l0 : List Int) (A1 : Option Addr) (c1 : Nat) (l1 : List Int) (A2 : Option Addr) (c2 : Nat) (l2 : List Int) (turn : Int) (w : World)
    (hr0 : Kd.C (Kd.int .i32) w A0 l0.length l0) (hr1 : Kd.C (Kd.int .i32) w A1 l1.length l1) (hr2 : Kd.C (Kd.int .i32) w A2 l2.length l2)
    (hc0 : l0.length ≤ c0 ∧ c0 ≤ 9223372036854775807) (hc1 : l1.length ≤ c1 ∧ c1 ≤ 9223372036854775807) (hc2 : l2.length ≤ c2 ∧ c2 ≤ 9223372036854775807) :
    Calls Try.prog 6 #[.slice A0 l0.length c0, .slice A1 l1.length c1, .slice A2 l2.length c2, .int .i64 turn] w fun e w' => e = .returned (.bool true) ∧ Below w.heap.size w w' := by
  have hm0 := C_max hr0
  have hm1 := C_max hr1
  have hm2 := C_max hr2
  have H0 := Aside0.mk (fun W (hB : Below w.heap.size w W) => Kd.C_below hr0 hB)
  have H1 := Aside0.mk (fun W (hB : Below w.heap.size w W) => Kd.C_below hr1 hB)
  have H2 := Aside0.mk (fun W (hB : Below w.heap.size w W) => Kd.C_below hr2 hB)
  have HA0 := Aside0.mk (show 0 < l0.length → ∃ ad, A0 = some ad from fun h => by obtain ⟨ad, e, _⟩ := C_ints hr0 0 h; exact ⟨ad, e⟩)
  have HA1 := Aside0.mk (show 0 < l1.length → ∃ ad, A1 = some ad from fun h => by obtain ⟨ad, e, _⟩ := C_ints hr1 0 h; exact ⟨ad, e⟩)
  clear hr0 hr1 hr2 hc2
  by_cases h0 : l0.length > 1100
  · have d0 : decide ((l0.length : Int) > 1100) = true := by simp; omega
    clear h0
    go_enter Try.func6, Try.ntmps6
    go_wp2_with fail
    refine (lives03_calls _).mono ?_
    rintro e w1 ⟨rfl, hb⟩
    have HB1 := Aside0.mk hb
    clear hb
    go_wp2_with fail
    go_ret
    exact ⟨rfl, HB1.out⟩
  have d0 : decide ((l0.length : Int) > 1100) = false := by simp; omega
  by_cases h1 : l1.length > 1100
  · have d1 : decide ((l1.length : Int) > 1100) = true := by simp; omega
    clear h1
    go_enter Try.func6, Try.ntmps6
    go_wp2_with fail
    refine (lives03_calls _).mono ?_
    rintro e w1 ⟨rfl, hb⟩
    have HB1 := Aside0.mk hb
    clear hb
    go_wp2_with fail
    go_ret
    exact ⟨rfl, HB1.out⟩
  have d1 : decide ((l1.length : Int) > 1100) = false := by simp; omega
  by_cases h2 : l2.length > 1100
  · have d2 : decide ((l2.length : Int) > 1100) = true := by simp; omega
    clear h2
    go_enter Try.func6, Try.ntmps6
    go_wp2_with fail
    refine (lives03_calls _).mono ?_
    rintro e w1 ⟨rfl, hb⟩
    have HB1 := Aside0.mk hb
    clear hb
    go_wp2_with fail
    go_ret
    exact ⟨rfl, HB1.out⟩
  have d2 : decide ((l2.length : Int) > 1100) = false := by simp; omega
  obtain ⟨E1, hE1⟩ : ∃ E, alongE addW l0 l2 = E := ⟨_, rfl⟩
  obtain ⟨E2, hE2⟩ : ∃ E, alongE addW l1 l2 = E := ⟨_, rfl⟩
  have HE1 := Aside0.mk hE1
  have HE2 := Aside0.mk hE2
  clear hE1 hE2
  by_cases he : pairE l0 l1 = 0
  · obtain ⟨x0, x1, hl⟩ := pairE_ok he
    obtain ⟨hn1, hn2, _⟩ := wide_of x0
    have HP := Aside0.mk he
    have HDE := Aside0.mk he
    have hnz : ((l0.length : Int) == 0) = false := by rw [beq_eq_false_iff_ne]; omega
    obtain ⟨ad0, rfl⟩ := HA0.out (by omega)
    obtain ⟨ad1, rfl⟩ := HA1.out (by omega)
    have hm1 := Int.emod_nonneg turn (show (l0.length : Int) ≠ 0 by omega)
    have hm2 := Int.emod_lt_of_pos turn (show 0 < (l0.length : Int) by omega)
    obtain ⟨kk, hkk⟩ : ∃ kk : Nat, turn % (l0.length : Int) = (kk : Int) := ⟨(turn % (l0.length : Int)).toNat, (Int.toNat_of_nonneg hm1).symm⟩
    have hpk := fun W => Pick_calls turn (l0.length : Int) W (by omega) (by omega)
    rw [hkk] at hpk hm2
    have HPK := Aside0.mk hpk
    have HL := Aside0.mk hl
    have hk0 : kk < l0.length := by omega
    have hk1 : kk < l1.length := by omega
    have hq0 : ¬ c0 = kk := by omega
    have hq1 : ¬ c1 = kk := by omega
    have hz0 : (kk : Int) ≤ (l0.length : Int) := by omega
    have hz1 : (kk : Int) ≤ (l1.length : Int) := by omega
    have hz2 : (kk : Int) ≤ (c0 : Int) := by omega
    have hz3 : (kk : Int) ≤ (c1 : Int) := by omega
    obtain ⟨RP, RD⟩ := rot_pair kk he
    have HRP := Aside0.mk RP
    have HRD := Aside0.mk RD
    have hdd : (distV l0 l1 != distV l0 l1) = false := by simp
    have hde : (distV l0 l1 == distV l0 l1) = true := by simp
    clear he x0 x1 hl hm1 hm2 hkk hpk RP RD HA0 HA1
    go_enter Try.func6, Try.ntmps6
    go_wp2_with fail
    refine (lives03_calls _).mono ?_
    rintro e w1 ⟨rfl, hb⟩
    have HB1 := Aside0.mk hb
    clear hb
    go_wp2_with fail
    have hcl := Dist_calls _ c0 l0 _ c1 l1 _ (H0.out _ HB1.out) (H1.out _ HB1.out)
    rw [HDE.out] at hcl
    refine hcl.mono ?_
    clear hcl
    rintro e w2 ⟨rfl, hb⟩
    have HB2 := Aside0.mk (bcomp HB1.out hb)
    clear hb
    go_wp2_with fail
    have hcl := Add_calls _ c0 l0 _ c2 l2 _ (H0.out _ HB2.out) (H2.out _ HB2.out)
    rw [HE1.out] at hcl
    refine hcl.mono ?_
    clear hcl
    rintro e w3 ⟨v, rfl, hR, hb⟩
    have HB3 := Aside0.mk (bcomp HB2.out hb)
    obtain ⟨Ax, cx, rfl, hlx, hCx⟩ := Kd.R_reads hR
    have HCx := Aside0.mk hCx
    clear hb hR hCx
    go_wp2_with fail
    have hcl := Add_calls _ c1 l1 _ c2 l2 _ (H1.out _ HB3.out) (H2.out _ HB3.out)
    rw [HE2.out] at hcl
    refine hcl.mono ?_
    clear hcl
    rintro e w4 ⟨v, rfl, hR, hb⟩
    have HB4 := Aside0.mk (bcomp HB3.out hb)
    have HCx := Aside0.mk (Kd.C_below HCx.out hb)
    obtain ⟨Ay, cy, rfl, hly, hCy⟩ := Kd.R_reads hR
    have HCy := Aside0.mk hCy
    clear hb hR hCy
    have OwnA := Aside0.mk (fun W (hB : Below w4.heap.size w4 W) => Own_row (some (ad0.add kk)) (c0 - kk) (l0.length - kk) (l0.drop kk) W (by have := C_piece (H0.out _ (bcomp HB4.out hB)) kk (l0.length - kk) (by omega); rwa [List.take_of_length_le (by rw [List.length_drop]; omega)] at this) (by rw [List.length_drop]; omega))
    have OwnB := Aside0.mk (fun W (hB : Below w4.heap.size w4 W) => Own_row (some (ad1.add kk)) (c1 - kk) (l1.length - kk) (l1.drop kk) W (by have := C_piece (H1.out _ (bcomp HB4.out hB)) kk (l1.length - kk) (by omega); rwa [List.take_of_length_le (by rw [List.length_drop]; omega)] at this) (by rw [List.length_drop]; omega))
    have AppA := Aside0.mk (fun W v (hB : Below w4.heap.size w4 W) (hO : W.ownsRow w4.heap.size 21 1 v (l0.drop kk).length (nums .i32 (l0.drop kk))) => appP_run 33 21 .i32 4 Try.underlying33 info_i32 w4.heap.size W v (l0.drop kk) (l0.take kk) ad0 kk c0 (by have := C_piece (H0.out _ (bcomp HB4.out hB)) 0 kk (by omega); rwa [List.drop_zero, show ad0.add 0 = ad0 from rfl] at this) hO (by rw [List.length_drop]; omega) (by rw [List.length_drop]; omega) hB.size)
    have AppB := Aside0.mk (fun W v (hB : Below w4.heap.size w4 W) (hO : W.ownsRow w4.heap.size 21 1 v (l1.drop kk).length (nums .i32 (l1.drop kk))) => appP_run 33 21 .i32 4 Try.underlying33 info_i32 w4.heap.size W v (l1.drop kk) (l1.take kk) ad1 kk c1 (by have := C_piece (H1.out _ (bcomp HB4.out hB)) 0 kk (by omega); rwa [List.drop_zero, show ad1.add 0 = ad1 from rfl] at this) hO (by rw [List.length_drop]; omega) (by rw [List.length_drop]; omega) hB.size)
    have DR := Aside0.mk (fun W va vb (ha : W.ownsRow w4.heap.size 21 1 va (rot l0 kk).length (nums .i32 (rot l0 kk))) (hb : W.ownsRow w4.heap.size 21 1 vb (rot l1 kk).length (nums .i32 (rot l1 kk))) => (show Calls Try.prog 20 #[va, vb] W fun e w' => e = .returned (.tuple #[.int .i64 (distV l0 l1), .int .i64 0]) ∧ Below W.heap.size W w' by have := Dist_rows W w4.heap.size w4.heap.size va vb (rot l0 kk) (rot l1 kk) ha hb; rwa [HRP.out, HRD.out] at this))
    have HB := Aside0.mk (show Below w4.heap.size w4 w4.drew from (Below.refl _ _).drew)
    go_wp2_with (go_at_call 18; refine (HPK.out _).mono ?_; rintro e w' ⟨rfl, rfl⟩)
    go_region_law (first
      | (refine step_app (AppA.out _ _ HB.out HRa.out) rfl rfl rfl rfl rfl ?_; rintro v1 w1 ⟨ho, hg, hat⟩; (first | (have HRb2 := Aside0.mk (HRb.out.kept hg (apart_kept_l HD.out)); have HD := Aside0.mk (apart_app_l HD.out hat HRb.out); clear HRb; have HRb := HRb2; clear HRb2) | skip); have HB := Aside0.mk (HB.out.grown hg HB.out.size (own_base HRa.out)); have HRa := Aside0.mk ho; clear ho hg hat)
      | (refine step_app (AppB.out _ _ HB.out HRb.out) rfl rfl rfl rfl rfl ?_; rintro v1 w1 ⟨ho, hg, hat⟩; (first | (have HRa2 := Aside0.mk (HRa.out.kept hg (apart_kept_r HD.out)); have HD := Aside0.mk (apart_app_r HD.out hat HRa.out); clear HRa; have HRa := HRa2; clear HRa2) | skip); have HB := Aside0.mk (HB.out.grown hg HB.out.size (own_base HRb.out)); have HRb := Aside0.mk ho; clear ho hg hat)
      | (go_simp; refine (OwnA.out _ HB.out).mono ?_; rintro e w' ⟨v1, rfl, ho, hb⟩; (first | (have HD := Aside0.mk (apart_new_l ho HRb.out); have HRb := Aside0.mk (pw_own_below HRb.out hb)) | skip); have HRa := Aside0.mk (row_lower ho HB.out.size); have HB := Aside0.mk (bcomp HB.out hb); clear ho hb)
      | (go_simp; refine (OwnB.out _ HB.out).mono ?_; rintro e w' ⟨v1, rfl, ho, hb⟩; (first | (have HD := Aside0.mk (apart_new_r ho HRa.out); have HRa := Aside0.mk (pw_own_below HRa.out hb)) | skip); have HRb := Aside0.mk (row_lower ho HB.out.size); have HB := Aside0.mk (bcomp HB.out hb); clear ho hb)
      | (go_simp; refine (DR.out _ _ _ HRa.out HRb.out).mono ?_; rintro e w' ⟨rfl, hb⟩; have HB := Aside0.mk (bcomp HB.out hb); clear hb))
    all_goals
      by_cases y1 : E1 = 0
      · by_cases y2 : E2 = 0
        · subst y1
          subst y2
          obtain ⟨M1, M2⟩ := moved_pair HP.out HE1.out HE2.out
          have hcl := Dist_calls Ax cx _ Ay cy _ _ (Kd.C_below HCx.out HB.out) (Kd.C_below HCy.out HB.out)
          rw [M1, M2] at hcl
          have HCL := Aside0.mk hcl
          clear hcl M1 M2
          go_wp2_with fail
          refine HCL.out.mono ?_
          rintro e w9 ⟨rfl, hb⟩
          have HB9 := Aside0.mk (bcomp (bcomp HB4.out HB.out) hb)
          clear hb
          go_wp2_with fail
          go_ret
          exact ⟨rfl, HB9.out⟩
        · have y2' : (E2 != 0) = true := by simpa using y2
          subst y1
          go_wp2
          go_ret
          exact ⟨rfl, bcomp HB4.out HB.out⟩
      · have y1' : (E1 != 0) = true := by simpa using y1
        go_wp2
        go_ret
        exact ⟨rfl, bcomp HB4.out HB.out⟩
  · obtain ⟨EP, hEP⟩ : ∃ E, pairE l0 l1 = E := ⟨_, rfl⟩
    have HDE := Aside0.mk hEP
    have HDV := Aside0.mk (distV_no he)
    rw [hEP] at he
    have hne : (EP != 0) = true := by simpa using he
    clear hEP he
    go_enter Try.func6, Try.ntmps6
    go_wp2_with fail
    refine (lives03_calls _).mono ?_
    rintro e w1 ⟨rfl, hb⟩
    have HB1 := Aside0.mk hb
    clear hb
    go_wp2_with fail
    have hcl := Dist_calls _ c0 l0 _ c1 l1 _ (H0.out _ HB1.out) (H1.out _ HB1.out)
    rw [HDV.out, HDE.out] at hcl
    refine hcl.mono ?_
    clear hcl
    rintro e w2 ⟨rfl, hb⟩
    have HB2 := Aside0.mk (bcomp HB1.out hb)
    clear hb
    go_wp2_with fail
    have hcl := Add_calls _ c0 l0 _ c2 l2 _ (H0.out _ HB2.out) (H2.out _ HB2.out)
    rw [HE1.out] at hcl
    refine hcl.mono ?_
    clear hcl
    rintro e w3 ⟨v, rfl, hR, hb⟩
    have HB3 := Aside0.mk (bcomp HB2.out hb)
    obtain ⟨Ax, cx, rfl, hlx, hCx⟩ := Kd.R_reads hR
    have HCx := Aside0.mk hCx
    clear hb hR hCx
    go_wp2_with fail
    have hcl := Add_calls _ c1 l1 _ c2 l2 _ (H1.out _ HB3.out) (H2.out _ HB3.out)
    rw [HE2.out] at hcl
    refine hcl.mono ?_
    clear hcl
    rintro e w4 ⟨v, rfl, hR, hb⟩
    have HB4 := Aside0.mk (bcomp HB3.out hb)
    have HCx := Aside0.mk (Kd.C_below HCx.out hb)
    obtain ⟨Ay, cy, rfl, hly, hCy⟩ := Kd.R_reads hR
    have HCy := Aside0.mk hCy
    clear hb hR hCy
    go_wp2
    go_ret
    exact ⟨rfl, HB4.out⟩

end Go.Proofs.Ytkogapmggicanaa.G
