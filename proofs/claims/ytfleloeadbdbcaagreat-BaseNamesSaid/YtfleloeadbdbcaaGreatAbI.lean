/- Whole numbers, and the operators, simulated. -/
import Derived.Test.YtfleloeadbdbcaaGreatAbH
namespace Go.Ab
open Go.RowKit

theorem wrap_s (k : IntKind) (n M H : Int) (h1 : (2:Int) ^ k.bits = M) (h2 : (2:Int) ^ (k.bits - 1) = H) (h3 : k.signed = true) : k.wrap n = if H ≤ n % M then n % M - M else n % M := by
  subst h1 h2
  simp only [IntKind.wrap, h3, Bool.true_and, decide_eq_true_eq, ge_iff_le]
theorem wrap_u (k : IntKind) (n M : Int) (h1 : (2:Int) ^ k.bits = M) (h3 : k.signed = false) : k.wrap n = n % M := by
  subst h1
  simp only [IntKind.wrap, h3, Bool.false_and, Bool.false_eq_true, if_false]
theorem wrap_i64 (n : Int) : IntKind.i64.wrap n = if 9223372036854775808 ≤ n % 18446744073709551616 then n % 18446744073709551616 - 18446744073709551616 else n % 18446744073709551616 := wrap_s .i64 n 18446744073709551616 9223372036854775808 (by decide) (by decide) rfl
theorem wrap_i32 (n : Int) : IntKind.i32.wrap n = if 2147483648 ≤ n % 4294967296 then n % 4294967296 - 4294967296 else n % 4294967296 := wrap_s .i32 n 4294967296 2147483648 (by decide) (by decide) rfl
theorem wrap_i16 (n : Int) : IntKind.i16.wrap n = if 32768 ≤ n % 65536 then n % 65536 - 65536 else n % 65536 := wrap_s .i16 n 65536 32768 (by decide) (by decide) rfl
theorem wrap_i8 (n : Int) : IntKind.i8.wrap n = if 128 ≤ n % 256 then n % 256 - 256 else n % 256 := wrap_s .i8 n 256 128 (by decide) (by decide) rfl
theorem wrap_u64 (n : Int) : IntKind.u64.wrap n = n % 18446744073709551616 := wrap_u .u64 n 18446744073709551616 (by decide) rfl
theorem wrap_u32 (n : Int) : IntKind.u32.wrap n = n % 4294967296 := wrap_u .u32 n 4294967296 (by decide) rfl
theorem wrap_u16 (n : Int) : IntKind.u16.wrap n = n % 65536 := wrap_u .u16 n 65536 (by decide) rfl
theorem wrap_u8 (n : Int) : IntKind.u8.wrap n = n % 256 := wrap_u .u8 n 256 (by decide) rfl
theorem blt_iff (a b : Nat) : (Nat.blt a b = true) = (a < b) := by
  show (Nat.ble (a + 1) b = true) = _
  rw [Nat.ble_eq]; rfl
theorem wrapF_eq (k : IntKind) (n : Int) : wrapF k n = k.wrap n := by
  cases k <;> cases n <;> simp only [wrapF, bite_eq]
  all_goals first
    | (split
       · next hq => rw [blt_iff] at hq; simp only [wrap_i64, wrap_i32, wrap_i16, wrap_i8, Int.ofNat_eq_natCast, Int.negSucc_eq]; split <;> omega
       · rfl)
    | (simp only [wrap_u64, wrap_u32, wrap_u16, wrap_u8]; rfl)
theorem eqI_eq (a b : Int) : eqI a b = (a == b) := by
  rw [Bool.eq_iff_iff, beq_iff_eq]
  cases a with
  | ofNat a => cases b with
    | ofNat b => show Nat.beq a b = true ↔ _; rw [Nat.beq_eq]; exact ⟨fun h => by rw [h], fun h => by injection h⟩
    | negSucc b => exact ⟨fun h => (by cases h), fun h => (by cases h)⟩
  | negSucc a => cases b with
    | ofNat b => exact ⟨fun h => (by cases h), fun h => (by cases h)⟩
    | negSucc b => show Nat.beq a b = true ↔ _; rw [Nat.beq_eq]; exact ⟨fun h => by rw [h], fun h => by injection h⟩
theorem leI_eq (a b : Int) : leI a b = decide (a ≤ b) := by
  rw [Bool.eq_iff_iff, decide_eq_true_eq]
  cases a with
  | ofNat a => cases b with
    | ofNat b => show Nat.ble a b = true ↔ _; rw [Nat.ble_eq]; simp only [Int.ofNat_eq_natCast]; omega
    | negSucc b => exact ⟨fun h => by (cases h), fun h => by simp only [Int.ofNat_eq_natCast, Int.negSucc_eq] at h; omega⟩
  | negSucc a => cases b with
    | ofNat b => exact ⟨fun _ => by simp only [Int.ofNat_eq_natCast, Int.negSucc_eq]; omega, fun _ => rfl⟩
    | negSucc b => show Nat.ble b a = true ↔ _; rw [Nat.ble_eq]; simp only [Int.negSucc_eq]; omega
theorem not_le_lt (a b : Int) : (!decide (b ≤ a)) = decide (a < b) := by
  rw [Bool.eq_iff_iff]; simp
theorem arith_run {P : Program} {w : World} {op : BinOp} {k : IntKind} {a b : Int} {v : Value} (t : TypeId) (hv : arith op k a b = some v) : (binOp op t (.int k a) (.int k b)).run P w = .ok v w := by
  cases op <;> simp only [arith, Option.some.injEq] at hv <;> first
    | (cases hv; done)
    | (subst hv
       simp only [binOp, ne_eq, not_true_eq_false, if_false, Op.intArith, Op.intCmp, Sem.run_pure, wrapF_eq, eqI_eq, leI_eq, not_le_lt]; try rfl)

section
variable {P : Program} {m : Inj} {base : Nat} {h : Heap} {w : World}
theorem run_ofFlat_inv {o : Option Value} {v : Value} {c : Nat} {lg : Log} {c2 : Nat} {h2 : Heap} {lg2 : Log} (hr : run (ofFlat o) c h lg = .ok v c2 h2 lg2) :
    o = some v ∧ flat v = true ∧ c = c2 ∧ h = h2 := by
  cases o with
  | none => cases hr
  | some a =>
    have hr' : run (bite (flat a) (.ret a) .fail) c h lg = .ok v c2 h2 lg2 := hr
    cases hf : flat a with
    | false => rw [hf] at hr'; cases hr'
    | true => rw [hf] at hr'; obtain ⟨rfl, h1, h2, _⟩ := run_ret_inv hr'; exact ⟨rfl, hf, h1, h2⟩
theorem run_eqGuard_int (op : BinOp) (t : TypeId) (x y : Operand) (k k' : IntKind) (a b : Int) : (eqGuard op t x y (.int k a) (.int k' b)).run P w = .ok () w := by
  unfold eqGuard; cases op <;> rfl
theorem arith_rel {op : BinOp} {k : IntKind} {a b : Int} {v : Value} (hv : arith op k a b = some v) : VRel m v v := by
  cases op <;> simp only [arith, Option.some.injEq] at hv <;> first
    | (cases hv; done)
    | (subst hv; constructor)
theorem nilEq_run' {d : TypeDesc} {a b a' b' : Value} {r : Bool} {t : TypeId} (hd : P.underlying t = some d) (hr : nilEq d a b = some r) (ha : VRel m a a') (hb : VRel m b b') (x y : Operand) (N : Nat) :
    (∀ op, (eqGuard op t x y a' b').run P w = .ok () w) ∧ (Op.equalIn (N + 1) t a' b').run P w = .ok r w ∧ (∀ k n, a' ≠ .int k n) ∧ (∀ k n, a' ≠ .float k n) ∧ (∀ k n q, a' ≠ .complex k n q) ∧ (∀ s, a' ≠ .string s) := by
  have hu := run_underlying (w := w) hd
  unfold nilEq at hr
  split at hr <;> (try (cases hr; done)) <;> simp only [Option.some.injEq] at hr <;> subst hr <;> cases ha <;> cases hb <;>
    refine ⟨fun op => by unfold eqGuard; cases op <;> rfl, ?_, by simp, by simp, by simp, by simp⟩ <;>
    simp only [Op.equalIn, Sem.run_bind, hu, Result.andThen_ok, Sem.run_pure] <;> rfl
theorem nilEq_run {d : TypeDesc} {a b a' b' : Value} {r : Bool} {t : TypeId} (hd : P.underlying t = some d) (hr : nilEq d a b = some r) (ha : VRel m a a') (hb : VRel m b b') (x y : Operand) :
    (∀ op, (eqGuard op t x y a' b').run P w = .ok () w) ∧ (Op.equal t a' b').run P w = .ok r w ∧ (∀ k n, a' ≠ .int k n) ∧ (∀ k n, a' ≠ .float k n) ∧ (∀ k n q, a' ≠ .complex k n q) ∧ (∀ s, a' ≠ .string s) :=
  nilEq_run' hd hr ha hb x y 9999
theorem binOp_eql {t : TypeId} {a b : Value} (h1 : ∀ k n, a ≠ .int k n) (h2 : ∀ k n, a ≠ .float k n) (h3 : ∀ k n q, a ≠ .complex k n q) (h4 : ∀ s, a ≠ .string s) :
    binOp .eql t a b = (do pure (.bool (← Op.equal t a b))) ∧ binOp .neq t a b = (do pure (.bool (!(← Op.equal t a b)))) := by
  cases a <;> first
    | exact ⟨rfl, rfl⟩
    | exact absurd rfl (h1 _ _)
    | exact absurd rfl (h2 _ _)
    | exact absurd rfl (h3 _ _ _)
    | exact absurd rfl (h4 _)
theorem binOp2_sim {op : BinOp} {t : TypeId} {x y : Operand} {a b a' b' : Value} {v : Value} {c : Nat} {lg : Log} {c2 : Nat} {h2 : Heap} {lg2 : Log} (hr : run (binOp2 P op t x y a b) c h lg = .ok v c2 h2 lg2)
    (ha : VRel m a a') (hb : VRel m b b') : c = c2 ∧ h = h2 ∧ ∃ v', (do eqGuard op t x y a' b'; binOp op t a' b' : Sem Value).run P w = .ok v' w ∧ VRel m v v' := by
  unfold binOp2 at hr
  cases hf : (flat a && flat b) with
  | true =>
    rw [hf, bite_true] at hr
    obtain ⟨e, hv, rfl, rfl⟩ := run_ofFlat_inv hr
    rw [Bool.and_eq_true] at hf
    obtain rfl := flat_eq hf.1 ha
    obtain rfl := flat_eq hf.2 hb
    exact ⟨rfl, rfl, v, pureRun_run P _ _ e w, flat_refl m hv⟩
  | false =>
    rw [hf, bite_false] at hr
    cases hu : P.underlying t with
    | none => rw [hu] at hr; cases op <;> cases hr
    | some d =>
      rw [hu] at hr
      cases op <;> (try (cases hr; done))
      all_goals
        obtain ⟨r, c1, h1, lg1, e1, e2⟩ := run_bind_inv hr
        obtain ⟨hn, rfl, rfl, _⟩ := run_ofOpt_inv e1
        obtain ⟨rfl, rfl, rfl, _⟩ := run_ret_inv e2
        obtain ⟨g1, g2, g3, g4, g5, g6⟩ := nilEq_run (w := w) hu hn ha hb x y
        refine ⟨rfl, rfl, _, ?_, .bool _⟩
        simp only [Sem.run_bind, g1, Result.andThen_ok, (binOp_eql (t := t) (b := b') g3 g4 g5 g6).1, (binOp_eql (t := t) (b := b') g3 g4 g5 g6).2, g2, Sem.run_pure]
theorem binOp_sim {op : BinOp} {t : TypeId} {x y : Operand} {a b a' b' : Value} {v : Value} {c : Nat} {lg : Log} {c2 : Nat} {h2 : Heap} {lg2 : Log} (hr : run (binOpT P op t x y a b) c h lg = .ok v c2 h2 lg2)
    (ha : VRel m a a') (hb : VRel m b b') : c = c2 ∧ h = h2 ∧ ∃ v', (do eqGuard op t x y a' b'; binOp op t a' b' : Sem Value).run P w = .ok v' w ∧ VRel m v v' := by
  unfold binOpT at hr
  split at hr
  · next k p k' q =>
    cases ha; cases hb
    simp only [Sem.run_bind, run_eqGuard_int, Result.andThen_ok]
    by_cases hk : k = k'
    · subst hk
      simp only [decide_true] at hr
      cases har : arith op k p q with
      | some u =>
        rw [har] at hr
        obtain ⟨rfl, rfl, rfl, _⟩ := run_ret_inv hr
        exact ⟨rfl, rfl, u, arith_run t har, arith_rel har⟩
      | none =>
        rw [har] at hr
        obtain ⟨e, hv, rfl, rfl⟩ := run_ofFlat_inv hr
        exact ⟨rfl, rfl, v, pureRun_run P _ _ e w, flat_refl m hv⟩
    · simp only [hk, decide_false] at hr
      obtain ⟨e, hv, rfl, rfl⟩ := run_ofFlat_inv hr
      exact ⟨rfl, rfl, v, pureRun_run P _ _ e w, flat_refl m hv⟩
  · exact binOp2_sim hr ha hb
theorem unOp_sim {op : UnOp} {x x' : Value} {v : Value} {c : Nat} {lg : Log} {c2 : Nat} {h2 : Heap} {lg2 : Log} (hr : run (unOpT P op x) c h lg = .ok v c2 h2 lg2)
    (hx : VRel m x x') : c = c2 ∧ h = h2 ∧ ∃ v', (Op.unary op x').run P w = .ok v' w ∧ VRel m v v' := by
  unfold unOpT at hr
  split at hr
  · cases hx
    obtain ⟨rfl, rfl, rfl, _⟩ := run_ret_inv hr
    exact ⟨rfl, rfl, _, rfl, .bool _⟩
  · obtain ⟨hf, e1⟩ := run_whenT_inv hr
    obtain ⟨e, hv, rfl, rfl⟩ := run_ofFlat_inv e1
    obtain rfl := flat_eq hf hx
    exact ⟨rfl, rfl, v, pureRun_run P _ _ e w, flat_refl m hv⟩
theorem convert_sim {s d : TypeId} {x x' : Value} {v : Value} {c : Nat} {lg : Log} {c2 : Nat} {h2 : Heap} {lg2 : Log} (hr : run (convertT P s d x) c h lg = .ok v c2 h2 lg2)
    (hx : VRel m x x') : c = c2 ∧ h = h2 ∧ ∃ v', (convert s d x').run P w = .ok v' w ∧ VRel m v v' := by
  unfold convertT at hr
  split at hr
  · next k ds kk n hd hs =>
    cases hx
    obtain ⟨rfl, rfl, rfl, _⟩ := run_ret_inv hr
    refine ⟨rfl, rfl, _, ?_, .int _ _⟩
    unfold convert
    simp only [Sem.run_bind, run_underlying hd, run_underlying hs, Result.andThen_ok, wrapF_eq]
    rfl
  · obtain ⟨hf, e1⟩ := run_whenT_inv hr
    obtain ⟨e, hv, rfl, rfl⟩ := run_ofFlat_inv e1
    obtain rfl := flat_eq hf hx
    exact ⟨rfl, rfl, v, pureRun_run P _ _ e w, flat_refl m hv⟩
end
end Go.Ab
