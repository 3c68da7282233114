/- Regions whose order is drawn: any order comes to the same. -/
import Derived.Test.YtfleloeadbdbcaaGreatAbR
import Derived.OrdersIn
namespace Go.Ab
open Go.RowKit

/-- A run looks at what it logs alone, and turns what it logs as written alone. -/
theorem run_local {α : Type} (t : T α) : ∀ {c : Nat} {h : Heap} {lg : Log} {a : α} {c' : Nat} {h' : Heap} {lg' : Log}, run t c h lg = .ok a c' h' lg' →
    ∃ d : Log, lg' = d ++ lg ∧ ∀ (h2 : Heap) (lg2 : Log), (∀ e ∈ d, h2.at e.1 = h.at e.1) →
      ∃ h2', run t c h2 lg2 = .ok a c' h2' (d ++ lg2) ∧ (∀ l, (l, true) ∈ d → h2'.at l = h'.at l) ∧ (∀ l, (l, true) ∉ d → h2'.at l = h2.at l ∧ h'.at l = h.at l) := by
  induction t with
  | ret a =>
    intro c h lg b c' h' lg' hr
    obtain ⟨rfl, rfl, rfl, rfl⟩ := run_ret_inv hr
    exact ⟨[], rfl, fun h2 lg2 _ => ⟨h2, rfl, by simp, fun l _ => ⟨rfl, rfl⟩⟩⟩
  | fail => intro c h lg b c' h' lg' hr; cases hr
  | get l =>
    intro c h lg b c' h' lg' hr
    rw [run_get] at hr
    cases hx : h.at l with
    | none => rw [hx] at hr; cases hr
    | some x =>
      rw [hx] at hr; injection hr with h1 h2 h3 h4
      subst h1 h2 h3 h4
      exact ⟨[(l, false)], rfl, fun h2 lg2 ha => ⟨h2, by rw [run_get, ha (l, false) (by simp), hx]; rfl, by simp, fun l _ => ⟨rfl, rfl⟩⟩⟩
  | put l x =>
    intro c h lg b c' h' lg' hr
    rw [run_put] at hr; injection hr with h1 h2 h3 h4
    subst h1 h2 h3 h4
    refine ⟨[(l, true)], rfl, fun h2 lg2 ha => ⟨h2.put l x, rfl, fun l' hl => ?_, fun l' hl => ?_⟩⟩
    · simp at hl; subst hl; rw [Heap.at_put, Heap.at_put, if_pos rfl, if_pos rfl]
    · simp at hl; rw [Heap.at_put, Heap.at_put, if_neg hl, if_neg hl]; exact ⟨rfl, rfl⟩
  | fresh =>
    intro c h lg b c' h' lg' hr
    rw [run_fresh] at hr; injection hr with h1 h2 h3 h4
    subst h1 h2 h3 h4
    exact ⟨[], rfl, fun h2 lg2 _ => ⟨h2, rfl, by simp, fun l _ => ⟨rfl, rfl⟩⟩⟩
  | choose n => intro c h lg b c' h' lg' hr; cases hr
  | bind t f iht ihf =>
    intro c h lg b c' h' lg' hr
    obtain ⟨a, c1, h1, lg1, e1, e2⟩ := run_bind_inv hr
    obtain ⟨d1, rfl, k1⟩ := iht e1
    obtain ⟨d2, rfl, k2⟩ := ihf a e2
    refine ⟨d2 ++ d1, by simp, fun h2 lg2 ha => ?_⟩
    obtain ⟨h3, f1, f2, f3⟩ := k1 h2 lg2 fun e he => ha e (List.mem_append_right _ he)
    obtain ⟨h4, g1, g2, g3⟩ := k2 h3 (d1 ++ lg2) fun e he => by
      by_cases hw : (e.1, true) ∈ d1
      · exact f2 _ hw
      · rw [(f3 _ hw).1, (f3 _ hw).2]; exact ha e (List.mem_append_left _ he)
    refine ⟨h4, by rw [run_bind, f1]; simpa using g1, fun l hl => ?_, fun l hl => ?_⟩
    · by_cases hw : (l, true) ∈ d2
      · exact g2 l hw
      · have h1 : (l, true) ∈ d1 := (List.mem_append.1 hl).resolve_left hw
        rw [(g3 l hw).1, (g3 l hw).2]; exact f2 l h1
    · have h1 : (l, true) ∉ d2 := fun q => hl (List.mem_append_left _ q)
      have h2 : (l, true) ∉ d1 := fun q => hl (List.mem_append_right _ q)
      exact ⟨(g3 l h1).1.trans (f3 l h2).1, (g3 l h1).2.trans (f3 l h2).2⟩
  | logd t ih =>
    intro c h lg b c' h' lg' hr
    rw [run_logd] at hr
    cases h1 : run t c h [] with
    | bad => rw [h1] at hr; cases hr
    | ok a c1 h2 lg1 =>
      rw [h1] at hr; injection hr with e1 e2 e3 e4
      subst e1 e2 e3 e4
      obtain ⟨d, e5, k⟩ := ih h1
      have e5 : lg1 = d := by simpa using e5
      subst e5
      refine ⟨lg1, rfl, fun h3 lg2 ha => ?_⟩
      obtain ⟨h4, f1, f2, f3⟩ := k h3 [] ha
      exact ⟨h4, by rw [run_logd, f1]; simp, f2, f3⟩
theorem clash1_spec {n i : Nat} {w : Bool} : ∀ {lg : Log}, clash1 n i w lg = false → ∀ e ∈ lg, e.1 = (n, i) → w = false ∧ e.2 = false
  | [], _, e, he, _ => by cases he
  | x :: lg, h, e, he, hq => by
    have h' : bite (Nat.beq x.1.1 n && Nat.beq x.1.2 i && (w || x.2)) true (clash1 n i w lg) = false := h
    rcases bite_or h' with ⟨_, h1⟩ | ⟨h1, h2⟩
    · cases h1
    · rcases List.mem_cons.1 he with rfl | he
      · obtain ⟨⟨a, b⟩, c⟩ := e
        simp only [Prod.mk.injEq] at hq
        obtain ⟨rfl, rfl⟩ := hq
        simpa using h1
      · exact clash1_spec h2 e he hq
theorem clash_spec : ∀ {lg lg' : Log}, clash lg lg' = false → ∀ l b b', (l, b) ∈ lg → (l, b') ∈ lg' → b = false ∧ b' = false
  | [], _, _, l, b, b', h1, _ => by cases h1
  | x :: lg, lg', h, l, b, b', h1, h2 => by
    have h' : bite (clash1 x.1.1 x.1.2 x.2 lg') true (clash lg lg') = false := h
    rcases bite_or h' with ⟨_, h3⟩ | ⟨h3, h4⟩
    · cases h3
    · rcases List.mem_cons.1 h1 with h1 | h1
      · subst h1; exact clash1_spec h3 (l, b') h2 rfl
      · exact clash_spec h4 l b b' h1 h2
theorem free_spec {before : Nat} {ops : Array Oper} {o : Oper} {lg : Log} : ∀ {done : List (Nat × Oper × Log)}, free before ops o lg done = true → ∀ e ∈ done, Nat.testBit before e.1 = true ∨ (clash lg e.2.2 = false ∧ Oper.apart ops e.2.1 o = true)
  | [], _, e, he => by cases he
  | (j, oj, lgj) :: rest, h, e, he => by
    simp only [free, Bool.and_eq_true, Bool.or_eq_true, Bool.not_eq_true'] at h
    rcases List.mem_cons.1 he with rfl | he
    · exact h.1
    · exact free_spec h.2 e he
section
variable {P : Program} {callF : Tgt → List Value → T Value} {n : Nat}
theorem opT_congr {ρ ρ' : Operand → Value} (o : Oper) (h : ∀ x ∈ o.op.operands, ρ x = ρ' x) : opT P callF ρ o = opT P callF ρ' o := by
  obtain ⟨dst, op, type, pos, after, guard⟩ := o
  have hl : ∀ {xs : List Operand}, (∀ x ∈ xs, ρ x = ρ' x) → xs.map ρ = xs.map ρ' := fun hx => List.map_congr_left hx
  have hp : ∀ {ps : List (Nat × Operand)}, (∀ p ∈ ps, ρ p.2 = ρ' p.2) → (ps.map fun p => (p.1, ρ p.2)) = ps.map fun p => (p.1, ρ' p.2) := fun hx => List.map_congr_left fun p hm => by rw [hx p hm]
  cases op <;> simp only [Op.operands] at h <;> simp only [opT]
  case build t ps => rw [hp fun p hm => h p.2 (by simp; exact ⟨p.1, by simpa using hm⟩)]
  case buildSlice t k ps => rw [hp fun p hm => h p.2 (by simp; exact ⟨p.1, by simpa using hm⟩)]
  case makeFunc fn first captured =>
    rw [hl (xs := first.toList) fun x hx => h x (by simp [Array.mem_toList_iff.1 hx]), hl (xs := captured.toList) fun x hx => h x (by simp [Array.mem_toList_iff.1 hx])]
  case makeMap t r => cases r <;> rfl
  case slice t x lo hi mx =>
    have h1 := h x (by simp)
    have h2 : lo.map ρ = lo.map ρ' := by cases lo with | none => rfl | some z => exact congrArg some (h z (by simp))
    have h3 : hi.map ρ = hi.map ρ' := by cases hi with | none => rfl | some z => exact congrArg some (h z (by simp))
    have h4 : mx.map ρ = mx.map ρ' := by cases mx with | none => rfl | some z => exact congrArg some (h z (by simp))
    rw [h1, h2, h3, h4]
  case call c =>
    obtain ⟨callee, args, argTypes⟩ := c
    have ha := hl (xs := args.toList) fun x hx => h x (by simp [Call.operands, Array.mem_toList_iff.1 hx])
    cases callee with
    | builtin b => simp only [callT, ha]
    | value f => simp only [callT, ha, h f (by simp [Call.operands])]
    | invoke _ _ => rfl
  all_goals first | rfl | (simp_all; done)
/-- One operation's step, taken apart: what it hands on, and the run that does so. -/
theorem stepT_run {ops : List Oper} {o : Oper} {fr fr' : Fr} {c : Nat} {h : Heap} {lg : Log} {c' : Nat} {h' : Heap} {lg' : Log} (hr : run (stepT P callF n ops o fr) c h lg = .ok fr' c' h' lg') :
    ∃ v, fr' = fr.put n o.dst v ∧ ((wantedF ops fr o = true ∧ okOp o = true ∧ run (opT P callF fr.eval o) c h lg = .ok v c' h' lg') ∨ (wantedF ops fr o = false ∧ v = undef ∧ c = c' ∧ h = h' ∧ lg = lg')) := by
  unfold stepT at hr
  cases hw : wantedF ops fr o with
  | true =>
    rw [hw, bite_true] at hr
    obtain ⟨ho, e1⟩ := run_whenT_inv hr
    obtain ⟨v, c1, h1, lg1, e2, e3⟩ := run_bind_inv e1
    obtain ⟨rfl, rfl, rfl, rfl⟩ := run_ret_inv e3
    exact ⟨v, rfl, .inl ⟨rfl, ho, e2⟩⟩
  | false =>
    rw [hw, bite_false] at hr
    obtain ⟨rfl, rfl, rfl, rfl⟩ := run_ret_inv hr
    exact ⟨undef, rfl, .inr ⟨rfl, rfl, rfl, rfl, rfl⟩⟩
/-- The walk in the text's order, step by step. -/
structure Tr where
  fr : Fr
  c : Nat
  h : Heap
  lg : Log
  v : Value
structure StepOK (P : Program) (callF : Tgt → List Value → T Value) (n : Nat) (ops : List Oper) (o : Oper) (t : Tr) (t' : Tr) : Prop where
  fr : t'.fr = t.fr.put n o.dst t.v
  run : (wantedF ops t.fr o = true ∧ okOp o = true ∧ run (opT P callF t.fr.eval o) t.c t.h [] = .ok t.v t'.c t'.h t.lg) ∨ (wantedF ops t.fr o = false ∧ t.v = undef ∧ t.c = t'.c ∧ t.h = t'.h ∧ t.lg = [])
theorem draw_trace {ops : List Oper} {bef : List Nat} {Q : Fr → St → Prop} : ∀ (l : List Oper) (i : Nat) (done : List (Nat × Oper × Log)) (fr : Fr) (s : St), wpt (drawT P callF n ops bef i l done fr) s Q →
    ∃ tr : Nat → Tr, (tr i).fr = fr ∧ (tr i).c = s.ctr ∧ (tr i).h = s.h ∧ Q (tr (i + l.length)).fr ⟨(tr (i + l.length)).c, (tr (i + l.length)).h⟩ ∧
      ∀ k o, l[k]? = some o → StepOK P callF n ops o (tr (i + k)) (tr (i + k + 1)) ∧
        (∀ e ∈ done, Nat.testBit ((bef[i + k]?).getD 0) e.1 = true ∨ (clash (tr (i + k)).lg e.2.2 = false ∧ Oper.apart ⟨ops⟩ e.2.1 o = true)) ∧
        ∀ k' o', l[k']? = some o' → k' < k → Nat.testBit ((bef[i + k]?).getD 0) (i + k') = true ∨ (clash (tr (i + k)).lg (tr (i + k')).lg = false ∧ Oper.apart ⟨ops⟩ o' o = true)
  | [], i, done, fr, s, hw => ⟨fun _ => ⟨fr, s.ctr, s.h, [], undef⟩, rfl, rfl, rfl, hw, by simp⟩
  | o :: rest, i, done, fr, s, hw => by
    simp only [drawT] at hw
    obtain ⟨fr1, c1, h1, lg1, hrun, hw⟩ := hw
    cases hfree : free ((bef[i]?).getD 0) ⟨ops⟩ o lg1 done with
    | false => simp only [hfree] at hw; exact hw.elim
    | true =>
      simp only [hfree] at hw
      obtain ⟨tr, t1, t2, t3, t4, t5⟩ := draw_trace rest (i + 1) ((i, o, lg1) :: done) fr1 ⟨c1, h1⟩ hw
      obtain ⟨v, e1, e2⟩ := stepT_run hrun
      have hfs := free_spec hfree
      let tr' : Nat → Tr := fun j => if j = i then ⟨fr, s.ctr, s.h, lg1, v⟩ else tr j
      have hi : tr' i = ⟨fr, s.ctr, s.h, lg1, v⟩ := if_pos rfl
      have hne : ∀ j, j ≠ i → tr' j = tr j := fun j hj => if_neg hj
      refine ⟨tr', by rw [hi], by rw [hi], by rw [hi], ?_, fun k ok hk => ?_⟩
      · rw [hne _ (by simp), show i + (o :: rest).length = i + 1 + rest.length by simp; omega]; exact t4
      · cases k with
        | zero =>
          simp at hk; subst hk
          rw [Nat.add_zero, hi, hne (i + 1) (by omega)]
          refine ⟨⟨by rw [t1]; exact e1, ?_⟩, hfs, fun k' _ _ hlt => absurd hlt (Nat.not_lt_zero _)⟩
          rw [t2, t3]
          rcases e2 with e2 | ⟨e2, e3, e4, e5, e6⟩
          · exact .inl e2
          · exact .inr ⟨e2, e3, e4, e5, e6.symm⟩
        | succ k =>
          have hk' : rest[k]? = some ok := by simpa using hk
          obtain ⟨s1, s2, s3⟩ := t5 k ok hk'
          have e1' : i + (k + 1) = i + 1 + k := by omega
          rw [e1', hne (i + 1 + k) (by omega), hne (i + 1 + k + 1) (by omega)]
          refine ⟨s1, fun e he => s2 e (List.mem_cons_of_mem _ he), fun k' o' hk'' hlt => ?_⟩
          cases k' with
          | zero =>
            simp at hk''; subst hk''
            rw [show i + 0 = i from rfl, hi]
            exact s2 (i, o, lg1) List.mem_cons_self
          | succ k' =>
            have := s3 k' o' (by simpa using hk'') (by omega)
            rw [show i + (k' + 1) = i + 1 + k' by omega, hne (i + 1 + k') (by omega)]
            exact this
end
end Go.Ab
