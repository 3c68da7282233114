/- One operation and the regions in the order of the text, simulated. -/
import Derived.Test.YtfleloeadbdbcaaGreatAbQ
import Derived.DefersIn
namespace Go.Ab
open Go.RowKit

def leK (c : Nat) (K : Option Nat) : Prop := ∀ k, K = some k → c ≤ k
/-- The names from c on (below K) are free. -/
def FreeK (m : Inj) (c : Nat) (K : Option Nat) : Prop := ∀ n, c ≤ n → (∀ k, K = some k → n < k) → m n = none
structure Aft (m : Inj) (base : Nat) (w : World) (c : Nat) (m' : Inj) (s' : St) (w' : World) : Prop where
  sim : Sim m' base s'.h w'
  go : Go1 m base w m' w'
  ctr : c ≤ s'.ctr
  names : Names m m' c s'.ctr
theorem Aft.refl {m : Inj} {base : Nat} {w : World} {s : St} (hs : Sim m base s.h w) : Aft m base w s.ctr m s w := ⟨hs, .refl _ _ _, Nat.le_refl _, Names.refl _ _ _⟩
theorem Aft.trans {m m1 m2 : Inj} {base c : Nat} {w w1 w2 : World} {s1 s2 : St} (h : Aft m base w c m1 s1 w1) (k : Aft m1 base w1 s1.ctr m2 s2 w2) : Aft m base w c m2 s2 w2 :=
  ⟨k.sim, h.go.trans k.go, Nat.le_trans h.ctr k.ctr, h.names.trans k.names h.ctr k.ctr⟩
theorem FreeK.after {m m' : Inj} {base c : Nat} {w w' : World} {s' : St} {K : Option Nat} (hf : FreeK m c K) (h : Aft m base w c m' s' w') : FreeK m' s'.ctr K :=
  fun n hn hk => h.names n (hf n (Nat.le_trans h.ctr hn) hk) (.inr hn)
theorem wpt_le {α : Type} (t : T α) : ∀ {s : St} {Q : α → St → Prop} {K : Nat}, wpt t s Q → (∀ a s', Q a s' → s'.ctr ≤ K) → s.ctr ≤ K := by
  induction t with
  | ret a => intro s Q K h hq; exact hq _ _ h
  | fail => intro s Q K h hq; exact h.elim
  | get l => intro s Q K h hq; obtain ⟨c, _, h⟩ := h; exact hq _ _ h
  | put l c => intro s Q K h hq; exact hq () ⟨s.ctr, s.h.put l c⟩ h
  | fresh => intro s Q K h hq; exact Nat.le_of_succ_le (hq s.ctr ⟨s.ctr + 1, s.h⟩ h)
  | choose n => intro s Q K h hq; exact hq _ _ (h.2 0 h.1)
  | bind t f iht ihf => intro s Q K h hq; exact iht h fun a s' h' => ihf a h' hq
  | logd t _ => intro s Q K h hq; obtain ⟨a, c, h', lg, h1, h2⟩ := h; exact Nat.le_trans (run_ctr t h1) (hq _ _ h2)
theorem wpt_leK {α : Type} {t : T α} {s : St} {Q : α → St → Prop} {K : Option Nat} (h : wpt t s Q) (hq : ∀ a s', Q a s' → leK s'.ctr K) : leK s.ctr K :=
  fun k hk => wpt_le t h fun a s' h' => hq a s' h' k hk

def CallPost (m : Inj) (base : Nat) (w : World) (c : Nat) (Q : Value → St → Prop) : Ending → World → Prop := fun e w' =>
  ∃ v v' s' m', e = .returned v' ∧ Q v s' ∧ VRel m' v v' ∧ Aft m base w c m' s' w'
/-- The calls that programs make are the model's. -/
def CallOK (P : Program) (base : Nat) (callF : Tgt → List Value → T Value) : Prop :=
  (∀ (f : FuncId) (args : List Value) (args' : Array Value) (s : St) (w : World) (m : Inj) (K : Option Nat) (Q : Value → St → Prop), wpt (callF (.fn f) args) s Q → (∀ v s', Q v s' → leK s'.ctr K) → FreeK m s.ctr K → Sim m base s.h w → LRel m args args'.toList →
    (∃ fn c, P.funcs[f]? = some fn ∧ fn.body = some c) ∧ Calls P f args' w (CallPost m base w s.ctr Q)) ∧
  (∀ (l : Nat) (i : Img) (args : List Value) (args' : Array Value) (s : St) (w : World) (m : Inj) (K : Option Nat) (Q : Value → St → Prop), wpt (callF (.yield l) args) s Q → (∀ v s', Q v s' → leK s'.ctr K) → FreeK m s.ctr K → Sim m base s.h w → LRel m args args'.toList → m l = some i →
    ∃ f tmps assign body, (Instr.yield i.blk args').run P w = .ok (.round i.blk f tmps assign body) w ∧ RoundIn Fence.wide 0 P i.blk f tmps assign body w (CallPost m base w s.ctr Q)) ∧
  (∀ (f : FuncId) (args : List Value) (args' : Array Value) (s : St) (w : World) (m : Inj) (K : Option Nat) (Q : Value → St → Prop), wpt (callF (.dfn f) args) s Q → (∀ v s', Q v s' → leK s'.ctr K) → FreeK m s.ctr K → Sim m base s.h w → LRel m args args'.toList →
    (∃ fn c, P.funcs[f]? = some fn ∧ fn.body = some c) ∧ ∀ u, CallsDIn Fence.wide 0 P f args' u w fun e u' w' => u' = u ∧ CallPost m base w s.ctr Q e w')
/-- No function of ours has the one name that the model takes for itself. -/
def NamesOK (P : Program) : Prop := ∀ (f : Nat) (fn : Func), P.funcs[f]? = some fn → fn.body.isSome = true → (fn.name == "runtime.NumGoroutine") = false
def FW (r : Option Nat) : Fence := { fn := fun _ => True, depth := none, alive := false, round := r }
theorem roundFW {P : Program} {l : Nat} {f : FuncId} {tmps : Array Value} {assign body : Code} {w : World} {R : Ending → World → Prop} (r : Option Nat) (h : RoundIn Fence.wide 0 P l f tmps assign body w R) : RoundIn (FW r) 0 P l f tmps assign body w R := h
theorem callsFW {P : Program} {f : FuncId} {args : Array Value} {w : World} {R : Ending → World → Prop} (r : Option Nat) (n : Nat) (h : Calls P f args w R) : CallsIn (FW r) n P f args w R :=
  (callsIn_wide (n := n)).2 h
section
variable {P : Program} {base : Nat} {callF : Tgt → List Value → T Value} {n : Nat} {M : Ms}
theorem isDefer_no {o : Oper} {callF : Tgt → List Value → T Value} {ρ : Operand → Value} {s : St} {Q : Value → St → Prop} (h : wpt (opT P callF ρ o) s Q) : ∀ c, o.op ≠ .defer c := by
  intro c hc
  unfold opT at h
  rw [hc] at h
  exact h.elim
/-- One operation that is carried out. -/
theorem oper_sim (hN : NamesOK P) (hC : CallOK P base callF) {r : Option Nat} {o : Oper} {fr : Fr} {a : Act} {s : St} {w : World} {m : Inj} {K : Option Nat} {Q : Value → St → Prop} (hw : wpt (opT P callF fr.eval o) s Q) (hQ : ∀ v s', Q v s' → leK s'.ctr K)
    (hf : FreeK m s.ctr K) (hs : Sim m base s.h w) (hr : FRel n M m fr a) (ho : okOp o = true) {next : Act → World → Prop} {Qe : Exit → Act → World → Prop}
    (hn : ∀ v v' s' m' w', Q v s' → VRel m' v v' → Aft m base w s.ctr m' s' w' → next (a.put o.dst v') w') : o.wpIn (FW r) 0 P a w next Qe := by
  refine ⟨fun _ _ => trivial, ?_⟩
  rw [Oper.semAt_eq _ _ _ (isDefer_no hw)]
  cases hcall : isCall o.op with
  | false =>
    obtain ⟨v, c', h', lg', h1, h2⟩ := run_of_wpt _ [] (NC.opT P callF fr.eval o hcall) hw
    have hk := hQ v _ h2
    obtain ⟨v', m', w', h3, h4, h5, h6, h7⟩ := op_sim hs h1 hcall (hr.ops ho) fun k hk1 hk2 => hf k hk1 fun k' e => Nat.lt_of_lt_of_le hk2 (hk k' e)
    have hafter : Aft m base w s.ctr m' ⟨c', h'⟩ w' := ⟨h5, h6, run_ctr _ h1, h7⟩
    rcases h3 with h3 | ⟨rfl, h3⟩
    · rw [h3]; exact hn v v' _ m' w' h2 h4 hafter
    · rw [h3]; exact hn v _ _ m' w' h2 h4 hafter
  | true =>
    obtain ⟨dst, op, type, pos, after, guard⟩ := o
    cases op <;> simp [isCall] at hcall
    next c =>
    obtain ⟨callee, args, argTypes⟩ := c
    cases callee with
    | builtin b => simp at hcall
    | invoke _ _ => exact hw.elim
    | value f =>
      have hops := hr.ops ho
      simp only [Op.operands, Call.operands] at hops
      have hfv := hops f (by simp)
      have hargs : LRel m (args.toList.map fr.eval) (args.toList.map a.eval) := LRel.map fun x hx => hops x (by simp [Array.mem_toList_iff.1 hx])
      have hw' : wpt (callValT callF (fr.eval f) (args.toList.map fr.eval)) s Q := hw
      unfold callValT at hw'
      generalize hfe : fr.eval f = vf at hw' hfv
      split at hw'
      · next g first captured =>
        cases hq : a.eval f <;> rw [hq] at hfv <;> cases hfv
        next first' captured' _ h1 h2 =>
        obtain ⟨⟨fn, code, hfn, hbody⟩, hcalls⟩ := hC.1 g _ (first' ++ args.map a.eval ++ captured') s w m K Q hw' hQ hf hs (by
          simp only [Array.toList_append, Array.toList_map, List.append_assoc]
          exact h1.append (hargs.append h2))
        have hname : ¬ fn.name = "runtime.NumGoroutine" := by simpa using hN g fn hfn (by rw [hbody]; rfl)
        have hrun : (execOp a.eval { dst := dst, op := .call { callee := .value f, args := args, argTypes := argTypes }, type := type, pos := pos, after := after, guard := guard }).run P w = .ok (.enter g (first' ++ args.map a.eval ++ captured')) w := by
          simp [execOp, resolve, hq, Deferred.ofValue, invoke, callFunc, hfn, hname, hbody]
        rw [hrun]
        refine ⟨(fun h => by cases h), callsFW r _ (hcalls.mono fun e w' he => ?_)⟩
        obtain ⟨v, v', s', m', rfl, k1, k2, k3⟩ := he
        exact hn v v' s' m' w' k1 k2 k3
      · next l first captured =>
        cases hq : a.eval f <;> rw [hq] at hfv <;> cases hfv
        case func => next hok _ _ => exact hok.elim
        next i hi =>
        obtain ⟨g, tmps, assign, body, hy, hround⟩ := hC.2.1 l i _ (args.map a.eval) s w m K Q hw' hQ hf hs (by simpa using hargs) hi
        have hrun : (execOp a.eval { dst := dst, op := .call { callee := .value f, args := args, argTypes := argTypes }, type := type, pos := pos, after := after, guard := guard }).run P w = .ok (.round i.blk g tmps assign body) w := by
          simpa [execOp, resolve, hq, Deferred.ofValue, invoke] using hy
        rw [hrun]
        refine ⟨(fun h => by cases h), roundFW r (hround.mono fun e w' he => ?_)⟩
        obtain ⟨v, v', s', m', rfl, k1, k2, k3⟩ := he
        exact hn v v' s' m' w' k1 k2 k3
      · exact hw'.elim
theorem step_sim (hN : NamesOK P) (hC : CallOK P base callF) {r : Option Nat} {o : Oper} {ops : List Oper} {fr : Fr} {a : Act} {s : St} {w : World} {m : Inj} {K : Option Nat} {Q : Fr → St → Prop} (hw : wpt (stepT P callF n ops o fr) s Q) (hQ : ∀ v s', Q v s' → leK s'.ctr K)
    (hf : FreeK m s.ctr K) (hs : Sim m base s.h w) (hr : FRel n M m fr a) {next : Act → World → Prop} {Qe : Exit → Act → World → Prop}
    (hn : ∀ fr' a' s' m' w', Q fr' s' → FRel n M m' fr' a' → Aft m base w s.ctr m' s' w' → next a' w') :
    if Region.wanted o (yielded ops.toArray a.tmps) then o.wpIn (FW r) 0 P a w next Qe else (∀ f, o.about P w a.eval = some f → (FW r).fn f) ∧ next (a.put o.dst undef) w := by
  unfold stepT at hw
  rw [← hr.wanted ops o]
  cases hwt : wantedF ops fr o with
  | true =>
    rw [hwt, bite_true] at hw
    cases hok : okOp o with
    | false => rw [hok] at hw; exact hw.elim
    | true =>
      rw [hok] at hw
      have hw : wpt (opT P callF fr.eval o) s (fun v s' => Q (fr.put n o.dst v) s') := hw
      rw [if_pos rfl]
      exact oper_sim hN hC hw (fun v s' => hQ _ s') hf hs hr hok fun v v' s' m' w' h1 h2 h3 => hn _ _ s' m' w' h1 ((hr.mono h3.go.le).put _ h2) h3
  | false =>
    rw [hwt, bite_false] at hw
    rw [if_neg (by simp)]
    exact ⟨fun _ _ => trivial, hn _ _ s m w hw (hr.put _ (.tuple .nil)) (Aft.refl hs)⟩
theorem wpOpsIn_cons {F : Fence} {k : Nat} {ops : Array Oper} {Q : Exit → Act → World → Prop} {i : Nat} {rest : List Nat} {a : Act} {w : World} {o : Oper} (ho : ops[i]? = some o)
    (h : if Region.wanted o (yielded ops a.tmps) then o.wpIn F k P a w (wpOpsIn F k P ops Q rest) Q else (∀ f, o.about P w a.eval = some f → F.fn f) ∧ wpOpsIn F k P ops Q rest (a.put o.dst undef) w) : wpOpsIn F k P ops Q (i :: rest) a w := by
  unfold wpOpsIn
  simp only [ho]
  exact h
theorem seqT_cons (rd : Bool) (ops : List Oper) (o : Oper) (l : List Oper) (fr : Fr) : seqT P callF n rd ops (o :: l) fr = (stepS P callF n rd ops o fr).bind fun fr => seqT P callF n rd ops l fr := rfl
theorem Fr.get_t (fr : Fr) (ds : List Deferred) (k : Nat) : Fr.get ⟨fr.t, ds⟩ k = fr.get k := by obtain ⟨t, ds⟩ := fr; rfl
theorem stepS_sim (hN : NamesOK P) (hC : CallOK P base callF) {r : Option Nat} {rd : Bool} (hrd : rd = false → r = none) {o : Oper} {ops : List Oper} {fr : Fr} {a : Act} {s : St} {w : World} {m : Inj} {K : Option Nat} {Q : Fr → St → Prop} (hw : wpt (stepS P callF n rd ops o fr) s Q) (hQ : ∀ v s', Q v s' → leK s'.ctr K)
    (hf : FreeK m s.ctr K) (hs : Sim m base s.h w) (hr : FRel n M m fr a) {next : Act → World → Prop} {Qe : Exit → Act → World → Prop}
    (hn : ∀ fr' a' s' m' w' (M' : Ms), M'.marks = M.marks → Q fr' s' → FRel n M' m' fr' a' → Aft m base w s.ctr m' s' w' → next a' w') :
    if Region.wanted o (yielded ops.toArray a.tmps) then o.wpIn (FW r) 0 P a w next Qe else (∀ f, o.about P w a.eval = some f → (FW r).fn f) ∧ next (a.put o.dst undef) w := by
  unfold stepS at hw
  split at hw
  · next c hop =>
    rw [← hr.wanted ops o]
    cases hwt : wantedF ops fr o with
    | false => rw [hwt] at hw; exact hw.elim
    | true =>
      rw [hwt, bite_true] at hw
      cases hck : (not rd && okOp o) with
      | false => rw [hck] at hw; exact hw.elim
      | true =>
        rw [hck] at hw
        rw [Bool.and_eq_true, Bool.not_eq_true'] at hck
        obtain ⟨hrd', hok⟩ := hck
        obtain rfl := hrd hrd'
        have hw : wpt (deferT n o c fr) s Q := hw
        rw [if_pos rfl]
        refine ⟨fun _ _ => trivial, ?_⟩
        have hops := hr.ops hok
        obtain ⟨dst, op, type, pos, after, guard⟩ := o
        simp only at hop
        subst hop
        obtain ⟨callee, args, argTypes⟩ := c
        cases callee with
        | builtin b => exact hw.elim
        | invoke _ _ => exact hw.elim
        | value f =>
          simp only [Op.operands, Call.operands] at hops
          have hfv := hops f (by simp)
          have hargs : LRel m (args.toList.map fr.eval) (args.toList.map a.eval) := LRel.map fun x hx => hops x (by simp [Array.mem_toList_iff.1 hx])
          unfold deferT at hw
          simp only at hw
          generalize hfe : fr.eval f = vf at hw hfv
          split at hw
          · next g first captured =>
            cases hq : a.eval f <;> rw [hq] at hfv <;> cases hfv
            next first' captured' _ h1 h2 =>
            have hrun : (({ dst := dst, op := .defer { callee := .value f, args := args, argTypes := argTypes }, type := type, pos := pos, after := after, guard := guard } : Oper).semAt (FW none).round a.eval).run P w = .ok (.defer { target := .fn (.func g) captured', args := first' ++ args.map a.eval }) w := by
              simp [FW, Oper.semAt_none, execOp, resolve, hq, Deferred.ofValue]
            rw [hrun]
            have hr2 : FRel n ⟨M.marks, { target := .fn (.func g) captured, args := ⟨first.toList ++ args.toList.map fr.eval⟩ } :: fr.ds⟩ m ⟨fr.t, { target := .fn (.func g) captured, args := ⟨first.toList ++ args.toList.map fr.eval⟩ } :: fr.ds⟩ { a with defers := { target := .fn (.func g) captured', args := first' ++ args.map a.eval } :: a.defers } := by
              refine ⟨fun k => by rw [Fr.get_t]; exact hr.tmps k, hr.size, rfl, ?_⟩
              rw [hr.ds]
              refine .call ?_ h2 hr.defers
              simp only [Array.toList_append, Array.toList_map]
              exact h1.append hargs
            exact hn _ _ s m w ⟨M.marks, { target := .fn (.func g) captured, args := ⟨first.toList ++ args.toList.map fr.eval⟩ } :: fr.ds⟩ rfl hw (hr2.put dst (.tuple .nil)) (Aft.refl hs)
          · exact hw.elim
  · exact step_sim hN hC hw hQ hf hs hr fun fr' a' s' m' w' h1 h2 h3 => hn fr' a' s' m' w' M rfl h1 h2 h3
theorem seq_sim (hN : NamesOK P) (hC : CallOK P base callF) {r : Option Nat} {rd : Bool} (hrd : rd = false → r = none) {ops : List Oper} {K : Option Nat} {Q : Fr → St → Prop} (hQ : ∀ v s', Q v s' → leK s'.ctr K) {Qe : Exit → Act → World → Prop} {m0 : Inj} {w0 : World} {c0 : Nat} {L : List Nat}
    (hn : ∀ fr' a' s' m' w' (M' : Ms), M'.marks = L → Q fr' s' → FRel n M' m' fr' a' → Aft m0 base w0 c0 m' s' w' → Qe .normal a' w') :
    ∀ (l : List Oper) (k : Nat), (∀ j, l[j]? = ops[k + j]?) → ∀ {M : Ms} {fr : Fr} {a : Act} {s : St} {w : World} {m : Inj}, M.marks = L → wpt (seqT P callF n rd ops l fr) s Q → FreeK m s.ctr K → Sim m base s.h w → FRel n M m fr a → Aft m0 base w0 c0 m s w →
      wpOpsIn (FW r) 0 P ops.toArray Qe (List.range' k l.length) a w := by
  intro l
  induction l with
  | nil =>
    intro k _ M fr a s w m hL hw hf hs hr ha
    exact hn fr a s m w M hL hw hr ha
  | cons o l ih =>
    intro k hk M fr a s w m hL hw hf hs hr ha
    rw [List.length_cons, List.range'_succ]
    have ho : ops.toArray[k]? = some o := by have := hk 0; simpa using this.symm
    rw [seqT_cons] at hw
    have hw : wpt (stepS P callF n rd ops o fr) s (fun fr' s' => wpt (seqT P callF n rd ops l fr') s' Q) := hw
    refine wpOpsIn_cons ho (stepS_sim hN hC hrd hw (fun v s' h => wpt_leK h hQ) hf hs hr fun fr' a' s' m' w' M' hM' h1 h2 h3 => ?_)
    exact ih (k + 1) (fun j => by have := hk (j + 1); simpa [Nat.add_assoc, Nat.add_comm 1 j] using this) (hM'.trans hL) h1 (hf.after h3) h3.sim h2 (ha.trans h3)
end
end Go.Ab
