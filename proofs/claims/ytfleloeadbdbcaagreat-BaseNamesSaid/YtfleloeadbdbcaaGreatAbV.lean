/- Code and calls, simulated; what a run of the abstract machine says of the model. -/
import Derived.Test.YtfleloeadbdbcaaGreatAbU
import Derived.RangeFuncLeaves
namespace Go.Ab
open Go.RowKit

section loops
variable {F : Fence} {n : Nat} {P : Program} {Q : Exit → Act → World → Prop}
/-- At the head of a loop's round. -/
def HeadIn (F : Fence) (n : Nat) (P : Program) (c : Code) (Q : Exit → Act → World → Prop) (a : Act) (w : World) : Prop :=
  ∀ (b : Frame) (k : List Item) (cs : List Frame), b.roundOf = F.round → F.fn b.fn → F.room (cs.length + 1 + n) →
    ∃ e a' w', Q e a' w' ∧ ArrivesIn (Machine.fenced P F) P (lone (b.atR a (.code c :: .inLoop c :: k)) cs w) b k cs e a' w'
theorem head_step {c : Code} {a : Act} {w : World} (h : c.wpIn F n P (Exit.then (HeadIn F n P c Q) Q) a w) : HeadIn F n P c Q a w := by
  intro b k cs hro hb hr
  obtain ⟨e, a₁, w₁, hq, harr⟩ := h b (.inLoop c :: k) cs hro hb hr
  cases e with
  | normal =>
    obtain ⟨e₂, a₂, w₂, hq₂, harr₂⟩ := hq b k cs hro hb hr
    exact ⟨e₂, a₂, w₂, hq₂, .of_steps (StepsIn.trans harr (.one (fenced_calm hb hr rfl) stepR_inLoop)) harr₂⟩
  | exit id => exact ⟨_, a₁, w₁, hq, .pass (x := .inLoop c) rfl (fun _ _ => .inl (by simp)) harr⟩
  | goto l => exact ⟨_, a₁, w₁, hq, .pass (x := .inLoop c) rfl (fun _ _ => .inl (by simp)) harr⟩
  | ret => exact ⟨_, a₁, w₁, hq, .pass (x := .inLoop c) rfl (fun _ _ => .inl (by simp)) harr⟩
  | panic ch => exact ⟨_, a₁, w₁, hq, .pass (x := .inLoop c) rfl (fun _ _ => .inl (by simp)) harr⟩
  | outgrown => exact ⟨_, a₁, w₁, hq, .pass (x := .inLoop c) rfl (fun _ _ => .inl (by simp)) harr⟩
theorem loop_of_head {c : Code} {a : Act} {w : World} (h : HeadIn F n P c Q a w) : (Code.loop c).wpIn F n P Q a w := by
  intro b k cs hro hb hr
  obtain ⟨e, a', w', hq, harr⟩ := h b k cs hro hb hr
  exact ⟨e, a', w', hq, .of_steps (.one (fenced_calm hb hr rfl) stepR_loop) harr⟩
end loops
inductive XRel : X → Exit → Prop where
  | normal : XRel .normal .normal
  | ret : XRel .ret .ret
  | exit (id : Nat) : XRel (.exit id) (.exit id)
theorem fwdOK_spec : ∀ {l : List Oper} {i : Nat}, fwdOK i l = true → ∀ (k : Nat) (o : Oper), l[k]? = some o → ∀ e ∈ o.after, Region.binds .any e = true → e.on < i + k
  | [], _, _, k, o, hk => by simp at hk
  | o :: rest, i, h, k, o', hk => by
    simp only [fwdOK, Bool.and_eq_true, List.all_eq_true] at h
    intro e he hb
    cases k with
    | zero =>
      simp at hk; subst hk
      have := h.1 e (Array.mem_toList_iff.2 he)
      rw [hb] at this
      simp only [Bool.not_true, Bool.false_or] at this
      have := (blt_iff _ _).mp this
      omega
    | succ k => have := fwdOK_spec h.2 k o' (by simpa using hk) e he hb; omega
section
variable {P : Program} {base : Nat} {callF : Tgt → List Value → T Value} {n : Nat} {M : Ms}
/-- The marks of loops over functions among the deferred calls: blocks of our own, untouched. -/
structure MOK (B : Nat) (m : Inj) (w : World) (M : List Nat) : Prop where
  nodup : M.Nodup
  all : ∀ r ∈ M, B ≤ r ∧ r < w.heap.size ∧ (∀ n i, m n = some i → i.blk ≠ r) ∧ w.heap[r]? = some (.deferred (some []))
theorem MOK.go {M : List Nat} {B : Nat} {m m' : Inj} {w w' : World} (h : MOK B m w M) (g : Go1 m base w m' w') : MOK B m' w' M := by
  refine ⟨h.nodup, fun r hr => ?_⟩
  obtain ⟨h1, h2, h3, h4⟩ := h.all r hr
  refine ⟨h1, Nat.lt_of_lt_of_le h2 g.size, fun n i hn e => ?_, by rw [g.keep r h2 (.inr h3)]; exact h4⟩
  rcases g.new n i hn with q | q | ⟨n0, i0, q, q'⟩
  · exact h3 n i q e
  · omega
  · exact h3 n0 i0 q (q'.trans e)
theorem Walk.ds {ops : List Oper} {tr : Nat → Tr} (hw : Walk P callF n ops tr) : ∀ {b : Nat}, b ≤ ops.length → (tr b).fr.ds = (tr 0).fr.ds
  | 0, _ => rfl
  | b + 1, hb => by
    obtain ⟨o, ho⟩ : ∃ o, ops[b]? = some o := ⟨ops[b], by simp [show b < ops.length by omega]⟩
    rw [(hw.step b o ho).fr, Fr.put_ds]
    exact hw.ds (by omega)
theorem draw_sim (hM : P.follows .mixedOrders = true) (hN : NamesOK P) (hC : CallOK P base callF) {r : Option Nat} {K : Option Nat} {Q : Fr → St → Prop} (hQ : ∀ v s', Q v s' → leK s'.ctr K) {Qe : Exit → Act → World → Prop} {m0 : Inj} {w0 : World} {c0 : Nat}
    (hn : ∀ fr' a' s' m' w', Q fr' s' → FRel n M m' fr' a' → Aft m0 base w0 c0 m' s' w' → Qe .normal a' w') {id : Nat} {ops : Array Oper} {fr : Fr} {a : Act} {s : St} {w : World} {m : Inj} (hfw : fwdOK 0 ops.toList = true)
    (hw : wpt (drawT P callF n ops.toList (Region.before ops).toList 0 ops.toList [] fr) s Q) (hf : FreeK m s.ctr K) (hs : Sim m base s.h w) (hr : FRel n M m fr a) (ha : Aft m0 base w0 c0 m s w) : (Code.region id ops true).wpIn (FW r) 0 P Qe a w := by
  obtain ⟨tr, t1, t2, t3, t4, t5⟩ := draw_trace ops.toList 0 [] fr s hw
  simp only [Nat.zero_add] at t4 t5
  have hops : ops.toList.toArray = ops := Array.toArray_toList
  have hwk : Walk P callF n ops.toList tr := by
    refine ⟨fun k o hk => (t5 k o hk).1, fun k o k' o' hk hk' hlt => ?_, fun k o hk e he hb => by have := fwdOK_spec hfw k o hk e he hb; omega⟩
    rw [hops]
    exact (t5 k o hk).2.2 k' o' hk' hlt
  have hkN := hQ _ _ t4
  refine wpIn_region_any hM ?_
  have key := any_sim (r := r) (m0 := m) (w0 := w) (Qe := Qe) hN hC hwk (fun fr1 a1 h1 m1 w1 g1 g2 g3 g4 g5 g6 => by
    have hfr : FRel n M m1 (tr ops.toList.length).fr a1 := ⟨fun k => by rw [← g1 k]; exact g3.tmps k, g3.size, by rw [hwk.ds (Nat.le_refl _), t1]; exact hr.ds, g3.defers⟩
    have hsm : Sim m1 base (tr ops.toList.length).h w1 := g4.at_eq fun l => (g2 l).symm
    have hct := hwk.ctr (Nat.zero_le _) (Nat.le_refl _)
    rw [t2] at hct g6
    exact hn _ a1 _ m1 w1 t4 hfr (ha.trans ⟨hsm, g5, hct, g6⟩)) ops.size (Array.replicate ops.size false) fr s.h m a { w with drawn := w.drawn + 1 }
    (by
      refine Nat.le_trans (List.length_filter_le _ _) ?_
      simp)
    ⟨by simp, fun i k hi => by
      exfalso
      by_cases q : i < ops.size <;> simp [q] at hi,
     fun k i hi h1 h2 => by
      rw [hwk.get (k := k) (Nat.zero_le i) hi fun j _ hj => h2 j hj (by by_cases q : j < ops.size <;> simp [q]), t1],
     fun l i hi h1 h2 => by
      rw [hwk.at (l := l) (Nat.zero_le i) hi fun j _ hj => h2 j hj (by by_cases q : j < ops.size <;> simp [q]), t3],
     fun j hj _ x hx1 hx2 => by
      have c1 := hwk.ctr (a := 0) (b := j) (Nat.zero_le _) (by omega)
      have c2 := hwk.ctr (a := j + 1) (b := ops.toList.length) (by omega) (Nat.le_refl _)
      exact hf x (by omega) fun k hk => by have := hkN k hk; simp only at this; omega,
     hr, hs.heap_eq rfl, ⟨m.le_refl, fun _ _ h => .inl h, rfl, rfl, rfl, Nat.le_refl _, fun _ _ _ => rfl⟩, Names.refl _ _ _⟩
  rw [hops] at key
  exact key
theorem endLoopT_sim {m : Inj} {l : Nat} {i : Img} (hi : m l = some i) {s : St} {w : World} {Q : X × Fr → St → Prop} {fr : Fr} (hs : Sim m base s.h w) (hw : wpt ((endLoopT l).bind fun j => jumpT j fr) s Q) :
    ∃ (jump : Option Code) (h' : Heap) (w' : World), (Instr.endLoop i.blk).run P w = .ok jump w' ∧ Sim m base h' w' ∧ Go1 m base w m w' ∧ wpt (jumpT jump fr) ⟨s.ctr, h'⟩ Q := by
  have hw : wpt (endLoopT l) s (fun j s' => wpt (jumpT j fr) s' Q) := hw
  obtain ⟨x, hx, hw⟩ := hw
  cases x with
  | loop al =>
    obtain ⟨i', o, g1, g2, g3, g4⟩ := hs.objs l _ hx rfl
    obtain rfl : i' = i := by rw [hi] at g1; injection g1 with g1; exact g1.symm
    cases g4 with
    | @loop _ cl hl =>
      have hst : al.state ≠ .busy := by
        intro e; simp only [e] at hw; exact hw.elim
      have hw : wpt (jumpT al.pending fr) ⟨s.ctr, s.h.put (l, 0) (.loop { al with state := .exhausted })⟩ Q := by
        cases hq : al.state <;> simp only [hq] at hw <;> first | exact absurd hq hst | exact hw
      obtain ⟨k1, k2⟩ := hs.setObj (x' := .loop { al with state := .exhausted }) (o' := .loop { cl with state := .exhausted }) hx rfl hi rfl (.loop ⟨rfl, hl.pending, hl.params, hl.assign, hl.body, hl.size, hl.tmps⟩)
      refine ⟨al.pending, _, _, ?_, k1, k2, hw⟩
      have hbusy : cl.state ≠ LoopState.busy := by rw [hl.state]; exact hst
      simp [Instr.endLoop, Instr.getLoop, getObj, setObj, Sem.run, g3, hbusy, hl.pending, setO]
  | val v => exact hw.elim
  | blk b => exact hw.elim
  | map es k => exact hw.elim
  | iter a b c d => exact hw.elim
theorem Fr.mark_get (fr : Fr) (k : Nat) : fr.mark.get k = fr.get k := by obtain ⟨t, ds⟩ := fr; rfl
set_option maxHeartbeats 1000000 in
theorem range_sim (hN : NamesOK P) (hC : CallOK P base callF) {K : Option Nat} {B : Nat} {m0 : Inj} {w0 : World} {c0 : Nat} (hB : B ≤ w0.heap.size) (hf0 : FreeK m0 c0 K) {f : Operand} {ps : Array Tmp} {x y : Code} {Q : X × Fr → St → Prop} {Qe : Exit → Act → World → Prop} (hQ : ∀ v s', Q v s' → leK s'.ctr K)
    (hn : ∀ x e fr' a' s' m' w' M', XRel x e → Q (x, fr') s' → FRel n M' m' fr' a' → MOK B m' w' M'.marks → Aft m0 base w0 c0 m' s' w' → Qe e a' w') {fr : Fr} {a : Act} {s : St} {w : World} {m : Inj} {g : FuncId} {first captured first' captured' : Array Value}
    (hw : wpt (callF (.fn g) (first.toList ++ (.func (.yield s.ctr) #[] #[] :: captured.toList))) ⟨s.ctr + 1, s.h.put (s.ctr, 0) (.loop ⟨.ready, none, n, fr.t, ps, x, y⟩)⟩ (fun _ s' => wpt ((endLoopT s.ctr).bind fun j => jumpT j fr.mark) s' Q))
    (hcm : m s.ctr = none) (hq : a.eval f = .func (.func g) first' captured') (h1 : LRel m first.toList first'.toList) (h2 : LRel m captured.toList captured'.toList) (hr : FRel n M m fr a) (hm : MOK B m w M.marks) (ha : Aft m0 base w0 c0 m s w) :
    (Code.rangeFunc f ps x y).wpIn (FW none) 0 P Qe a w := by
  refine wpIn_rangeFunc (F := FW none) (n := 0) fun fn _ => ?_
  have hs1 := ha.sim.alloc (.deferred (some []))
  let cl : Loop := { state := .ready, pending := none, fn, tmps := a.tmps, params := ps, assign := x, body := y, defers := w.heap.size }
  have hlr : LRelO m ⟨.ready, none, n, fr.t, ps, x, y⟩ cl := ⟨rfl, rfl, rfl, rfl, rfl, hr.size, fun k => by
    have := hr.tmps k
    have e : fr.get k = (fr.t.get k).getD undef := by
      obtain ⟨t, ds⟩ := fr
      show Option.rec (motive := fun _ => Value) undef (fun v => v) (t.get k) = _
      cases t.get k <;> rfl
    rwa [e] at this⟩
  obtain ⟨k1, k2, k3⟩ := hs1.addObj hcm (x := .loop ⟨.ready, none, n, fr.t, ps, x, y⟩) (o := .loop cl) rfl (.loop hlr)
  have hsz : (w.alloc (.deferred (some []))).heap.size = w.heap.size + 1 := alloc_size _ _
  rw [hsz] at k1 k2 k3
  have haft : Aft m base w s.ctr (upd m s.ctr ⟨w.heap.size + 1, 0, 0, 0, 0⟩) ⟨s.ctr + 1, s.h.put (s.ctr, 0) (.loop ⟨.ready, none, n, fr.t, ps, x, y⟩)⟩ ((w.alloc (.deferred (some []))).alloc (.loop cl)) :=
    ⟨k1, (Go1.alloc' m base w _).trans k2, Nat.le_succ _, k3⟩
  have hm1 : MOK B (upd m s.ctr ⟨w.heap.size + 1, 0, 0, 0, 0⟩) ((w.alloc (.deferred (some []))).alloc (.loop cl)) (w.heap.size :: M.marks) := by
    have hmo := hm.go haft.go
    refine ⟨List.nodup_cons.2 ⟨fun hin => ?_, hm.nodup⟩, fun q hq => ?_⟩
    · have := (hm.all _ hin).2.1; omega
    · rcases List.mem_cons.1 hq with rfl | hq
      · refine ⟨Nat.le_trans hB ha.go.size, by rw [alloc_size, hsz]; omega, fun n i hn e => ?_, by rw [alloc_old _ _ _ (by rw [hsz]; omega)]; exact alloc_new _ _⟩
        rcases upd_inv hn with ⟨_, rfl⟩ | ⟨_, hn⟩
        · simp at e
        · have := ha.sim.dom n i hn; omega
      · exact hmo.all q hq
  have hargs : LRel (upd m s.ctr ⟨w.heap.size + 1, 0, 0, 0, 0⟩) (first.toList ++ (Value.func (.yield s.ctr) #[] #[] :: captured.toList)) (first' ++ #[Value.func (.yield (w.heap.size + 1)) #[] #[]] ++ captured').toList := by
    have hle := upd_le hcm ⟨w.heap.size + 1, 0, 0, 0, 0⟩
    simp only [Array.toList_append, List.append_assoc]
    exact (h1.mono hle).append (.cons (VRel.yield (i := ⟨w.heap.size + 1, 0, 0, 0, 0⟩) (upd_self _ _ _)) (h2.mono hle))
  obtain ⟨⟨gf, gc, hgf, hgb⟩, hcalls⟩ := hC.1 g _ _ _ ((w.alloc (.deferred (some []))).alloc (.loop cl)) _ K _ hw (fun v s' h => wpt_leK h hQ) ((hf0.after ha).after haft) k1 hargs
  have hname : ¬ gf.name = "runtime.NumGoroutine" := by simpa using hN g gf hgf (by rw [hgb]; rfl)
  refine ⟨w.heap.size + 1, [{ target := .collected w.heap.size, args := #[] }], (w.alloc (.deferred (some []))).alloc (.loop cl), { target := .fn (.func g) captured', args := first' ++ #[Value.func (.yield (w.heap.size + 1)) #[] #[]] }, (w.alloc (.deferred (some []))).alloc (.loop cl), g, first' ++ #[Value.func (.yield (w.heap.size + 1)) #[] #[]] ++ captured', (w.alloc (.deferred (some []))).alloc (.loop cl), ?_, ?_, fun _ _ => trivial, ?_, (fun h => by cases h), callsFW none _ (hcalls.mono fun e w' he => ?_)⟩
  · simp only [Instr.enterLoop, FW, Sem.run_bind, run_newObj, Result.andThen_ok, Sem.run_pure]
    rw [Array.size_push]
    rfl
  · show (Deferred.ofValue (a.eval f) (#[Operand.const (.func (.yield (w.heap.size + 1)) #[] #[])].map a.eval)).run P _ = _
    rw [hq]
    simp [Deferred.ofValue, Act.eval]
  · simp [invoke, callFunc, hgf, hname, hgb]
  · obtain ⟨v, v', s', m', rfl, q1, q2, q3⟩ := he
    have hi' : m' s.ctr = some ⟨w.heap.size + 1, 0, 0, 0, 0⟩ := q3.go.le _ _ (upd_self _ _ _)
    obtain ⟨jump, h', w4, j1, j2, j3, j4⟩ := endLoopT_sim (P := P) hi' q3.sim q1
    have hall : Aft m0 base w0 c0 m' ⟨s'.ctr, h'⟩ w4 := (ha.trans haft).trans (q3.trans ⟨j2, j3, Nat.le_refl _, Names.refl _ _ _⟩)
    have hm2 := (hm1.go q3.go).go j3
    have hr2 : FRel n ⟨w.heap.size :: M.marks, { target := .collected 0, args := #[] } :: M.ds⟩ m' fr.mark { a with defers := [{ target := .collected w.heap.size, args := #[] }] ++ a.defers } :=
      ⟨fun k => by rw [Fr.mark_get]; exact (hr.tmps k).mono (Inj.le_trans haft.go.le q3.go.le), hr.size, by simp [Fr.mark, hr.ds], .mark _ (hr.defers.mono (Inj.le_trans haft.go.le q3.go.le))⟩
    refine ⟨jump, w4, j1, ?_⟩
    cases jump with
    | none => exact hn .normal .normal fr.mark _ _ m' w4 _ .normal j4 hr2 hm2 hall
    | some cc =>
      cases cc <;> (try exact j4.elim)
      · exact wpIn_exit (hn (.exit _) (.exit _) fr.mark _ _ m' w4 _ (.exit _) j4 hr2 hm2 hall)
      · exact wpIn_ret (hn .ret .ret fr.mark _ _ m' w4 _ .ret j4 hr2 hm2 hall)
  
theorem code_sim (hM : P.follows .mixedOrders = true) (hN : NamesOK P) (hC : CallOK P base callF) {r : Option Nat} {rd : Bool} (hrd : rd = false → r = none) {k : Nat} {K : Option Nat} {B : Nat} {m0 : Inj} {w0 : World} {c0 : Nat} (hB : B ≤ w0.heap.size) (hf0 : FreeK m0 c0 K) : ∀ (c : Code) {Q : X × Fr → St → Prop} {Qe : Exit → Act → World → Prop}, (∀ v s', Q v s' → leK s'.ctr K) →
    (∀ x e fr' a' s' m' w' M', XRel x e → Q (x, fr') s' → FRel n M' m' fr' a' → MOK B m' w' M'.marks → Aft m0 base w0 c0 m' s' w' → Qe e a' w') →
    ∀ {M : Ms} {fr : Fr} {a : Act} {s : St} {w : World} {m : Inj}, wpt (codeT P callF n rd k c fr) s Q → FRel n M m fr a → MOK B m w M.marks → Aft m0 base w0 c0 m s w → c.wpIn (FW r) 0 P Qe a w := by
  intro c
  induction c with
  | skip => intro Q Qe hQ hn M fr a s w m hw hr hm ha; exact wpIn_skip (hn _ _ _ _ _ _ _ _ .normal hw hr hm ha)
  | label l => intro Q Qe hQ hn M fr a s w m hw hr hm ha; exact wpIn_label (hn _ _ _ _ _ _ _ _ .normal hw hr hm ha)
  | exit id => intro Q Qe hQ hn M fr a s w m hw hr hm ha; exact wpIn_exit (hn _ _ _ _ _ _ _ _ (.exit id) hw hr hm ha)
  | ret => intro Q Qe hQ hn M fr a s w m hw hr hm ha; exact wpIn_ret (hn _ _ _ _ _ _ _ _ .ret hw hr hm ha)
  | goto l => intro Q Qe hQ hn M fr a s w m hw hr hm ha; exact hw.elim
  | refuse y => intro Q Qe hQ hn M fr a s w m hw hr hm ha; exact hw.elim
  | scope c _ => intro Q Qe hQ hn M fr a s w m hw hr hm ha; exact hw.elim
  | rangeFunc f ps x y _ _ =>
    intro Q Qe hQ hn M fr a s w m hw hr hm ha
    have hw : wpt (whenT (not rd && okOperand f) (T.fresh.bind fun l => (T.put (l, 0) (.loop ⟨.ready, none, n, fr.t, ps, x, y⟩)).bind fun _ =>
      (rangeCallT callF (fr.eval f) l).bind fun _ => (endLoopT l).bind fun j => jumpT j fr.mark)) s Q := hw
    cases hcnd : (not rd && okOperand f) with
    | false => rw [hcnd] at hw; exact hw.elim
    | true =>
      rw [hcnd] at hw
      rw [Bool.and_eq_true, Bool.not_eq_true'] at hcnd
      obtain ⟨hrd', hokf⟩ := hcnd
      obtain rfl := hrd hrd'
      have hw : wpt (rangeCallT callF (fr.eval f) s.ctr) ⟨s.ctr + 1, s.h.put (s.ctr, 0) (.loop ⟨.ready, none, n, fr.t, ps, x, y⟩)⟩ (fun _ s' => wpt ((endLoopT s.ctr).bind fun j => jumpT j fr.mark) s' Q) := hw
      have hfv := hr.eval hokf
      have hleK : leK (s.ctr + 1) K := wpt_leK (s := ⟨s.ctr + 1, _⟩) hw fun v s' h => wpt_leK h hQ
      have hcm : m s.ctr = none := (hf0.after ha) s.ctr (Nat.le_refl _) fun k hk => hleK k hk
      unfold rangeCallT at hw
      generalize hfe : fr.eval f = vf at hw hfv
      split at hw
      · next g first captured =>
        cases hq : a.eval f <;> rw [hq] at hfv <;> cases hfv
        next first' captured' _ h1 h2 =>
        exact range_sim hN hC hB hf0 hQ hn hw hcm hq h1 h2 hr hm ha
      · exact hw.elim
  | region id ops draw =>
    intro Q Qe hQ hn M fr a s w m hw hr hm ha
    cases draw with
    | false =>
      have hw : wpt (seqT P callF n rd ops.toList ops.toList fr) s (fun fr' s' => Q (.normal, fr') s') := hw
      refine wpIn_region ?_
      have := seq_sim (r := r) (Qe := Qe) hN hC hrd (fun v s' h => hQ _ s' h) (fun fr' a' s' m' w' M' hM' h1 h2 h3 => hn .normal .normal fr' a' s' m' w' M' .normal h1 h2 (by rw [hM']; exact hm.go h3.go) (ha.trans h3)) ops.toList 0 (by simp) rfl hw (hf0.after ha) ha.sim hr (Aft.refl ha.sim)
      rw [List.range_eq_range']
      simpa using this
    | true =>
      have hw : wpt (whenT (fwdOK 0 ops.toList) ((drawT P callF n ops.toList (Region.before ops).toList 0 ops.toList [] fr).bind fun fr => .ret (.normal, fr))) s Q := hw
      cases hfw : fwdOK 0 ops.toList with
      | false => rw [hfw] at hw; exact hw.elim
      | true =>
        rw [hfw] at hw
        have hw : wpt (drawT P callF n ops.toList (Region.before ops).toList 0 ops.toList [] fr) s (fun fr' s' => Q (.normal, fr') s') := hw
        exact draw_sim hM hN hC (fun v s' h => hQ _ s' h) (fun fr' a' s' m' w' h1 h2 h3 => hn .normal .normal fr' a' s' m' w' M .normal h1 h2 (hm.go h3.go) (ha.trans h3)) hfw hw (hf0.after ha) ha.sim hr (Aft.refl ha.sim)
  | seq x y ihx ihy =>
    intro Q Qe hQ hn M fr a s w m hw hr hm ha
    have hw : wpt (codeT P callF n rd k x fr) s (fun v s' => wpt (match v.1 with | .normal => codeT P callF n rd k y v.2 | z => .ret (z, v.2)) s' Q) := hw
    refine wpIn_seq (ihx (fun v s' h => wpt_leK h hQ) (fun z e fr' a' s' m' w' M' h1 h2 h3 hm' h4 => ?_) hw hr hm ha)
    cases h1 with
    | normal => exact ihy hQ hn h2 h3 hm' h4
    | ret => exact hn .ret .ret fr' a' s' m' w' M' .ret h2 h3 hm' h4
    | exit id => exact hn (.exit id) (.exit id) fr' a' s' m' w' M' (.exit id) h2 h3 hm' h4
  | cond x y z ihy ihz =>
    intro Q Qe hQ hn M fr a s w m hw hr hm ha
    have hw : wpt (match fr.eval x with | .bool t => bite t (codeT P callF n rd k y fr) (codeT P callF n rd k z fr) | _ => .fail) s Q := hw
    split at hw
    · next t ht =>
      refine wpIn_cond (hr.bool ht) ?_
      cases t with
      | true => exact ihy hQ hn hw hr hm ha
      | false => exact ihz hQ hn hw hr hm ha
    · exact hw.elim
  | block id x ihx =>
    intro Q Qe hQ hn M fr a s w m hw hr hm ha
    have hw : wpt (codeT P callF n rd k x fr) s (fun v s' => wpt (match v.1 with | .exit id' => bite (Nat.beq id' id) (.ret (.normal, v.2)) (.ret (.exit id', v.2)) | z => .ret (z, v.2)) s' Q) := hw
    refine wpIn_block (ihx (fun v s' h => wpt_leK h hQ) (fun z e fr' a' s' m' w' M' h1 h2 h3 hm' h4 => ?_) hw hr hm ha)
    cases h1 with
    | normal => exact hn .normal .normal fr' a' s' m' w' M' .normal h2 h3 hm' h4
    | ret => exact hn .ret .ret fr' a' s' m' w' M' .ret h2 h3 hm' h4
    | exit id' =>
      simp only [Exit.inBlock]
      have h2 : wpt (bite (Nat.beq id' id) (T.ret (X.normal, fr')) (.ret (.exit id', fr'))) s' Q := h2
      by_cases hid : id' = id
      · rw [if_pos hid]
        rw [show Nat.beq id' id = true from (Nat.beq_eq ▸ hid : _)] at h2
        exact hn .normal .normal fr' a' s' m' w' M' .normal h2 h3 hm' h4
      · rw [if_neg hid]
        rw [show Nat.beq id' id = false from by cases hq : Nat.beq id' id with | false => rfl | true => exact absurd (Nat.eq_of_beq_eq_true hq) hid] at h2
        exact hn (.exit id') (.exit id') fr' a' s' m' w' M' (.exit id') h2 h3 hm' h4
  | loop x ihx =>
    intro Q Qe hQ hn M fr a s w m hw hr hm ha
    refine loop_of_head ?_
    have hw : wpt (loopT (codeT P callF n rd k x) k fr) s Q := hw
    have key : ∀ (j : Nat) {M : Ms} {fr : Fr} {a : Act} {s : St} {w : World} {m : Inj}, wpt (loopT (codeT P callF n rd k x) j fr) s Q → FRel n M m fr a → MOK B m w M.marks → Aft m0 base w0 c0 m s w → HeadIn (FW r) 0 P x Qe a w := by
      intro j
      induction j with
      | zero => intro M fr a s w m hw hr hm ha; exact hw.elim
      | succ j ihj =>
        intro M fr a s w m hw hr hm ha
        have hw : wpt (codeT P callF n rd k x fr) s (fun v s' => wpt (match v.1 with | .normal => loopT (codeT P callF n rd k x) j v.2 | z => .ret (z, v.2)) s' Q) := hw
        refine head_step (ihx (fun v s' h => wpt_leK h hQ) (fun z e fr' a' s' m' w' M' h1 h2 h3 hm' h4 => ?_) hw hr hm ha)
        cases h1 with
        | normal => exact ihj h2 h3 hm' h4
        | ret => exact hn .ret .ret fr' a' s' m' w' M' .ret h2 h3 hm' h4
        | exit id => exact hn (.exit id) (.exit id) fr' a' s' m' w' M' (.exit id) h2 h3 hm' h4
    exact key k hw hr hm ha
end
end Go.Ab
