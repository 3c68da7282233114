/- Code and calls, simulated; what a run of the abstract machine says of the model. -/
import Derived.Test.YtohagbcikbaffaaAbU
namespace Go.Ab
open Go.RowKit

section loops
variable {F : Fence} {n : Nat} {P : Program} {Q : Exit → Act → World → Prop}
/-- At the head of a loop's round. -/
def HeadIn (F : Fence) (n : Nat) (P : Program) (c : Code) (Q : Exit → Act → World → Prop) (a : Act) (w : World) : Prop :=
  ∀ (b : Frame) (k : List Item) (cs : List Frame), b.roundOf = F.round → F.fn b.fn → F.room (cs.length + 1 + n) →
    ∃ e a' w', Q e a' w' ∧ ArrivesIn (Machine.fenced P F) P (lone (b.atR a (.code c :: .inLoop c :: k)) cs w) b k cs e a' w'
theorem head_step {c : Code} {a : Act} {w : World} (h : c.wpIn F n P (Exit.then (HeadIn F n P c Q) Q) a w) : HeadIn F n P c Q a w := by
  intro b k cs hro hb hr
  obtain ⟨e, a₁, w₁, hq, harr⟩ := h b (.inLoop c :: k) cs hro hb hr
  cases e with
  | normal =>
    obtain ⟨e₂, a₂, w₂, hq₂, harr₂⟩ := hq b k cs hro hb hr
    exact ⟨e₂, a₂, w₂, hq₂, .of_steps (StepsIn.trans harr (.one (fenced_calm hb hr rfl) stepR_inLoop)) harr₂⟩
  | exit id => exact ⟨_, a₁, w₁, hq, .pass (x := .inLoop c) rfl (fun _ _ => .inl (by simp)) harr⟩
  | goto l => exact ⟨_, a₁, w₁, hq, .pass (x := .inLoop c) rfl (fun _ _ => .inl (by simp)) harr⟩
  | ret => exact ⟨_, a₁, w₁, hq, .pass (x := .inLoop c) rfl (fun _ _ => .inl (by simp)) harr⟩
  | panic ch => exact ⟨_, a₁, w₁, hq, .pass (x := .inLoop c) rfl (fun _ _ => .inl (by simp)) harr⟩
  | outgrown => exact ⟨_, a₁, w₁, hq, .pass (x := .inLoop c) rfl (fun _ _ => .inl (by simp)) harr⟩
theorem loop_of_head {c : Code} {a : Act} {w : World} (h : HeadIn F n P c Q a w) : (Code.loop c).wpIn F n P Q a w := by
  intro b k cs hro hb hr
  obtain ⟨e, a', w', hq, harr⟩ := h b k cs hro hb hr
  exact ⟨e, a', w', hq, .of_steps (.one (fenced_calm hb hr rfl) stepR_loop) harr⟩
end loops
inductive XRel : X → Exit → Prop where
  | normal : XRel .normal .normal
  | ret : XRel .ret .ret
  | exit (id : Nat) : XRel (.exit id) (.exit id)
theorem fwdOK_spec : ∀ {l : List Oper} {i : Nat}, fwdOK i l = true → ∀ (k : Nat) (o : Oper), l[k]? = some o → ∀ e ∈ o.after, Region.binds .any e = true → e.on < i + k
  | [], _, _, k, o, hk => by simp at hk
  | o :: rest, i, h, k, o', hk => by
    simp only [fwdOK, Bool.and_eq_true, List.all_eq_true] at h
    intro e he hb
    cases k with
    | zero =>
      simp at hk; subst hk
      have := h.1 e (Array.mem_toList_iff.2 he)
      rw [hb] at this
      simp only [Bool.not_true, Bool.false_or] at this
      have := (blt_iff _ _).mp this
      omega
    | succ k => have := fwdOK_spec h.2 k o' (by simpa using hk) e he hb; omega
section
variable {P : Program} {base : Nat} {callF : FuncId → List Value → T Value} {n : Nat}
theorem Walk.ds {ops : List Oper} {tr : Nat → Tr} (hw : Walk P callF n ops tr) : ∀ {b : Nat}, b ≤ ops.length → (tr b).fr.ds = (tr 0).fr.ds
  | 0, _ => rfl
  | b + 1, hb => by
    obtain ⟨o, ho⟩ : ∃ o, ops[b]? = some o := ⟨ops[b], by simp [show b < ops.length by omega]⟩
    rw [(hw.step b o ho).fr, Fr.put_ds]
    exact hw.ds (by omega)
theorem draw_sim (hM : P.follows .mixedOrders = true) (hN : NamesOK P) (hC : CallOK P base callF) {r : Option Nat} {K : Option Nat} {Q : Fr → St → Prop} (hQ : ∀ v s', Q v s' → leK s'.ctr K) {Qe : Exit → Act → World → Prop} {m0 : Inj} {w0 : World} {c0 : Nat}
    (hn : ∀ fr' a' s' m' w', Q fr' s' → FRel n m' fr' a' → Aft m0 base w0 c0 m' s' w' → Qe .normal a' w') {id : Nat} {ops : Array Oper} {fr : Fr} {a : Act} {s : St} {w : World} {m : Inj} (hfw : fwdOK 0 ops.toList = true)
    (hw : wpt (drawT P callF n ops.toList (Region.before ops).toList 0 ops.toList [] fr) s Q) (hf : FreeK m s.ctr K) (hs : Sim m base s.h w) (hr : FRel n m fr a) (ha : Aft m0 base w0 c0 m s w) : (Code.region id ops true).wpIn (FW r) 0 P Qe a w := by
  obtain ⟨tr, t1, t2, t3, t4, t5⟩ := draw_trace ops.toList 0 [] fr s hw
  simp only [Nat.zero_add] at t4 t5
  have hops : ops.toList.toArray = ops := Array.toArray_toList
  have hwk : Walk P callF n ops.toList tr := by
    refine ⟨fun k o hk => (t5 k o hk).1, fun k o k' o' hk hk' hlt => ?_, fun k o hk e he hb => by have := fwdOK_spec hfw k o hk e he hb; omega⟩
    rw [hops]
    exact (t5 k o hk).2.2 k' o' hk' hlt
  have hkN := hQ _ _ t4
  refine wpIn_region_any hM ?_
  have key := any_sim (r := r) (m0 := m) (w0 := w) (Qe := Qe) hN hC hwk (fun fr1 a1 h1 m1 w1 g1 g2 g3 g4 g5 g6 => by
    have hfr : FRel n m1 (tr ops.toList.length).fr a1 := ⟨fun k => by rw [← g1 k]; exact g3.tmps k, g3.size, by rw [hwk.ds (Nat.le_refl _), t1]; exact hr.ds, g3.defers⟩
    have hsm : Sim m1 base (tr ops.toList.length).h w1 := g4.at_eq fun l => (g2 l).symm
    have hct := hwk.ctr (Nat.zero_le _) (Nat.le_refl _)
    rw [t2] at hct g6
    exact hn _ a1 _ m1 w1 t4 hfr (ha.trans ⟨hsm, g5, hct, g6⟩)) ops.size (Array.replicate ops.size false) fr s.h m a { w with drawn := w.drawn + 1 }
    (by
      refine Nat.le_trans (List.length_filter_le _ _) ?_
      simp)
    ⟨by simp, fun i k hi => by
      exfalso
      by_cases q : i < ops.size <;> simp [q] at hi,
     fun k i hi h1 h2 => by
      rw [hwk.get (k := k) (Nat.zero_le i) hi fun j _ hj => h2 j hj (by by_cases q : j < ops.size <;> simp [q]), t1],
     fun l i hi h1 h2 => by
      rw [hwk.at (l := l) (Nat.zero_le i) hi fun j _ hj => h2 j hj (by by_cases q : j < ops.size <;> simp [q]), t3],
     fun j hj _ x hx1 hx2 => by
      have c1 := hwk.ctr (a := 0) (b := j) (Nat.zero_le _) (by omega)
      have c2 := hwk.ctr (a := j + 1) (b := ops.toList.length) (by omega) (Nat.le_refl _)
      exact hf x (by omega) fun k hk => by have := hkN k hk; simp only at this; omega,
     hr, hs.heap_eq rfl, ⟨m.le_refl, fun _ _ h => .inl h, rfl, rfl, rfl, Nat.le_refl _, fun _ _ _ => rfl⟩, Names.refl _ _ _⟩
  rw [hops] at key
  exact key
theorem code_sim (hM : P.follows .mixedOrders = true) (hN : NamesOK P) (hC : CallOK P base callF) {r : Option Nat} {k : Nat} {K : Option Nat} {m0 : Inj} {w0 : World} {c0 : Nat} (hf0 : FreeK m0 c0 K) : ∀ (c : Code) {Q : X × Fr → St → Prop} {Qe : Exit → Act → World → Prop}, (∀ v s', Q v s' → leK s'.ctr K) →
    (∀ x e fr' a' s' m' w', XRel x e → Q (x, fr') s' → FRel n m' fr' a' → Aft m0 base w0 c0 m' s' w' → Qe e a' w') →
    ∀ {fr : Fr} {a : Act} {s : St} {w : World} {m : Inj}, wpt (codeT P callF n k c fr) s Q → FRel n m fr a → Aft m0 base w0 c0 m s w → c.wpIn (FW r) 0 P Qe a w := by
  intro c
  induction c with
  | skip => intro Q Qe hQ hn fr a s w m hw hr ha; exact wpIn_skip (hn _ _ _ _ _ _ _ .normal hw hr ha)
  | label l => intro Q Qe hQ hn fr a s w m hw hr ha; exact wpIn_label (hn _ _ _ _ _ _ _ .normal hw hr ha)
  | exit id => intro Q Qe hQ hn fr a s w m hw hr ha; exact wpIn_exit (hn _ _ _ _ _ _ _ (.exit id) hw hr ha)
  | ret => intro Q Qe hQ hn fr a s w m hw hr ha; exact wpIn_ret (hn _ _ _ _ _ _ _ .ret hw hr ha)
  | goto l => intro Q Qe hQ hn fr a s w m hw hr ha; exact hw.elim
  | refuse y => intro Q Qe hQ hn fr a s w m hw hr ha; exact hw.elim
  | scope c _ => intro Q Qe hQ hn fr a s w m hw hr ha; exact hw.elim
  | rangeFunc f ps x y _ _ => intro Q Qe hQ hn fr a s w m hw hr ha; exact hw.elim
  | region id ops draw =>
    intro Q Qe hQ hn fr a s w m hw hr ha
    cases draw with
    | false =>
      have hw : wpt (seqT P callF n ops.toList ops.toList fr) s (fun fr' s' => Q (.normal, fr') s') := hw
      refine wpIn_region ?_
      have := seq_sim (r := r) (Qe := Qe) hN hC (fun v s' h => hQ _ s' h) (fun fr' a' s' m' w' h1 h2 h3 => hn .normal .normal fr' a' s' m' w' .normal h1 h2 h3) ops.toList 0 (by simp) hw (hf0.after ha) ha.sim hr ha
      rw [List.range_eq_range']
      simpa using this
    | true =>
      have hw : wpt (whenT (fwdOK 0 ops.toList) ((drawT P callF n ops.toList (Region.before ops).toList 0 ops.toList [] fr).bind fun fr => .ret (.normal, fr))) s Q := hw
      cases hfw : fwdOK 0 ops.toList with
      | false => rw [hfw] at hw; exact hw.elim
      | true =>
        rw [hfw] at hw
        have hw : wpt (drawT P callF n ops.toList (Region.before ops).toList 0 ops.toList [] fr) s (fun fr' s' => Q (.normal, fr') s') := hw
        exact draw_sim hM hN hC (fun v s' h => hQ _ s' h) (fun fr' a' s' m' w' h1 h2 h3 => hn .normal .normal fr' a' s' m' w' .normal h1 h2 h3) hfw hw (hf0.after ha) ha.sim hr ha
  | seq x y ihx ihy =>
    intro Q Qe hQ hn fr a s w m hw hr ha
    have hw : wpt (codeT P callF n k x fr) s (fun v s' => wpt (match v.1 with | .normal => codeT P callF n k y v.2 | z => .ret (z, v.2)) s' Q) := hw
    refine wpIn_seq (ihx (fun v s' h => wpt_leK h hQ) (fun z e fr' a' s' m' w' h1 h2 h3 h4 => ?_) hw hr ha)
    cases h1 with
    | normal => exact ihy hQ hn h2 h3 h4
    | ret => exact hn .ret .ret fr' a' s' m' w' .ret h2 h3 h4
    | exit id => exact hn (.exit id) (.exit id) fr' a' s' m' w' (.exit id) h2 h3 h4
  | cond x y z ihy ihz =>
    intro Q Qe hQ hn fr a s w m hw hr ha
    have hw : wpt (match fr.eval x with | .bool t => bite t (codeT P callF n k y fr) (codeT P callF n k z fr) | _ => .fail) s Q := hw
    split at hw
    · next t ht =>
      refine wpIn_cond (hr.bool ht) ?_
      cases t with
      | true => exact ihy hQ hn hw hr ha
      | false => exact ihz hQ hn hw hr ha
    · exact hw.elim
  | block id x ihx =>
    intro Q Qe hQ hn fr a s w m hw hr ha
    have hw : wpt (codeT P callF n k x fr) s (fun v s' => wpt (match v.1 with | .exit id' => bite (Nat.beq id' id) (.ret (.normal, v.2)) (.ret (.exit id', v.2)) | z => .ret (z, v.2)) s' Q) := hw
    refine wpIn_block (ihx (fun v s' h => wpt_leK h hQ) (fun z e fr' a' s' m' w' h1 h2 h3 h4 => ?_) hw hr ha)
    cases h1 with
    | normal => exact hn .normal .normal fr' a' s' m' w' .normal h2 h3 h4
    | ret => exact hn .ret .ret fr' a' s' m' w' .ret h2 h3 h4
    | exit id' =>
      simp only [Exit.inBlock]
      have h2 : wpt (bite (Nat.beq id' id) (T.ret (X.normal, fr')) (.ret (.exit id', fr'))) s' Q := h2
      by_cases hid : id' = id
      · rw [if_pos hid]
        rw [show Nat.beq id' id = true from (Nat.beq_eq ▸ hid : _)] at h2
        exact hn .normal .normal fr' a' s' m' w' .normal h2 h3 h4
      · rw [if_neg hid]
        rw [show Nat.beq id' id = false from by cases hq : Nat.beq id' id with | false => rfl | true => exact absurd (Nat.eq_of_beq_eq_true hq) hid] at h2
        exact hn (.exit id') (.exit id') fr' a' s' m' w' (.exit id') h2 h3 h4
  | loop x ihx =>
    intro Q Qe hQ hn fr a s w m hw hr ha
    refine loop_of_head ?_
    have hw : wpt (loopT (codeT P callF n k x) k fr) s Q := hw
    have key : ∀ (j : Nat) {fr : Fr} {a : Act} {s : St} {w : World} {m : Inj}, wpt (loopT (codeT P callF n k x) j fr) s Q → FRel n m fr a → Aft m0 base w0 c0 m s w → HeadIn (FW r) 0 P x Qe a w := by
      intro j
      induction j with
      | zero => intro fr a s w m hw hr ha; exact hw.elim
      | succ j ihj =>
        intro fr a s w m hw hr ha
        have hw : wpt (codeT P callF n k x fr) s (fun v s' => wpt (match v.1 with | .normal => loopT (codeT P callF n k x) j v.2 | z => .ret (z, v.2)) s' Q) := hw
        refine head_step (ihx (fun v s' h => wpt_leK h hQ) (fun z e fr' a' s' m' w' h1 h2 h3 h4 => ?_) hw hr ha)
        cases h1 with
        | normal => exact ihj h2 h3 h4
        | ret => exact hn .ret .ret fr' a' s' m' w' .ret h2 h3 h4
        | exit id => exact hn (.exit id) (.exit id) fr' a' s' m' w' (.exit id) h2 h3 h4
    exact key k hw hr ha
theorem fill0_get : ∀ (vs : List Value) (i : Nat) (t : Trie Value) (k : Nat), (fill0 vs i t).get k = if k < i then t.get k else match vs[k - i]? with | some v => some v | none => t.get k
  | [], i, t, k => by simp [show fill0 [] i t = t from rfl]
  | v :: vs, i, t, k => by
    rw [show fill0 (v :: vs) i t = fill0 vs (i + 1) (t.set i v) from rfl, fill0_get vs (i + 1) (t.set i v) k, Trie.get_set]
    rcases Nat.lt_trichotomy k i with h | h | h
    · rw [if_pos (by omega), if_pos h, if_neg (by omega)]
    · subst h
      rw [if_pos (by omega), if_pos rfl, if_neg (by omega)]
      simp
    · rw [if_neg (by omega), if_neg (by omega), if_neg (by omega), show k - i = (k - (i + 1)) + 1 by omega]
      simp
theorem frel_enter {m : Inj} {args : List Value} {args' : Array Value} (ha : LRel m args args'.toList) (nt : Nat) :
    FRel (bite (Nat.ble args.length nt) nt args.length) m ⟨fill0 args 0 .leaf, []⟩ { tmps := args' ++ Array.replicate (nt - args'.size) undef, defers := [] } := by
  have hl : args'.size = args.length := by simpa using ha.length
  refine ⟨fun k => ?_, ?_, rfl, rfl⟩
  · have h1 : Fr.get ⟨fill0 args 0 .leaf, []⟩ k = (args[k]?).getD undef := by
      show Option.rec (motive := fun _ => Value) undef (fun v => v) ((fill0 args 0 .leaf).get k) = _
      rw [fill0_get, if_neg (by omega), Nat.sub_zero]
      cases args[k]? <;> rfl
    rw [h1]
    by_cases hk : k < args.length
    · obtain ⟨v', g1, g2⟩ := ha.get (k := k) (v := args[k]) (by simp [hk])
      have hk' : k < args'.size := by omega
      have e1 : args'[k]? = some v' := by simpa using g1
      have e2 : (args' ++ Array.replicate (nt - args'.size) undef).getD k undef = v' := by
        rw [Array.getD_eq_getD_getElem?, Array.getElem?_append_left hk', e1]; rfl
      rw [e2]
      simpa [hk] using g2
    · have e2 : (args' ++ Array.replicate (nt - args'.size) undef).getD k undef = undef := by
        rw [Array.getD_eq_getD_getElem?, Array.getElem?_append_right (by omega), Array.getElem?_replicate]
        split <;> rfl
      rw [e2, List.getElem?_eq_none (by omega)]
      exact .tuple .nil
  · simp only [Array.size_append, Array.size_replicate, hl, bite_eq, Nat.ble_eq]
    split <;> omega
theorem result_sim {m : Inj} {fr : Fr} {a : Act} {h : Heap} {w : World} (hs : Sim m base h w) (hr : FRel n m fr a) {x : ResultVar} {v : Value} {c : Nat} {lg : Log} {c2 : Nat} {h2 : Heap} {lg2 : Log} (hrun : run (resultT P fr x) c h lg = .ok v c2 h2 lg2) :
    c = c2 ∧ h = h2 ∧ ∃ v', ((match x with | .tmp t => pure (a.tmps.getD t undef) | .cell ad t => do loadVar t (← asAddr (a.tmps.getD ad undef)) : Sem Value)).run P w = .ok v' w ∧ VRel m v v' := by
  cases x with
  | tmp t =>
    obtain ⟨rfl, rfl, rfl, _⟩ := run_ret_inv hrun
    exact ⟨rfl, rfl, _, rfl, hr.tmps t⟩
  | cell ad t =>
    have hrun : run (loadT P t (fr.get ad)) c h lg = .ok v c2 h2 lg2 := hrun
    have h1 := hr.tmps ad
    unfold loadT at hrun
    generalize hxe : fr.get ad = va at hrun h1
    split at hrun
    · next b o =>
      cases hx' : a.tmps.getD ad undef <;> rw [hx'] at h1 <;> cases h1
      next i hi =>
      obtain ⟨rfl, rfl, v', g1, g2⟩ := loadVar_sim (P := P) hs hrun hi
      refine ⟨rfl, rfl, v', ?_, g2⟩
      simp only [hx', asAddr, Sem.run_bind, Sem.run_pure, Result.andThen_ok]
      exact g1
    · cases hrun
theorem results_sim {m : Inj} {fr : Fr} {a : Act} {h : Heap} {w : World} (hs : Sim m base h w) (hr : FRel n m fr a) : ∀ {xs : List ResultVar} {vs : List Value} {c : Nat} {lg : Log} {c2 : Nat} {h2 : Heap} {lg2 : Log}, run (resultsT P fr xs) c h lg = .ok vs c2 h2 lg2 →
    c = c2 ∧ h = h2 ∧ ∃ vs', (xs.mapM fun x => (match x with | .tmp t => pure (a.tmps.getD t undef) | .cell ad t => do loadVar t (← asAddr (a.tmps.getD ad undef)) : Sem Value)).run P w = .ok vs' w ∧ LRel m vs vs'
  | [], vs, c, lg, c2, h2, lg2, hrun => by
    obtain ⟨rfl, rfl, rfl, _⟩ := run_ret_inv hrun
    exact ⟨rfl, rfl, [], rfl, .nil⟩
  | x :: xs, vs, c, lg, c2, h2, lg2, hrun => by
    obtain ⟨v, c1, h1, lg1, e1, e2⟩ := run_bind_inv hrun
    obtain ⟨rfl, rfl, v', g1, g2⟩ := result_sim hs hr e1
    obtain ⟨vs1, c3, h3, lg3, e3, e4⟩ := run_bind_inv e2
    obtain ⟨rfl, rfl, vs', g3, g4⟩ := results_sim hs hr e3
    obtain ⟨rfl, rfl, rfl, _⟩ := run_ret_inv e4
    refine ⟨rfl, rfl, v' :: vs', ?_, .cons g2 g4⟩
    simp only [List.mapM_cons, Sem.run_bind, g1, Result.andThen_ok, g3, Sem.run_pure]
theorem NC.resultsT (fr : Fr) : ∀ xs, NC (resultsT P fr xs)
  | [] => trivial
  | x :: xs => ⟨by cases x with | tmp t => trivial | cell a t => exact NC.loadT P _ _, fun _ => ⟨NC.resultsT fr xs, fun _ => trivial⟩⟩
theorem body_sim (hM : P.follows .mixedOrders = true) (hN : NamesOK P) (hC : CallOK P base callF) (k : Nat) : CallOK P base (bodyT P callF k) := by
  intro f args args' s w m K Q hw hQ hf hs ha
  unfold bodyT at hw
  cases hfn : P.funcs[f]? with
  | none => rw [hfn] at hw; exact hw.elim
  | some fn =>
    rw [hfn] at hw
    simp only at hw
    cases hb : fn.body with
    | none => rw [hb] at hw; exact hw.elim
    | some c =>
      rw [hb] at hw
      refine ⟨⟨fn, c, rfl, hb⟩, calls_of_wp hfn hb ?_⟩
      refine (wpIn_wide (n := 0)).1 ?_
      refine code_sim (r := none) (K := K) (m0 := m) (w0 := w) (c0 := s.ctr) hM hN hC hf c (fun v s' h => wpt_leK h hQ) (fun x e fr' a' s' m' w' h1 h2 h3 h4 => ?_) hw (frel_enter ha fn.ntmps) (Aft.refl hs)
      have h2' : wpt ((resultsT P fr' fn.results.toList).bind fun vs => .ret (one vs)) s' Q → (a'.defers = [] ∧ ∃ v, (results fn a'.tmps).run P w' = .ok v w' ∧ CallPost m base w s.ctr Q (.returned v) w') := by
        intro h2
        obtain ⟨vs, c1, h1', lg1, g1, g2⟩ := run_of_wpt _ [] (NC.resultsT fr' _) h2
        obtain ⟨rfl, rfl, vs', g3, g4⟩ := results_sim h4.sim h3 g1
        refine ⟨h3.defers, ?_⟩
        have hres : (results fn a'.tmps).run P w' = .ok (if h : vs'.length = 1 then vs'[0] else .tuple vs'.toArray) w' := by
          unfold results
          rw [Array.mapM_eq_mapM_toList]
          simp only [Sem.run_bind, Sem.run_map]
          refine (congrArg (fun r => Result.andThen (Result.andThen r _) _) g3).trans ?_
          simp only [Result.andThen_ok, Sem.run_pure, List.size_toArray]
          by_cases h1 : vs'.length = 1 <;> simp [h1]
        refine ⟨_, hres, one vs, _, s', m', rfl, g2, ?_, h4⟩
        cases g4 with
        | nil => exact .tuple .nil
        | cons q1 q2 =>
          cases q2 with
          | nil => exact q1
          | cons q2 q3 => exact .tuple (.cons q1 (.cons q2 q3))
      have hds := h3.ds
      cases h1 with
      | normal => simp only [hds] at h2; exact h2' h2
      | ret => simp only [hds] at h2; exact h2' h2
      | exit id => exact h2.elim
theorem callN_sim (hM : P.follows .mixedOrders = true) (hN : NamesOK P) : ∀ k, CallOK P base (callN P k)
  | 0 => fun _ _ _ _ _ _ _ _ hw => hw.elim
  | k + 1 => body_sim hM hN (callN_sim hM hN k) k
/-- **What a run of the abstract machine from nothing says of the model's call, in every world.** -/
theorem run_calls (hM : P.follows .mixedOrders = true) (hN : NamesOK P) {k c : Nat} {f : FuncId} {args : List Value} {v : Value} {c' : Nat} {h' : Heap} {lg' : Log} (hr : run (callN P k f args) c .leaf [] = .ok v c' h' lg') (hv : flat v = true) (ha : flatL flat args = true) (w : World) :
    Calls P f ⟨args⟩ w fun e w' => e = .returned v ∧ Below w.heap.size w w' := by
  have hargs : ∀ l : List Value, flatL flat l = true → LRel (fun _ => none) l l := by
    intro l
    induction l with
    | nil => intro _; exact .nil
    | cons x l ih => intro h; rw [flatL_cons, Bool.and_eq_true] at h; exact .cons (flat_refl _ h.1) (ih h.2)
  have hat : ∀ l, Heap.at (.leaf : Heap) l = none := fun l => rfl
  have hs : Sim (fun _ => none) w.heap.size (.leaf : Heap) w := by
    refine ⟨fun n b h => ?_, fun n b n2 b2 i i2 h => ?_, fun n es k h => ?_, fun n es k n2 es2 k2 i i2 h => ?_, fun n i h => (by cases h), Nat.le_refl _⟩ <;> (rw [hat] at h; cases h)
  have hw : wpt (callN P k f args) ⟨c, .leaf⟩ (fun v' _ => v' = v) := wpt_of_run _ _ _ _ _ _ _ _ _ hr rfl
  obtain ⟨_, hc⟩ := callN_sim (base := w.heap.size) hM hN k f args ⟨args⟩ ⟨c, .leaf⟩ w (fun _ => none) none _ hw (fun _ _ _ k h => by cases h) (fun _ _ _ => rfl) hs (hargs args ha)
  refine hc.mono fun e w' he => ?_
  obtain ⟨v1, v', s', m', rfl, rfl, h3, h4⟩ := he
  refine ⟨by rw [flat_eq hv h3], h4.go.os, h4.go.tape, h4.go.output, h4.go.size, fun k hk => h4.go.keep k hk (.inl hk)⟩
end
end Go.Ab
