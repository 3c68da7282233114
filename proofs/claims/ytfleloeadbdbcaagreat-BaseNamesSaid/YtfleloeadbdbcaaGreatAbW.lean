/- Calls, with loops over functions; what a run of the abstract machine says of the model. -/
import Derived.Test.YtfleloeadbdbcaaGreatAbV
namespace Go.Ab
open Go.RowKit
section
variable {P : Program} {base : Nat} {callF : Tgt → List Value → T Value} {n : Nat} {M : Ms}
theorem fill0_get : ∀ (vs : List Value) (i : Nat) (t : Trie Value) (k : Nat), (fill0 vs i t).get k = if k < i then t.get k else match vs[k - i]? with | some v => some v | none => t.get k
  | [], i, t, k => by simp [show fill0 [] i t = t from rfl]
  | v :: vs, i, t, k => by
    rw [show fill0 (v :: vs) i t = fill0 vs (i + 1) (t.set i v) from rfl, fill0_get vs (i + 1) (t.set i v) k, Trie.get_set]
    rcases Nat.lt_trichotomy k i with h | h | h
    · rw [if_pos (by omega), if_pos h, if_neg (by omega)]
    · subst h
      rw [if_pos (by omega), if_pos rfl, if_neg (by omega)]
      simp
    · rw [if_neg (by omega), if_neg (by omega), if_neg (by omega), show k - i = (k - (i + 1)) + 1 by omega]
      simp
theorem frel_enter {m : Inj} {args : List Value} {args' : Array Value} (ha : LRel m args args'.toList) (nt : Nat) :
    FRel (bite (Nat.ble args.length nt) nt args.length) ⟨[], []⟩ m ⟨fill0 args 0 .leaf, []⟩ { tmps := args' ++ Array.replicate (nt - args'.size) undef, defers := [] } := by
  have hl : args'.size = args.length := by simpa using ha.length
  refine ⟨fun k => ?_, ?_, rfl, .nil⟩
  · have h1 : Fr.get ⟨fill0 args 0 .leaf, []⟩ k = (args[k]?).getD undef := by
      show Option.rec (motive := fun _ => Value) undef (fun v => v) ((fill0 args 0 .leaf).get k) = _
      rw [fill0_get, if_neg (by omega), Nat.sub_zero]
      cases args[k]? <;> rfl
    rw [h1]
    by_cases hk : k < args.length
    · obtain ⟨v', g1, g2⟩ := ha.get (k := k) (v := args[k]) (by simp [hk])
      have hk' : k < args'.size := by omega
      have e1 : args'[k]? = some v' := by simpa using g1
      have e2 : (args' ++ Array.replicate (nt - args'.size) undef).getD k undef = v' := by
        rw [Array.getD_eq_getD_getElem?, Array.getElem?_append_left hk', e1]; rfl
      rw [e2]
      simpa [hk] using g2
    · have e2 : (args' ++ Array.replicate (nt - args'.size) undef).getD k undef = undef := by
        rw [Array.getD_eq_getD_getElem?, Array.getElem?_append_right (by omega), Array.getElem?_replicate]
        split <;> rfl
      rw [e2, List.getElem?_eq_none (by omega)]
      exact .tuple .nil
  · simp only [Array.size_append, Array.size_replicate, hl, bite_eq, Nat.ble_eq]
    split <;> omega
theorem result_sim {m : Inj} {fr : Fr} {a : Act} {h : Heap} {w : World} (hs : Sim m base h w) (hr : FRel n M m fr a) {x : ResultVar} {v : Value} {c : Nat} {lg : Log} {c2 : Nat} {h2 : Heap} {lg2 : Log} (hrun : run (resultT P fr x) c h lg = .ok v c2 h2 lg2) :
    c = c2 ∧ h = h2 ∧ ∃ v', ((match x with | .tmp t => pure (a.tmps.getD t undef) | .cell ad t => do loadVar t (← asAddr (a.tmps.getD ad undef)) : Sem Value)).run P w = .ok v' w ∧ VRel m v v' := by
  cases x with
  | tmp t =>
    obtain ⟨rfl, rfl, rfl, _⟩ := run_ret_inv hrun
    exact ⟨rfl, rfl, _, rfl, hr.tmps t⟩
  | cell ad t =>
    have hrun : run (loadT P t (fr.get ad)) c h lg = .ok v c2 h2 lg2 := hrun
    have h1 := hr.tmps ad
    unfold loadT at hrun
    generalize hxe : fr.get ad = va at hrun h1
    split at hrun
    · next b o =>
      cases hx' : a.tmps.getD ad undef <;> rw [hx'] at h1 <;> cases h1
      next i hi =>
      obtain ⟨rfl, rfl, v', g1, g2⟩ := loadVar_sim (P := P) hs hrun hi
      refine ⟨rfl, rfl, v', ?_, g2⟩
      simp only [hx', asAddr, Sem.run_bind, Sem.run_pure, Result.andThen_ok]
      exact g1
    · cases hrun
theorem results_sim {m : Inj} {fr : Fr} {a : Act} {h : Heap} {w : World} (hs : Sim m base h w) (hr : FRel n M m fr a) : ∀ {xs : List ResultVar} {vs : List Value} {c : Nat} {lg : Log} {c2 : Nat} {h2 : Heap} {lg2 : Log}, run (resultsT P fr xs) c h lg = .ok vs c2 h2 lg2 →
    c = c2 ∧ h = h2 ∧ ∃ vs', (xs.mapM fun x => (match x with | .tmp t => pure (a.tmps.getD t undef) | .cell ad t => do loadVar t (← asAddr (a.tmps.getD ad undef)) : Sem Value)).run P w = .ok vs' w ∧ LRel m vs vs'
  | [], vs, c, lg, c2, h2, lg2, hrun => by
    obtain ⟨rfl, rfl, rfl, _⟩ := run_ret_inv hrun
    exact ⟨rfl, rfl, [], rfl, .nil⟩
  | x :: xs, vs, c, lg, c2, h2, lg2, hrun => by
    obtain ⟨v, c1, h1, lg1, e1, e2⟩ := run_bind_inv hrun
    obtain ⟨rfl, rfl, v', g1, g2⟩ := result_sim hs hr e1
    obtain ⟨vs1, c3, h3, lg3, e3, e4⟩ := run_bind_inv e2
    obtain ⟨rfl, rfl, vs', g3, g4⟩ := results_sim hs hr e3
    obtain ⟨rfl, rfl, rfl, _⟩ := run_ret_inv e4
    refine ⟨rfl, rfl, v' :: vs', ?_, .cons g2 g4⟩
    simp only [List.mapM_cons, Sem.run_bind, g1, Result.andThen_ok, g3, Sem.run_pure]
theorem NC.resultsT (fr : Fr) : ∀ xs, NC (resultsT P fr xs)
  | [] => trivial
  | x :: xs => ⟨by cases x with | tmp t => trivial | cell a t => exact NC.loadT P _ _, fun _ => ⟨NC.resultsT fr xs, fun _ => trivial⟩⟩
theorem setAll_sim {m : Inj} : ∀ {ps : List Tmp} {vs : List Value} {n : Nat} {t t' : Trie Value}, setAll ps vs n t = some t' → ∀ {vs' : List Value} {A : Array Value}, LRel m vs vs' → A.size = n → (∀ k, VRel m ((t.get k).getD undef) (A.getD k undef)) →
    ps.length = vs.length ∧ ((ps.zip vs').foldl (fun A (p : Tmp × Value) => A.setIfInBounds p.1 p.2) A).size = n ∧ ∀ k, VRel m ((t'.get k).getD undef) (((ps.zip vs').foldl (fun A (p : Tmp × Value) => A.setIfInBounds p.1 p.2) A).getD k undef)
  | [], [], n, t, t', h, vs', A, hv, hA, ht => by
    simp only [setAll, Option.some.injEq] at h
    subst h
    cases hv
    exact ⟨rfl, hA, ht⟩
  | [], v :: vs, n, t, t', h, vs', A, hv, hA, ht => by simp [setAll] at h
  | p :: ps, [], n, t, t', h, vs', A, hv, hA, ht => by simp [setAll] at h
  | p :: ps, v :: vs, n, t, t', h, vs', A, hv, hA, ht => by
    simp only [setAll] at h
    cases hp : Nat.blt p n with
    | false => rw [hp] at h; cases h
    | true =>
      rw [hp] at h
      have hpn : p < n := (blt_iff _ _).mp hp
      cases hv with
      | @cons _ v' _ vs'' hv hvs =>
        obtain ⟨g1, g2, g3⟩ := setAll_sim (m := m) h hvs (A := A.setIfInBounds p v') (by simpa using hA) (fun k => by
          rw [Trie.get_set]
          by_cases hk : k = p
          · subst hk; rw [if_pos rfl]; simpa [hA, hpn] using hv
          · rw [if_neg hk]
            have : (A.setIfInBounds p v').getD k undef = A.getD k undef := by simp [Array.getElem?_setIfInBounds_ne (Ne.symm hk)]
            rw [this]; exact ht k)
        exact ⟨by simp [g1], g2, g3⟩
theorem loopAt_sim {m : Inj} {l : Nat} {i : Img} (hi : m l = some i) {s : St} {w : World} {Q : ALoop → St → Prop} (hs : Sim m base s.h w) (hw : wpt (loopAt l) s Q) :
    ∃ al cl, s.h.at (l, 0) = some (.loop al) ∧ Q al s ∧ w.heap[i.blk]? = some (.loop cl) ∧ LRelO m al cl := by
  obtain ⟨x, hx, hw⟩ := hw
  cases x with
  | loop al =>
    obtain ⟨i', o, g1, g2, g3, g4⟩ := hs.objs l _ hx rfl
    obtain rfl : i' = i := by rw [hi] at g1; injection g1 with g1; exact g1.symm
    cases g4 with
    | @loop _ cl hl => exact ⟨al, cl, hx, hw, g3, hl⟩
  | val v => exact hw.elim
  | blk b => exact hw.elim
  | map es k => exact hw.elim
  | iter a b c d => exact hw.elim
theorem run_getLoop {l : Nat} {cl : Loop} {w : World} (h : w.heap[l]? = some (.loop cl)) : (Instr.getLoop l).run P w = .ok cl w := by
  simp [Instr.getLoop, getObj, Sem.run, h]
theorem run_setObj {l : Nat} {cl : Loop} {o : Obj} {w : World} (h : w.heap[l]? = some (.loop cl)) : (setObj l o).run P w = .ok () (setO w l o) := by
  simp [setObj, Sem.run, h, setO]
set_option maxHeartbeats 1000000 in
theorem round_sim (hM : P.follows .mixedOrders = true) (hN : NamesOK P) (hC : CallOK P base callF) (k : Nat) {l : Nat} {i : Img} {args : List Value} {args' : Array Value} {s : St} {w : World} {m : Inj} {K : Option Nat} {Q : Value → St → Prop} (hw : wpt (roundT P callF k l args) s Q)
    (hQ : ∀ v s', Q v s' → leK s'.ctr K) (hf : FreeK m s.ctr K) (hs : Sim m base s.h w) (ha : LRel m args args'.toList) (hi : m l = some i) :
    ∃ f tmps assign body, (Instr.yield i.blk args').run P w = .ok (.round i.blk f tmps assign body) w ∧ RoundIn Fence.wide 0 P i.blk f tmps assign body w (CallPost m base w s.ctr Q) := by
  unfold roundT at hw
  obtain ⟨al, cl, hat, hw, hrow, hl⟩ := loopAt_sim hi hs hw
  cases hset : setAll al.params.toList args al.n al.t with
  | none => simp only [hset] at hw; exact hw.elim
  | some t =>
    simp only [hset] at hw
    obtain ⟨e1, e2, e3⟩ := setAll_sim hset ha hl.size hl.tmps
    have hpar : cl.params.toList.length = args'.toList.length := by rw [hl.params, e1, ha.length]
    refine ⟨cl.fn, (cl.params.zip args').foldl (fun tmps (p : Tmp × Value) => tmps.setIfInBounds p.1 p.2) cl.tmps, cl.assign, cl.body, ?_, ?_⟩
    · unfold Instr.yield
      simp only [Sem.run_bind, run_getLoop hrow, Result.andThen_ok]
      rw [if_neg (by simpa using hpar.symm)]
      rfl
    · have htm : (cl.params.zip args').foldl (fun tmps (p : Tmp × Value) => tmps.setIfInBounds p.1 p.2) cl.tmps = (al.params.toList.zip args'.toList).foldl (fun A (p : Tmp × Value) => A.setIfInBounds p.1 p.2) cl.tmps := by
        rw [← Array.foldl_toList, Array.toList_zip, hl.params]
      rw [htm, hl.assign, hl.body]
      have hfr : FRel al.n ⟨[], []⟩ m ⟨t, []⟩ { tmps := (al.params.toList.zip args'.toList).foldl (fun A (p : Tmp × Value) => A.setIfInBounds p.1 p.2) cl.tmps, defers := [] } :=
        ⟨fun q => by
          have e : Fr.get ⟨t, []⟩ q = (t.get q).getD undef := by
            show Option.rec (motive := fun _ => Value) undef (fun v => v) (t.get q) = _
            cases t.get q <;> rfl
          rw [e]; exact e3 q, e2, rfl, .nil⟩
      have hmok : ∀ {m : Inj} {w : World}, MOK 0 m w [] := ⟨List.nodup_nil, by simp⟩
      refine roundIn_of_wpIn (F := Fence.wide) (n := 0) trivial ?_
      refine code_sim (r := some i.blk) (rd := true) (K := K) (B := 0) (m0 := m) (w0 := w) (c0 := s.ctr) hM hN hC (by simp) (Nat.zero_le _) hf al.assign (fun v s' h => wpt_leK h hQ) (fun x e fr' a' s' m' w' M' h1 h2 h3 h4 h5 => ?_) hw hfr hmok (Aft.refl hs)
      cases h1 with
      | ret => exact h2.elim
      | exit id => exact h2.elim
      | normal =>
        have hi' := h5.go.le _ _ hi
        obtain ⟨al1, cl1, hat1, h2, hrow1, hl1⟩ := loopAt_sim hi' h5.sim h2
        cases hrdy : isReady al1.state with
        | false => simp only [hrdy] at h2; exact h2.elim
        | true =>
          simp only [hrdy] at h2
          have hst : al1.state = .ready := by cases hq : al1.state <;> rw [hq] at hrdy <;> first | rfl | cases hrdy
          obtain ⟨k1, k2⟩ := h5.sim.setObj (x' := .loop { al1 with state := .busy }) (o' := .loop { cl1 with state := .busy }) hat1 rfl hi' rfl (.loop ⟨rfl, hl1.pending, hl1.params, hl1.assign, hl1.body, hl1.size, hl1.tmps⟩)
          have h6 : Aft m base w s.ctr m' ⟨s'.ctr, s'.h.put (l, 0) (.loop { al1 with state := .busy })⟩ (setO w' i.blk (.loop { cl1 with state := .busy })) := h5.trans ⟨k1, k2, Nat.le_refl _, Names.refl _ _ _⟩
          refine ⟨setO w' i.blk (.loop { cl1 with state := .busy }), ?_, ?_⟩
          · unfold Instr.beginRound
            simp only [Sem.run_bind, run_getLoop hrow1, Result.andThen_ok, run_setObj hrow1, hl1.state, hst]
            rfl
          · refine code_sim (r := some i.blk) (rd := true) (K := K) (B := 0) (m0 := m) (w0 := w) (c0 := s.ctr) hM hN hC (by simp) (Nat.zero_le _) hf al.body (fun v s' h => wpt_leK h hQ) (fun x2 e2 fr2 a2 s2 m2 w2 M2 g1 g2 g3 g4 g5 => ?_) h2 h3 (h4.go k2) h6
            have hi2 := g5.go.le _ _ hi
            obtain ⟨al2, cl2, hat2, g2, hrow2, hl2⟩ := loopAt_sim hi2 g5.sim g2
            obtain ⟨q1, q2⟩ := g5.sim.setObj (x' := .loop { al2 with state := xState x2, pending := xJump x2 }) (o' := .loop { cl2 with state := xState x2, pending := xJump x2 }) hat2 rfl hi2 rfl (.loop ⟨rfl, rfl, hl2.params, hl2.assign, hl2.body, hl2.size, hl2.tmps⟩)
            have h7 : Aft m base w s.ctr m2 ⟨s2.ctr, s2.h.put (l, 0) (.loop { al2 with state := xState x2, pending := xJump x2 })⟩ (setO w2 i.blk (.loop { cl2 with state := xState x2, pending := xJump x2 })) := g5.trans ⟨q1, q2, Nat.le_refl _, Names.refl _ _ _⟩
            have hend : (Instr.endRound i.blk (xJump x2)).run P w2 = .ok (.bool (xGoes x2)) (setO w2 i.blk (.loop { cl2 with state := xState x2, pending := xJump x2 })) := by
              unfold Instr.endRound
              simp only [Sem.run_bind, run_getLoop hrow2, Result.andThen_ok, run_setObj hrow2, Sem.run_pure]
              cases x2 <;> rfl
            have hpost : CallPost m base w s.ctr Q (.returned (.bool (xGoes x2))) (setO w2 i.blk (.loop { cl2 with state := xState x2, pending := xJump x2 })) := ⟨_, _, _, m2, rfl, g2, .bool _, h7⟩
            cases g1 with
            | normal => exact ⟨_, _, hend, hpost⟩
            | ret => exact ⟨_, _, hend, hpost⟩
            | exit id => exact ⟨_, _, hend, hpost⟩
/-- A block that is not ours is set. -/
theorem Sim.setForeign {m : Inj} {h : Heap} {w : World} (hs : Sim m base h w) {r : Nat} (hr : ∀ n i, m n = some i → i.blk ≠ r) (o : Obj) : Sim m base h (setO w r o) := by
  refine ⟨fun n b f1 f2 => ?_, hs.sole, fun n x f1 hx => ?_, hs.objOne, fun n i f1 => by rw [setO_size]; exact hs.dom n i f1, by rw [setO_size]; exact hs.room⟩
  · obtain ⟨j, C, t, fz, hk⟩ := hs.lay n b f1 f2
    exact ⟨j, C, t, fz, hk.img, hk.size, hk.esz, hk.tot, by rw [setO_other (hr n j hk.img)]; exact hk.row, hk.fits, hk.new, hk.old, hk.cell⟩
  · obtain ⟨i, o', g1, g2, g3, g4⟩ := hs.objs n x f1 hx
    exact ⟨i, o', g1, g2, by rw [setO_other (hr n i g1)]; exact g3, g4⟩
/-- How a frame leaves: its deferred calls, the marks of its loops over functions, its results. -/
theorem leaves_ds (hN : NamesOK P) (hC : CallOK P base callF) {fn : Func} {tmps : Array Value} {R : Ending → World → Prop} {K : Option Nat} {m0 : Inj} {w0 : World} {c0 : Nat} (hf0 : FreeK m0 c0 K) {Q : St → Prop} (hQ : ∀ s', Q s' → leK s'.ctr K) {m1 : Inj}
    (hfin : ∀ m s w, Q s → Aft m0 base w0 c0 m s w → m1.le m → ∃ v, (results fn tmps).run P w = .ok v w ∧ R (.returned v) w) :
    ∀ (ds : List Deferred) {L : List Nat} {D : List Deferred} {m : Inj}, DsRel m L ds D → ∀ {s : St} {w : World}, m1.le m → MOK w0.heap.size m w L → Aft m0 base w0 c0 m s w → wpt (leaveT callF ds) s (fun _ s' => Q s') → LeavesInM Fence.wide 0 P fn tmps R D .returning w := by
  intro ds
  induction ds with
  | nil =>
    intro L D m h s w hle hm ha hw
    obtain ⟨rfl, rfl⟩ := h.none
    obtain ⟨v, h1, h2⟩ := hfin _ _ w hw ha hle
    exact ⟨v, h1, h2⟩
  | cons d ds ih =>
    intro L D m h s w hle hm ha hw
    cases h with
    | @mark r M _ D h =>
      obtain ⟨q1, q2, q3, q4⟩ := hm.all r List.mem_cons_self
      refine ⟨by simp, .inl ⟨r, setO w r (.deferred none), rfl, ?_, ?_⟩⟩
      · simp [Instr.takeDeferred, getObj, setObj, Sem.run, q4, setO]
      · have hnd := List.nodup_cons.1 hm.nodup
        refine ih h hle ⟨hnd.2, fun r' hr' => ?_⟩ ⟨ha.sim.setForeign q3 _, ⟨ha.go.le, ha.go.new, ha.go.os, ha.go.tape, ha.go.output, by rw [setO_size]; exact ha.go.size, fun k hk hk2 => ?_⟩, ha.ctr, ha.names⟩ hw
        · obtain ⟨p1, p2, p3, p4⟩ := hm.all r' (List.mem_cons_of_mem _ hr')
          exact ⟨p1, by rw [setO_size]; exact p2, p3, by rw [setO_other (fun e => hnd.1 (by rw [← e]; exact hr'))]; exact p4⟩
        · rw [setO_other (by omega)]; exact ha.go.keep k hk hk2
    | @call g cap cap' args args' M _ D h1 h2 h =>
      have hw : wpt (callF (.dfn g) (args.toList ++ cap.toList)) s (fun _ s' => wpt (leaveT callF ds) s' (fun _ s' => Q s')) := hw
      obtain ⟨⟨gf, gc, hgf, hgb⟩, hcalls⟩ := hC.2.2 g _ (args' ++ cap') s w _ K _ hw (fun v s' h => wpt_leK h fun _ s'' => hQ s'') (hf0.after ha) ha.sim (by
        simp only [Array.toList_append]
        exact h1.append h2)
      have hname : ¬ gf.name = "runtime.NumGoroutine" := by simpa using hN g gf hgf (by rw [hgb]; rfl)
      refine ⟨by simp, .inr ⟨(fun h => by cases h), .func g, cap', g, args' ++ cap', rfl, by simp [invoke, callFunc, hgf, hname, hgb], fun _ _ => trivial, ?_⟩⟩
      refine (hcalls .returning).mono fun e u' w' he => ?_
      obtain ⟨rfl, v, v', s', m', rfl, k1, k2, k3⟩ := he
      exact ih (h.mono k3.go.le) (Inj.le_trans hle k3.go.le) (hm.go k3.go) (ha.trans k3) k1
theorem results_of {n : Nat} {M : Ms} {fn : Func} {fr' : Fr} {a' : Act} {m' : Inj} {s' : St} {w2 : World} {Q : Value → St → Prop} (g1 : Sim m' base s'.h w2) (h3 : FRel n M m' fr' a') (h2 : wpt ((resultsT P fr' fn.results.toList).bind fun vs => .ret (one vs)) s' Q) :
    ∃ v v', (results fn a'.tmps).run P w2 = .ok v' w2 ∧ Q v s' ∧ VRel m' v v' := by
  obtain ⟨vs, c1, h1', lg1, q1, q2⟩ := run_of_wpt _ [] (NC.resultsT fr' _) h2
  obtain ⟨rfl, rfl, vs', q3, q4⟩ := results_sim (M := M) g1 h3 q1
  have hres : (results fn a'.tmps).run P w2 = .ok (if h : vs'.length = 1 then vs'[0] else .tuple vs'.toArray) w2 := by
    unfold results
    rw [Array.mapM_eq_mapM_toList]
    simp only [Sem.run_bind, Sem.run_map]
    refine (congrArg (fun r => Result.andThen (Result.andThen r _) _) q3).trans ?_
    simp only [Result.andThen_ok, Sem.run_pure, List.size_toArray]
    by_cases h1 : vs'.length = 1 <;> simp [h1]
  refine ⟨one vs, _, hres, q2, ?_⟩
  cases q4 with
  | nil => exact .tuple .nil
  | cons p1 p2 =>
    cases p2 with
    | nil => exact p1
    | cons p2 p3 => exact .tuple (.cons p1 (.cons p2 p3))
theorem body_sim (hM : P.follows .mixedOrders = true) (hN : NamesOK P) (hC : CallOK P base callF) (k : Nat) {f : FuncId} {args : List Value} {args' : Array Value} {s : St} {w : World} {m : Inj} {K : Option Nat} {Q : Value → St → Prop} (hw : wpt (bodyT P callF k f args) s Q)
    (hQ : ∀ v s', Q v s' → leK s'.ctr K) (hf : FreeK m s.ctr K) (hs : Sim m base s.h w) (ha : LRel m args args'.toList) :
    (∃ fn c, P.funcs[f]? = some fn ∧ fn.body = some c) ∧ Calls P f args' w (CallPost m base w s.ctr Q) := by
  unfold bodyT at hw
  cases hfn : P.funcs[f]? with
  | none => rw [hfn] at hw; exact hw.elim
  | some fn =>
    rw [hfn] at hw
    simp only at hw
    cases hb : fn.body with
    | none => rw [hb] at hw; exact hw.elim
    | some c =>
      rw [hb] at hw
      refine ⟨⟨fn, c, rfl, hb⟩, (callsIn_wide (n := 0)).1 (callsIn_of_wp_marks hfn hb trivial ?_)⟩
      refine code_sim (r := none) (rd := false) (K := K) (B := w.heap.size) (m0 := m) (w0 := w) (c0 := s.ctr) hM hN hC (fun _ => rfl) (Nat.le_refl _) hf c (fun v s' h => wpt_leK h hQ) (fun x e fr' a' s' m' w' M' h1 h2 h3 hm' h4 => ?_) hw (frel_enter ha fn.ntmps) ⟨List.nodup_nil, by simp⟩ (Aft.refl hs)
      have h2' : wpt ((leaveT callF fr'.ds).bind fun _ => (resultsT P fr' fn.results.toList).bind fun vs => .ret (one vs)) s' Q → LeavesInM Fence.wide 0 P fn a'.tmps (CallPost m base w s.ctr Q) a'.defers .returning w' := by
        intro h2
        have h2 : wpt (leaveT callF fr'.ds) s' (fun _ s2 => wpt ((resultsT P fr' fn.results.toList).bind fun vs => .ret (one vs)) s2 Q) := h2
        rw [h3.ds] at h2
        refine leaves_ds hN hC hf (Q := fun s2 => wpt ((resultsT P fr' fn.results.toList).bind fun vs => .ret (one vs)) s2 Q) (fun s2 h => wpt_leK h hQ) (m1 := m') (fun m2 s2 w2 h5 h6 hle => ?_) _ h3.defers m'.le_refl hm' h4 h2
        obtain ⟨v, v', g1, g2, g3⟩ := results_of h6.sim (h3.mono hle) h5
        exact ⟨v', g1, v, v', s2, m2, rfl, g2, g3, h6⟩
      cases h1 with
      | normal => exact h2' h2
      | ret => exact h2' h2
      | exit id => exact h2.elim
theorem bodyD_sim (hM : P.follows .mixedOrders = true) (hN : NamesOK P) (hC : CallOK P base callF) (k : Nat) {f : FuncId} {args : List Value} {args' : Array Value} {s : St} {w : World} {m : Inj} {K : Option Nat} {Q : Value → St → Prop} (hw : wpt (bodyDT P callF k f args) s Q)
    (hQ : ∀ v s', Q v s' → leK s'.ctr K) (hf : FreeK m s.ctr K) (hs : Sim m base s.h w) (ha : LRel m args args'.toList) :
    (∃ fn c, P.funcs[f]? = some fn ∧ fn.body = some c) ∧ ∀ u, CallsDIn Fence.wide 0 P f args' u w fun e u' w' => u' = u ∧ CallPost m base w s.ctr Q e w' := by
  unfold bodyDT at hw
  cases hfn : P.funcs[f]? with
  | none => rw [hfn] at hw; exact hw.elim
  | some fn =>
    rw [hfn] at hw
    simp only at hw
    cases hb : fn.body with
    | none => rw [hb] at hw; exact hw.elim
    | some c =>
      rw [hb] at hw
      refine ⟨⟨fn, c, rfl, hb⟩, fun u => callsDIn_of_wp hfn hb trivial ?_⟩
      refine code_sim (r := none) (rd := false) (K := K) (B := w.heap.size) (m0 := m) (w0 := w) (c0 := s.ctr) hM hN hC (fun _ => rfl) (Nat.le_refl _) hf c (fun v s' h => wpt_leK h hQ) (fun x e fr' a' s' m' w' M' h1 h2 h3 hm' h4 => ?_) hw (frel_enter ha fn.ntmps) ⟨List.nodup_nil, by simp⟩ (Aft.refl hs)
      have h2' : fr'.ds = [] → wpt ((resultsT P fr' fn.results.toList).bind fun vs => .ret (one vs)) s' Q → a'.defers = [] ∧ ∃ v, (results fn a'.tmps).run P w' = .ok v w' ∧ CallPost m base w s.ctr Q (.returned v) w' := by
        intro hds h2
        obtain ⟨v, v', g1, g2, g3⟩ := results_of h4.sim h3 h2
        have hd := h3.defers
        rw [← h3.ds, hds] at hd
        exact ⟨hd.none.2, v', g1, v, v', s', m', rfl, g2, g3, h4⟩
      cases hds : fr'.ds with
      | nil =>
        cases h1 with
        | normal => simp only [hds] at h2; exact h2' hds h2
        | ret => simp only [hds] at h2; exact h2' hds h2
        | exit id => exact h2.elim
      | cons d ds =>
        cases h1 with
        | normal => simp only [hds] at h2; exact h2.elim
        | ret => simp only [hds] at h2; exact h2.elim
        | exit id => exact h2.elim
/-- The known results are right. -/
def MemoOK (P : Program) (memo : List (Nat × Value)) : Prop := ∀ f v, memoOf memo f [] = some v → flat v = true ∧ (∃ fn c, P.funcs[f]? = some fn ∧ fn.body = some c) ∧ ∀ w, Calls P f #[] w fun e w' => e = .returned v ∧ Below w.heap.size w w'
/-- What stands in for a body is right. -/
def ExtOK (P : Program) (ext : Ext) : Prop := ∀ (base : Nat) (f : FuncId) (args : List Value) (t : T Value), ext f args = some t → ∀ (args' : Array Value) (s : St) (w : World) (m : Inj) (K : Option Nat) (Q : Value → St → Prop), wpt t s Q → (∀ v s', Q v s' → leK s'.ctr K) → FreeK m s.ctr K → Sim m base s.h w → LRel m args args'.toList →
  (∃ fn c, P.funcs[f]? = some fn ∧ fn.body = some c) ∧ Calls P f args' w (CallPost m base w s.ctr Q)
theorem memoNil : ExtOK P noExt := fun _ _ _ _ h => by cases h
theorem orExt_ok {a b : Ext} (ha : ExtOK P a) (hb : ExtOK P b) : ExtOK P (orExt a b) := fun base f args t h => by
  have h : Option.rec (motive := fun _ => Option (T Value)) (b f args) some (a f args) = some t := h
  cases hq : a f args with
  | none => rw [hq] at h; exact hb base f args t h
  | some u =>
    rw [hq] at h
    have h : some u = some t := h
    injection h with h
    subst h
    exact ha base f args _ hq
theorem memoE_ok {memo : List (Nat × Value)} (hm : MemoOK P memo) : ExtOK P (memoE memo) := fun base f args t h args' s w m K Q hw hQ hf hs ha => by
  have h : Option.rec (motive := fun _ => Option (T Value)) none (fun v => some (.ret v)) (memoOf memo f args) = some t := h
  cases hq : memoOf memo f args with
  | none => rw [hq] at h; cases h
  | some v =>
    rw [hq] at h
    have h : some (T.ret v) = some t := h
    injection h with h
    subst h
    have hw : Q v s := hw
    cases args with
    | cons x xs => cases hq
    | nil =>
      obtain ⟨hv, hfn, hc⟩ := hm f v hq
      have hargs : args' = #[] := by
        apply Array.ext'
        cases hl : args'.toList with
        | nil => rfl
        | cons a b => rw [hl] at ha; cases ha
      subst hargs
      refine ⟨hfn, (hc w).mono fun e w' he => ?_⟩
      obtain ⟨rfl, hb⟩ := he
      refine ⟨v, v, s, m, rfl, hw, flat_refl m hv, hs.more (fun k hk => hb.block k hk) hb.size, ⟨m.le_refl, fun _ _ h => .inl h, hb.os, hb.tape, hb.output, hb.size, fun k hk _ => hb.block k hk⟩, Nat.le_refl _, Names.refl _ _ _⟩
theorem callN_sim (hM : P.follows .mixedOrders = true) (hN : NamesOK P) {memo : Ext} (hm : ExtOK P memo) : ∀ k, CallOK P base (callN P memo k)
  | 0 => ⟨fun _ _ _ _ _ _ _ _ hw => hw.elim, fun _ _ _ _ _ _ _ _ _ hw => hw.elim, fun _ _ _ _ _ _ _ _ hw => hw.elim⟩
  | k + 1 => by
    refine ⟨fun f args args' s w m K Q hw hQ hf hs ha => ?_, fun _ _ _ _ _ _ _ _ _ hw hQ hf hs ha hi => round_sim hM hN (callN_sim hM hN hm k) k hw hQ hf hs ha hi, fun _ _ _ _ _ _ _ _ hw hQ hf hs ha => bodyD_sim hM hN (callN_sim hM hN hm k) k hw hQ hf hs ha⟩
    have hw : wpt (Option.rec (motive := fun _ => T Value) (bodyT P (callN P memo k) k f args) (fun t => t) (memo f args)) s Q := hw
    cases hq : memo f args with
    | none => rw [hq] at hw; exact body_sim hM hN (callN_sim hM hN hm k) k hw hQ hf hs ha
    | some t =>
      rw [hq] at hw
      exact hm base f args t hq args' s w m K Q hw hQ hf hs ha
/-- **What a run of the abstract machine from nothing says of the model's call, in every world.** -/
theorem run_calls (hM : P.follows .mixedOrders = true) (hN : NamesOK P) {memo : Ext} (hm : ExtOK P memo) {k c : Nat} {f : FuncId} {args : List Value} {v : Value} {c' : Nat} {h' : Heap} {lg' : Log} (hr : run (callN P memo k (.fn f) args) c .leaf [] = .ok v c' h' lg') (hv : flat v = true) (ha : flatL flat args = true) (w : World) :
    Calls P f ⟨args⟩ w fun e w' => e = .returned v ∧ Below w.heap.size w w' := by
  have hargs : ∀ l : List Value, flatL flat l = true → LRel (fun _ => none) l l := by
    intro l
    induction l with
    | nil => intro _; exact .nil
    | cons x l ih => intro h; rw [flatL_cons, Bool.and_eq_true] at h; exact .cons (flat_refl _ h.1) (ih h.2)
  have hat : ∀ l, Heap.at (.leaf : Heap) l = none := fun l => rfl
  have hs : Sim (fun _ => none) w.heap.size (.leaf : Heap) w := by
    refine ⟨fun n b h => ?_, fun n b n2 b2 i i2 h => ?_, fun n x h _ => ?_, fun n x n2 x2 i i2 h _ => ?_, fun n i h => (by cases h), Nat.le_refl _⟩ <;> (rw [hat] at h; cases h)
  have hw : wpt (callN P memo k (.fn f) args) ⟨c, .leaf⟩ (fun v' _ => v' = v) := wpt_of_run _ _ _ _ _ _ _ _ _ hr rfl
  obtain ⟨_, hc⟩ := (callN_sim (base := w.heap.size) hM hN hm k).1 f args ⟨args⟩ ⟨c, .leaf⟩ w (fun _ => none) none _ hw (fun _ _ _ k h => by cases h) (fun _ _ _ => rfl) hs (hargs args ha)
  refine hc.mono fun e w' he => ?_
  obtain ⟨v1, v', s', m', rfl, rfl, h3, h4⟩ := he
  refine ⟨by rw [flat_eq hv h3], h4.go.os, h4.go.tape, h4.go.output, h4.go.size, fun k hk => h4.go.keep k hk (.inl hk)⟩
end
end Go.Ab
