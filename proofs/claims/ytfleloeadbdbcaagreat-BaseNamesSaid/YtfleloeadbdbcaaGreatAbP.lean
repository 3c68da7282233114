/- Every operation but a call of a function, simulated. -/
import Derived.Test.YtfleloeadbdbcaaGreatAbO3
namespace Go.Ab
open Go.RowKit
section
variable {P : Program} {m : Inj} {base : Nat} {h : Heap} {w : World}
/-- What an operation's run leaves. -/
def LeavesO (m : Inj) (base : Nat) (w : World) (c c2 : Nat) (h2 : Heap) (v : Value) (r : Result Next) : Prop :=
  ∃ v' m' w', (r = .ok (.value v') w' ∨ (v' = undef ∧ r = .ok .skip w')) ∧ VRel m' v v' ∧ Sim m' base h2 w' ∧ Go1 m base w m' w' ∧ Names m m' c c2
theorem Leaves1.val {c c2 : Nat} {h2 : Heap} {v : Value} {s : Sem Value} (hl : Leaves1 m base w c c2 h2 v (s.run P w)) : LeavesO m base w c c2 h2 v ((do pure (Next.value (← s)) : Sem Next).run P w) := by
  obtain ⟨v', m', w', h1, h2, h3, h4, h5⟩ := hl
  exact ⟨v', m', w', .inl (by simp [h1]), h2, h3, h4, h5⟩
theorem still_val {c c2 : Nat} {h2 : Heap} {v : Value} {s : Sem Value} (hs : Sim m base h w) (hl : c = c2 ∧ h = h2 ∧ ∃ v', s.run P w = .ok v' w ∧ VRel m v v') : LeavesO m base w c c2 h2 v ((do pure (Next.value (← s)) : Sem Next).run P w) := by
  obtain ⟨rfl, rfl, v', h1, h2⟩ := hl
  exact ⟨v', m, w, .inl (by simp [h1]), h2, hs, .refl _ _ _, Names.refl _ _ _⟩
theorem opt_val {c c2 : Nat} {h2 : Heap} {lg lg2 : Log} {o : Option Value} {v : Value} {s : Sem Value} (hs : Sim m base h w) (hr : run (ofOpt o) c h lg = .ok v c2 h2 lg2) (hl : o = some v → ∃ v', s.run P w = .ok v' w ∧ VRel m v v') :
    LeavesO m base w c c2 h2 v ((do pure (Next.value (← s)) : Sem Next).run P w) := by
  obtain ⟨h1, rfl, rfl, _⟩ := run_ofOpt_inv hr
  exact still_val hs ⟨rfl, rfl, hl h1⟩
theorem LRel.map {ρ ρ' : Operand → Value} : ∀ {xs : List Operand}, (∀ x ∈ xs, VRel m (ρ x) (ρ' x)) → LRel m (xs.map ρ) (xs.map ρ')
  | [], _ => .nil
  | x :: _, hx => .cons (hx x List.mem_cons_self) (LRel.map fun y hy => hx y (List.mem_cons_of_mem _ hy))
theorem PRel.map {ρ ρ' : Operand → Value} {ps : Array (Nat × Operand)} (hx : ∀ p ∈ ps.toList, VRel m (ρ p.2) (ρ' p.2)) :
    PRel m (ps.toList.map fun p => (p.1, ρ p.2)) (ps.map fun (i, x) => (i, ρ' x)).toList := by
  refine ⟨fun k p hk => ?_, by simp⟩
  rw [List.getElem?_map] at hk
  cases hp : ps.toList[k]? with
  | none => rw [hp] at hk; cases hk
  | some q =>
    rw [hp] at hk
    simp only [Option.map_some, Option.some.injEq] at hk
    subst hk
    refine ⟨ρ' q.2, ?_, hx q (List.mem_of_getElem? hp)⟩
    have : ps[k]? = some q := by simpa using hp
    simp [this]
def isCall : Op → Bool
  | .call c => match c.callee with
    | .builtin _ => false
    | _ => true
  | _ => false
theorem builtin_sim (hs : Sim m base h w) {b : Builtin} {argTypes : Array TypeId} {type : TypeId} {consts : Array Bool} {args : List Value} {args' : Array Value} {v : Value} {c : Nat} {lg : Log} {c2 : Nat} {h2 : Heap} {lg2 : Log}
    (hr : run (builtinT P b argTypes type args) c h lg = .ok v c2 h2 lg2) (ha : LRel m args args'.toList) (hc : ∀ k, c ≤ k → k < c2 → m k = none) : LeavesO m base w c c2 h2 v ((builtin b argTypes type consts args').run P w) := by
  cases b <;> (try (cases hr; done)) <;> unfold builtin
  case append => exact (append_sim hs hr ha hc).val
  case copy => exact (copy_sim hs hr ha).val
  case clear => exact (clear_sim hs hr ha).val
  case delete => exact (delete_sim hs hr ha).val
  case len =>
    have hr' : run (match argTypes.toList, args with | t :: _, [x] => lenT P t x | _, _ => T.fail) c h lg = .ok v c2 h2 lg2 := hr
    split at hr'
    · next t xts x hat =>
      obtain ⟨x', rfl, hx⟩ := ha.one1
      exact (len_sim hs hr' hx (head_at hat)).val
    · cases hr'
  case cap =>
    have hr' : run (match argTypes.toList, args with | t :: _, [x] => capT P t x | _, _ => T.fail) c h lg = .ok v c2 h2 lg2 := hr
    split at hr'
    · next t xts x hat =>
      obtain ⟨x', rfl, hx⟩ := ha.one1
      exact (cap_sim hs hr' hx (head_at hat)).val
    · cases hr'
  case min =>
    obtain ⟨hf, e1⟩ := run_whenT_inv (b := flatL flat args) hr
    obtain ⟨e, hv, rfl, rfl⟩ := run_ofFlat_inv e1
    have : (⟨args⟩ : Array Value) = args' := by apply Array.ext'; exact (flatL_eq hf ha).symm
    rw [this] at e
    exact still_val hs ⟨rfl, rfl, v, pureRun_run P _ _ e w, flat_refl m hv⟩
  case max =>
    obtain ⟨hf, e1⟩ := run_whenT_inv (b := flatL flat args) hr
    obtain ⟨e, hv, rfl, rfl⟩ := run_ofFlat_inv e1
    have : (⟨args⟩ : Array Value) = args' := by apply Array.ext'; exact (flatL_eq hf ha).symm
    rw [this] at e
    exact still_val hs ⟨rfl, rfl, v, pureRun_run P _ _ e w, flat_refl m hv⟩
theorem makeIface_sim {t : TypeId} {x x' v : Value} (hv : makeIfaceV P t x = some v) (hx : VRel m x x') : ∃ v', (Instr.makeInterface t x').run P w = .ok v' w ∧ VRel m v v' := by
  unfold makeIfaceV isIface at hv
  cases hu : P.underlying t with
  | none => rw [hu] at hv; cases hv
  | some d =>
    rw [hu] at hv
    cases d <;> simp at hv <;> subst hv <;> exact ⟨_, by simp [Instr.makeInterface, run_underlying hu], .iface t hx⟩
theorem index_sim {t : TypeId} {x x' i i' v : Value} (hv : indexV P t x i = some v) (hx : VRel m x x') (hi : VRel m i i') : ∃ v', (Instr.index t x' i').run P w = .ok v' w ∧ VRel m v v' := by
  unfold indexV at hv
  split at hv
  · next n s hn =>
    obtain ⟨k, rfl⟩ := natOf_some hn
    cases hx; cases hi
    split at hv
    · next hu =>
      cases hb : s.data.toList[n]? with
      | none => rw [hb] at hv; cases hv
      | some b =>
        rw [hb] at hv
        simp only [Option.some.injEq] at hv
        subst hv
        refine ⟨_, ?_, .int _ _⟩
        have hlt : n < s.size := by
          have := (List.getElem?_eq_some_iff.1 hb).1
          simpa using this
        have hget : s[n]? = some b := by
          rw [getElem?_pos s n hlt]
          have h2 := (List.getElem?_eq_some_iff.1 hb).2
          rw [← h2]; rfl
        unfold Instr.index
        simp [asIntOf, run_underlying hu, hget]
    · cases hv
  · next n cs hn =>
    obtain ⟨k, rfl⟩ := natOf_some hn
    cases hi
    cases hx with
    | agg hc =>
    split at hv
    · next len e hu =>
      split at hv
      · next sz hsz =>
        cases hb : Nat.blt n len with
        | false => rw [hb] at hv; cases hv
        | true =>
          rw [hb] at hv
          obtain ⟨v', h1, h2⟩ := part_sim (w := w) hv hc
          refine ⟨v', ?_, h2⟩
          have hlt := (blt_iff _ _).mp hb
          unfold Instr.index
          simp only [asIntOf, Sem.run_bind, Sem.run_pure, run_underlying hu, Result.andThen_ok]
          rw [if_pos (show 0 ≤ Int.ofNat n ∧ Int.ofNat n < (len : Int) from ⟨Int.natCast_nonneg n, Int.ofNat_lt.2 hlt⟩)]
          simp only [Sem.run_bind, run_sizeOf hsz, Result.andThen_ok]
          exact h1
      · cases hv
    · cases hv
  · cases hv
theorem op_sim (hs : Sim m base h w) {callF : Tgt → List Value → T Value} {ρ ρ' : Operand → Value} {o : Oper} {v : Value} {c : Nat} {lg : Log} {c2 : Nat} {h2 : Heap} {lg2 : Log}
    (hr : run (opT P callF ρ o) c h lg = .ok v c2 h2 lg2) (hcall : isCall o.op = false) (hρ : ∀ x ∈ o.op.operands, VRel m (ρ x) (ρ' x)) (hc : ∀ k, c ≤ k → k < c2 → m k = none) : LeavesO m base w c c2 h2 v ((execOp ρ' o).run P w) := by
  obtain ⟨dst, op, type, pos, after, guard⟩ := o
  have hlt : ∀ {n c1 : Nat} {h1 : Heap} {lg1 : Log} {el sz : Nat} {vs : List Value} {olds : List Nat}, run (newBlk el sz vs olds) c h lg = .ok n c1 h1 lg1 → c1 ≤ c2 → m c = none := fun hn hle => hc c (Nat.le_refl _) (by have := (run_newBlk_inv hn).2.2.1; omega)
  cases op <;> simp only [Op.operands] at hρ <;> (try (cases hr; done)) <;> simp only [execOp]
  case move x =>
    obtain ⟨rfl, rfl, rfl, _⟩ := run_ret_inv hr
    exact ⟨ρ' x, m, w, .inl rfl, hρ x (by simp), hs, .refl _ _ _, Names.refl _ _ _⟩
  case assign x =>
    obtain ⟨rfl, rfl, rfl, _⟩ := run_ret_inv hr
    exact ⟨ρ' x, m, w, .inl rfl, hρ x (by simp), hs, .refl _ _ _, Names.refl _ _ _⟩
  case pick x a b =>
    obtain ⟨e, rfl, rfl, _⟩ := run_ofOpt_inv hr
    have hx := hρ x (by simp)
    have ha := hρ a (by simp)
    have hb := hρ b (by simp)
    unfold pickV at e
    generalize hxe : ρ x = vx at e hx
    split at e
    · injection e with e; subst e
      cases hx' : ρ' x <;> rw [hx'] at hx <;> cases hx
      exact ⟨ρ' a, m, w, .inl (by simp [asBool]), ha, hs, .refl _ _ _, Names.refl _ _ _⟩
    · injection e with e; subst e
      cases hx' : ρ' x <;> rw [hx'] at hx <;> cases hx
      exact ⟨ρ' b, m, w, .inl (by simp [asBool]), hb, hs, .refl _ _ _, Names.refl _ _ _⟩
    · cases e
  case alloc e =>
    have hr' : run (allocT P e) c h lg = .ok v c2 h2 lg2 := hr
    unfold allocT at hr'
    cases hz : zeroOf P e with
    | none => rw [hz] at hr'; cases hr'
    | some z =>
      rw [hz] at hr'
      have hcm : m c = none := by
        have hr'' : run (newVarT P e z) c h lg = .ok v c2 h2 lg2 := hr'
        unfold newVarT at hr''
        cases hsz : szOf P e with
        | none => rw [hsz] at hr''; cases hr''
        | some k =>
          rw [hsz] at hr''
          obtain ⟨n, c1, h1, lg1, e1, e2⟩ := run_bind_inv hr''
          exact hlt e1 (run_ctr _ e2)
      have := newVar_sim hs hr' hcm (flat_refl m (zeroOf_some hz).2)
      refine Leaves1.val ?_
      obtain ⟨v', m', w', g1, g2⟩ := this
      refine ⟨v', m', w', ?_, g2⟩
      unfold Instr.alloc
      simp only [Sem.run_bind, run_zeroValue hz, Result.andThen_ok]
      simpa using g1
  case box e x =>
    have hr' : run (newVarT P e (ρ x)) c h lg = .ok v c2 h2 lg2 := hr
    have hcm : m c = none := by
      have hr'' := hr'
      unfold newVarT at hr''
      cases hsz : szOf P e with
      | none => rw [hsz] at hr''; cases hr''
      | some k =>
        rw [hsz] at hr''
        obtain ⟨n, c1, h1, lg1, e1, e2⟩ := run_bind_inv hr''
        exact hlt e1 (run_ctr _ e2)
    exact (newVar_sim hs hr' hcm (hρ x (by simp))).val
  case build t parts =>
    exact opt_val hs hr fun e => build_sim e (PRel.map fun p hp => hρ p.2 (by simp; exact ⟨p.1, by simpa using hp⟩))
  case buildSlice t len parts =>
    have hr' : run (buildSliceT P t len (parts.toList.map fun p => (p.1, ρ p.2))) c h lg = .ok v c2 h2 lg2 := hr
    have hcm : m c = none := by
      have hr'' := hr'
      unfold buildSliceT at hr''
      split at hr''
      · obtain ⟨n, c1, h1, lg1, e1, e2⟩ := run_bind_inv hr''
        exact hlt e1 (run_ctr _ e2)
      · cases hr''
    exact (buildSlice_sim hs hr' hcm (PRel.map fun p hp => hρ p.2 (by simp; exact ⟨p.1, by simpa using hp⟩))).val
  case load t a =>
    have hr' : run (loadT P t (ρ a)) c h lg = .ok v c2 h2 lg2 := hr
    have ha := hρ a (by simp)
    unfold loadT at hr'
    generalize hxe : ρ a = va at hr' ha
    split at hr'
    · next b o =>
      cases hx' : ρ' a <;> rw [hx'] at ha <;> cases ha
      next i hi =>
      refine still_val hs ?_
      unfold Instr.loadAt
      simp only [Instr.sureAddr, Sem.run_bind, Sem.run_pure, Result.andThen_ok]
      exact loadVar_sim hs hr' hi
    · cases hr'
  case store t a x =>
    have hr' : run (storeT P t (ρ a) (ρ x)) c h lg = .ok v c2 h2 lg2 := hr
    have ha := hρ a (by simp)
    unfold storeT at hr'
    generalize hxe : ρ a = va at hr' ha
    split at hr'
    · next b o =>
      cases hx' : ρ' a <;> rw [hx'] at ha <;> cases ha
      next i hi =>
      obtain ⟨u, c1, h1, lg1, e1, e2⟩ := run_bind_inv hr'
      obtain ⟨rfl, rfl, rfl, _⟩ := run_ret_inv e2
      obtain ⟨rfl, w', g1, g2, g3⟩ := storeVar_sim (P := P) hs e1 hi (hρ x (by simp))
      refine ⟨undef, m, w', .inr ⟨rfl, ?_⟩, .tuple .nil, g2, g3, Names.refl _ _ _⟩
      unfold Instr.storeAt
      simp only [Instr.sureAddr, Sem.run_bind, Sem.run_pure, Result.andThen_ok, g1]
    · cases hr'
  case nilCheck x =>
    obtain ⟨e, rfl, rfl, _⟩ := run_ofOpt_inv hr
    have hx := hρ x (by simp)
    unfold nilCheckV at e
    generalize hxe : ρ x = vx at e hx
    split at e
    · injection e with e; subst e
      cases hx' : ρ' x <;> rw [hx'] at hx <;> cases hx
      exact ⟨_, m, w, .inl rfl, .ptr (by assumption), hs, .refl _ _ _, Names.refl _ _ _⟩
    · injection e with e; subst e
      cases hx' : ρ' x <;> rw [hx'] at hx <;> cases hx
      exact ⟨_, m, w, .inl rfl, .func _ (by assumption) (by assumption) (by assumption), hs, .refl _ _ _, Names.refl _ _ _⟩
    · injection e with e; subst e
      cases hx' : ρ' x <;> rw [hx'] at hx <;> cases hx
      exact ⟨_, m, w, .inl rfl, .iface _ (by assumption), hs, .refl _ _ _, Names.refl _ _ _⟩
    · cases e
  case binOp op xt x y yt => exact still_val hs (binOp_sim hr (hρ x (by simp)) (hρ y (by simp)))
  case unOp op xt x => exact still_val hs (unOp_sim hr (hρ x (by simp)))
  case convert s d x =>
    have hr' : run (convT P s d (ρ x)) c h lg = .ok v c2 h2 lg2 := hr
    have hx := hρ x (by simp)
    unfold convT at hr'
    cases ht : textOf P s d (ρ x) with
    | none => rw [ht] at hr'; exact still_val hs (convert_sim hr' hx)
    | some q =>
      obtain ⟨e, bs⟩ := q
      rw [ht] at hr'
      obtain ⟨b, u, hb, hd, he, hss, rfl⟩ := textOf_some ht
      rw [hb] at hx
      have hcm : m c = none := hc c (Nat.le_refl _) (by
        obtain ⟨n, c1, h1, lg1, e1, e2⟩ := run_bind_inv hr'
        obtain ⟨rfl, rfl, rfl⟩ := run_fresh_inv e1
        have := run_ctr _ e2; omega)
      have := text_sim (P := P) (s := s) (d := d) hs hd he hss hr' hcm
      generalize hxe : ρ' x = vx at hx
      cases hx
      exact this.val
  case range t x =>
    have hr' : run (rangeT P t (ρ x)) c h lg = .ok v c2 h2 lg2 := hr
    have hcm : m c = none := hc c (Nat.le_refl _) (by
      unfold rangeT at hr'
      split at hr'
      · obtain ⟨n, c1, h1, lg1, e1, e2⟩ := run_bind_inv hr'
        obtain ⟨rfl, rfl, rfl⟩ := run_fresh_inv e1
        have := run_ctr _ e2; omega
      · obtain ⟨p, c0, h0, lg0, e0, e1'⟩ := run_bind_inv hr'
        obtain ⟨n, c1, h1, lg1, e1, e2⟩ := run_bind_inv e1'
        obtain ⟨rfl, rfl, rfl⟩ := run_fresh_inv e1
        have := run_ctr _ e2; have := run_ctr _ e0; omega
      · cases hr')
    exact (mapRange_sim hs hr' (hρ x (by simp)) hcm).val
  case next x st => exact (next_sim hs hr (hρ x (by simp))).val
  case entry x => exact still_val hs (entry_sim hs hr (hρ x (by simp)))
  case makeInterface xt x => exact opt_val hs hr fun e => makeIface_sim e (hρ x (by simp))
  case makeFunc fn first captured =>
    have hr' : run (bite (okFn fn) (.ret (.func fn ⟨first.toList.map ρ⟩ ⟨captured.toList.map ρ⟩)) .fail) c h lg = .ok v c2 h2 lg2 := hr
    cases hfn : okFn fn with
    | false => rw [hfn] at hr'; cases hr'
    | true =>
      rw [hfn, bite_true] at hr'
      obtain ⟨rfl, rfl, rfl, _⟩ := run_ret_inv hr'
      have hok : FnOK fn := by cases fn <;> simp [okFn] at hfn <;> trivial
      refine ⟨.func fn (first.map ρ') (captured.map ρ'), m, w, .inl rfl, .func fn hok ?_ ?_, hs, .refl _ _ _, Names.refl _ _ _⟩
      · simpa using LRel.map (xs := first.toList) fun x hx => hρ x (by simp [Array.mem_toList_iff.1 hx])
      · simpa using LRel.map (xs := captured.toList) fun x hx => hρ x (by simp [Array.mem_toList_iff.1 hx])
  case makeMap t r =>
    cases r with
    | some x => cases hr
    | none =>
      have hcm : m c = none := hc c (Nat.le_refl _) (by
        obtain ⟨n, c1, h1, lg1, e1, e2⟩ := run_bind_inv hr
        obtain ⟨rfl, rfl, rfl⟩ := run_fresh_inv e1
        have := run_ctr _ e2; omega)
      exact (makeMap_sim hs hr hcm).val
  case lookup t x k ok => exact still_val hs (lookup_sim hs hr (hρ x (by simp)) (hρ k (by simp)))
  case mapEntry t x k => exact (mapEntry_sim hs hr (hρ x (by simp)) (hρ k (by simp))).val
  case mapUpdate t x k u =>
    obtain ⟨rfl, w', g1, g2, g3, g4⟩ := mapSet_sim (P := P) hs hr (hρ x (by simp)) (hρ k (by simp)) (hρ u (by simp))
    exact ⟨undef, m, w', .inr ⟨rfl, by simp only [Sem.run_bind, g1, Result.andThen_ok, Sem.run_pure]⟩, .tuple .nil, g2, g3, g4⟩
  case insert t x k u =>
    obtain ⟨rfl, w', g1, g2, g3, g4⟩ := mapSet_sim (P := P) hs hr (hρ x (by simp)) (hρ k (by simp)) (hρ u (by simp))
    exact ⟨undef, m, w', .inr ⟨rfl, by simp only [Sem.run_bind, g1, Result.andThen_ok, Sem.run_pure]⟩, .tuple .nil, g2, g3, g4⟩
  case entryStore t x s u =>
    obtain ⟨rfl, w', g1, g2, g3, g4⟩ := entryStore_sim (P := P) (t := t) hs hr (hρ x (by simp)) (hρ s (by simp)) (hρ u (by simp))
    exact ⟨undef, m, w', .inr ⟨rfl, by simp only [Sem.run_bind, g1, Result.andThen_ok, Sem.run_pure]⟩, .tuple .nil, g2, g3, g4⟩
  case makeSlice t l k =>
    have hr' : run (makeSliceT P t (ρ l) (ρ k)) c h lg = .ok v c2 h2 lg2 := hr
    have hcm : m c = none := by
      have hr'' := hr'
      unfold makeSliceT at hr''
      split at hr''
      · split at hr''
        · obtain ⟨_, e0⟩ := run_whenT_inv hr''
          obtain ⟨n, c1, h1, lg1, e1, e2⟩ := run_bind_inv e0
          exact hlt e1 (run_ctr _ e2)
        · cases hr''
      · cases hr''
    exact (makeSlice_sim hs hr' hcm (hρ l (by simp)) (hρ k (by simp))).val
  case slice t x lo hi mx =>
    have om : ∀ {y : Option Operand}, (∀ z, y = some z → VRel m (ρ z) (ρ' z)) → ORel m (y.map ρ) (y.map ρ') := by
      intro y hy
      cases y with
      | none => exact .none
      | some z => exact .some (hy z rfl)
    exact still_val hs (slice_sim hs hr (hρ x (by simp)) (om fun z hz => hρ z (by simp [hz])) (om fun z hz => hρ z (by simp [hz])) (om fun z hz => hρ z (by simp [hz])))
  case fieldAddr s x f => exact still_val hs (fieldAddr_sim hr (hρ x (by simp)))
  case field t x f => exact opt_val hs hr fun e => field_sim e (hρ x (by simp))
  case indexAddr t x i => exact still_val hs (indexAddr_sim hr (hρ x (by simp)) (hρ i (by simp)))
  case index t x i => exact opt_val hs hr fun e => index_sim e (hρ x (by simp)) (hρ i (by simp))
  case extract x i => exact opt_val hs hr fun e => extract_sim e (hρ x (by simp))
  case call cl =>
    obtain ⟨callee, args, argTypes⟩ := cl
    cases callee with
    | value f => simp [isCall] at hcall
    | invoke r n => simp [isCall] at hcall
    | builtin b =>
      have ha : LRel m (args.toList.map ρ) (args.map ρ').toList := by
        simpa using LRel.map (xs := args.toList) fun x hx => hρ x (by simp [Call.operands, Array.mem_toList_iff.1 hx])
      exact builtin_sim hs hr ha hc
end
end Go.Ab
