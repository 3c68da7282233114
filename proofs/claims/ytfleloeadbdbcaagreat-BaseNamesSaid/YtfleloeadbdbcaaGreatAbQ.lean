/- What goes through at all has one run, where nothing is chosen; frames. -/
import Derived.Test.YtfleloeadbdbcaaGreatAbP
namespace Go.Ab
open Go.RowKit

/-- Nothing is chosen. -/
def NC : {α : Type} → T α → Prop
  | _, .ret _ => True
  | _, .fail => True
  | _, .get _ => True
  | _, .put _ _ => True
  | _, .fresh => True
  | _, .choose _ => False
  | _, .bind t f => NC t ∧ ∀ a, NC (f a)
  | _, .logd _ => True
theorem run_of_wpt {α : Type} (t : T α) : ∀ {s : St} {Q : α → St → Prop} (lg : Log), NC t → wpt t s Q → ∃ a c h lg', run t s.ctr s.h lg = .ok a c h lg' ∧ Q a ⟨c, h⟩ := by
  induction t with
  | ret a => intro s Q lg _ hw; exact ⟨_, _, _, _, rfl, hw⟩
  | fail => intro s Q lg _ hw; exact hw.elim
  | get l => intro s Q lg _ hw; obtain ⟨x, h1, h2⟩ := hw; exact ⟨x, _, _, _, by rw [run_get, h1], h2⟩
  | put l x => intro s Q lg _ hw; exact ⟨_, _, _, _, rfl, hw⟩
  | fresh => intro s Q lg _ hw; exact ⟨_, _, _, _, rfl, hw⟩
  | choose n => intro s Q lg hn _; exact hn.elim
  | bind t f iht ihf =>
    intro s Q lg hn hw
    obtain ⟨a, c, h, lg1, h1, h2⟩ := iht lg hn.1 hw
    obtain ⟨b, c2, h2', lg2, h3, h4⟩ := ihf a (s := ⟨c, h⟩) lg1 (hn.2 a) h2
    exact ⟨b, c2, h2', lg2, by rw [run_bind, h1]; exact h3, h4⟩
  | logd t _ =>
    intro s Q lg _ hw
    obtain ⟨a, c, h, lg1, h1, h2⟩ := hw
    exact ⟨_, _, _, _, by rw [run_logd, h1], h2⟩
section
variable {α β : Type}
theorem NC.bind {t : T α} {f : α → T β} (h1 : NC t) (h2 : ∀ a, NC (f a)) : NC (t.bind f) := ⟨h1, h2⟩
theorem NC.ret (a : α) : NC (.ret a) := trivial
theorem NC.fail : NC (.fail : T α) := trivial
theorem NC.get (l : Loc) : NC (.get l) := trivial
theorem NC.put (l : Loc) (c : Cell) : NC (.put l c) := trivial
theorem NC.fresh : NC .fresh := trivial
theorem NC.bite {b : Bool} {x y : T α} (h1 : NC x) (h2 : NC y) : NC (bite b x y) := by cases b <;> assumption
theorem NC.whenT {b : Bool} {x : T α} (h1 : NC x) : NC (whenT b x) := NC.bite h1 trivial
theorem NC.ofOpt (o : Option α) : NC (ofOpt o) := by cases o <;> trivial
theorem NC.ofFlat (o : Option Value) : NC (ofFlat o) := by cases o with | none => trivial | some v => exact NC.bite trivial trivial
theorem NC.blkAt (n : Nat) : NC (blkAt n) := ⟨trivial, fun c => by cases c with | blk b => cases h : b.st <;> simp only [h] <;> trivial | _ => trivial⟩
theorem NC.getVal (l : Loc) : NC (getVal l) := ⟨trivial, fun c => by cases c <;> trivial⟩
theorem NC.getVals (n : Nat) : ∀ (k off : Nat), NC (getVals n k off)
  | 0, _ => trivial
  | k + 1, off => ⟨NC.getVal _, fun _ => ⟨NC.getVals n k (off + 1), fun _ => trivial⟩⟩
theorem NC.putVals (n : Nat) : ∀ (vs : List Value) (off : Nat), NC (putVals n vs off)
  | [], _ => trivial
  | _ :: vs, off => ⟨trivial, fun _ => NC.putVals n vs (off + 1)⟩
theorem NC.loadN (b o k : Nat) : NC (loadN b o k) := ⟨NC.blkAt _, fun _ => NC.whenT (NC.getVals _ _ _)⟩
theorem NC.load1 (b o : Nat) : NC (load1 b o) := ⟨NC.blkAt _, fun _ => NC.whenT (NC.getVal _)⟩
theorem NC.killAll : ∀ ns, NC (killAll ns)
  | [] => trivial
  | n :: ns => ⟨trivial, fun c => by cases c with | blk b => exact ⟨trivial, fun _ => NC.killAll ns⟩ | _ => trivial⟩
theorem NC.ownBlk (n : Nat) : NC (ownBlk n) := ⟨NC.blkAt _, fun b => by
  cases h : b.st <;> simp only [h] <;> (try trivial)
  cases h2 : b.olds <;> simp only <;> (try trivial)
  exact ⟨NC.killAll _, fun _ => ⟨trivial, fun _ => trivial⟩⟩⟩
theorem NC.storeN (b o : Nat) (vs : List Value) : NC (storeN b o vs) := by
  cases vs with
  | nil => trivial
  | cons v vs => exact NC.whenT ⟨NC.ownBlk _, fun _ => NC.whenT (NC.putVals _ _ _)⟩
theorem NC.store1 (b o : Nat) (v : Value) : NC (store1 b o v) := NC.whenT ⟨NC.ownBlk _, fun _ => NC.whenT trivial⟩
theorem NC.newBlk (e z : Nat) (vs : List Value) (os : List Nat) : NC (newBlk e z vs os) := NC.whenT ⟨trivial, fun _ => ⟨trivial, fun _ => ⟨NC.putVals _ _ _, fun _ => trivial⟩⟩⟩
variable (P : Program)
theorem NC.loadVarT (t b o : Nat) : NC (loadVarT P t b o) := by
  unfold Ab.loadVarT
  repeat' (first | exact NC.load1 _ _ | exact ⟨NC.loadN _ _ _, fun _ => trivial⟩ | trivial | split)
theorem NC.storeVarT (t b o : Nat) (v : Value) : NC (storeVarT P t b o v) := by
  unfold Ab.storeVarT
  repeat' (first | exact NC.store1 _ _ _ | exact NC.storeN _ _ _ | refine NC.whenT ?_ | trivial | split)
theorem NC.newVarT (t : Nat) (v : Value) : NC (newVarT P t v) := by
  unfold Ab.newVarT
  repeat' (first | exact ⟨NC.newBlk _ _ _ _, fun _ => trivial⟩ | trivial | split)
theorem NC.makeSliceT (t : Nat) (l c : Value) : NC (makeSliceT P t l c) := by
  unfold Ab.makeSliceT
  repeat' (first | exact ⟨NC.newBlk _ _ _ _, fun _ => trivial⟩ | refine NC.whenT ?_ | trivial | split)
theorem NC.slice1 (z : Nat) (a : Option Addr) (k l h m : Nat) : NC (slice1 z a k l h m) := by
  unfold Ab.slice1
  repeat' (first | exact ⟨NC.blkAt _, fun _ => NC.whenT trivial⟩ | refine NC.whenT ?_ | trivial | split)
theorem NC.sliceT (t : Nat) (x : Value) (a b c : Option Value) : NC (sliceT P t x a b c) := by
  unfold Ab.sliceT
  repeat' (first | exact NC.slice1 _ _ _ _ _ _ | exact NC.ofFlat _ | refine NC.bite ?_ ?_ | trivial | split)
theorem NC.fieldAddrT (s : Nat) (x : Value) (f : Nat) : NC (fieldAddrT P s x f) := by
  unfold Ab.fieldAddrT
  repeat' (first | refine NC.whenT ?_ | trivial | split)
theorem NC.indexAddrT (s : Nat) (x i : Value) : NC (indexAddrT P s x i) := by
  unfold Ab.indexAddrT
  repeat' (first | refine NC.whenT ?_ | trivial | split)
theorem NC.binOp2 (op : BinOp) (t : Nat) (x y : Operand) (a b : Value) : NC (binOp2 P op t x y a b) := by
  unfold Ab.binOp2
  repeat' (first | exact NC.ofFlat _ | exact ⟨NC.ofOpt _, fun _ => trivial⟩ | refine NC.bite ?_ ?_ | trivial | split)
theorem NC.binOpT (op : BinOp) (t : Nat) (x y : Operand) (a b : Value) : NC (binOpT P op t x y a b) := by
  unfold Ab.binOpT
  repeat' (first | exact NC.ofFlat _ | exact NC.binOp2 P _ _ _ _ _ _ | refine NC.bite ?_ ?_ | trivial | split)
theorem NC.capT (t : Nat) (x : Value) : NC (capT P t x) := by
  unfold Ab.capT
  split <;> trivial
theorem NC.lenT (t : Nat) (x : Value) : NC (lenT P t x) := by
  unfold Ab.lenT
  repeat' (first | trivial | exact ⟨trivial, fun c => by cases c <;> trivial⟩ | split)
theorem NC.firstT (z k : Nat) (x : Value) : NC (firstT z k x) := by
  unfold Ab.firstT
  repeat' (first | exact NC.loadN _ _ _ | refine NC.whenT ?_ | trivial | split)
theorem NC.growT (e z b : Nat) (bi : BI) (f : Bool) (vs : List Value) : NC (growT e z b bi f vs) := by
  unfold Ab.growT
  repeat' (first | exact ⟨trivial, fun _ => NC.newBlk _ _ _ _⟩ | exact ⟨NC.killAll _, fun _ => NC.newBlk _ _ _ _⟩ | refine NC.bite ?_ ?_ | trivial | split)
theorem NC.append1 (e z y : Nat) (b : Option Addr) (l c n : Nat) {items : T (List Value)} (hi : NC items) : NC (append1 e z y b l c n items) := by
  unfold Ab.append1 Ab.appendIn Ab.appendGrow
  refine NC.whenT (NC.bite ⟨hi, fun vs => ?_⟩ ?_)
  · repeat' (first | exact ⟨NC.storeN _ _ _, fun _ => trivial⟩ | trivial | split)
  · repeat' (first | exact NC.whenT ⟨hi, fun _ => ⟨NC.newBlk _ _ _ _, fun _ => trivial⟩⟩ | exact ⟨NC.loadN _ _ _, fun _ => ⟨hi, fun _ => ⟨NC.blkAt _, fun _ => NC.whenT ⟨NC.bite (NC.newBlk _ _ _ _) (NC.growT _ _ _ _ _ _), fun _ => trivial⟩⟩⟩⟩ | trivial | split)
theorem NC.appendT (ts : List TypeId) (args : List Value) : NC (appendT P ts args) := by
  unfold Ab.appendT
  repeat' (first | exact NC.append1 _ _ _ _ _ _ _ (NC.ret _) | exact NC.append1 _ _ _ _ _ _ _ (NC.firstT _ _ _) | refine NC.whenT ?_ | trivial | split)
theorem NC.copyT (ts : List TypeId) (args : List Value) : NC (copyT P ts args) := by
  unfold Ab.copyT
  repeat' (first | refine NC.whenT ⟨NC.firstT _ _ _, fun vs => ?_⟩ | exact ⟨NC.storeN _ _ _, fun _ => trivial⟩ | trivial | split)
theorem NC.clearT (ts : List TypeId) (args : List Value) : NC (clearT P ts args) := by
  unfold Ab.clearT
  repeat' (first | exact NC.whenT ⟨NC.storeN _ _ _, fun _ => trivial⟩ | trivial | split)
theorem NC.mapAt (r : Nat) : NC (mapAt r) := ⟨trivial, fun c => by cases c <;> trivial⟩
theorem NC.entriesT (x : Value) : NC (entriesT x) := by
  unfold Ab.entriesT
  repeat' (first | exact ⟨NC.mapAt _, fun _ => trivial⟩ | trivial | split)
theorem NC.lookupT (t : Nat) (x k : Value) (ok : Bool) : NC (lookupT P t x k ok) := by
  unfold Ab.lookupT
  repeat' (first | refine NC.whenT ⟨NC.entriesT _, fun _ => ?_⟩ | trivial | (dsimp only; split) | split)
theorem NC.mapSetT (t : Nat) (x k v : Value) : NC (mapSetT P t x k v) := by
  unfold Ab.mapSetT
  repeat' (first | refine NC.whenT ⟨NC.mapAt _, fun _ => ?_⟩ | exact ⟨trivial, fun _ => trivial⟩ | trivial | (dsimp only; split) | split)
theorem NC.mapEntryT (t : Nat) (x k : Value) : NC (mapEntryT P t x k) := by
  unfold Ab.mapEntryT
  repeat' (first | refine NC.whenT ⟨NC.mapAt _, fun _ => ?_⟩ | exact ⟨trivial, fun _ => trivial⟩ | trivial | (dsimp only; split) | split)
theorem NC.entryStoreT (x s v : Value) : NC (entryStoreT x s v) := by
  unfold Ab.entryStoreT
  repeat' (first | refine ⟨NC.mapAt _, fun _ => ?_⟩ | exact ⟨trivial, fun _ => trivial⟩ | trivial | (dsimp only; split) | split)
theorem NC.deleteT (ts : List TypeId) (args : List Value) : NC (deleteT P ts args) := by
  unfold Ab.deleteT
  repeat' (first | refine NC.whenT ⟨NC.mapAt _, fun _ => ?_⟩ | exact ⟨trivial, fun _ => trivial⟩ | trivial | (dsimp only; split) | split)
theorem NC.rangeT (t : Nat) (x : Value) : NC (rangeT P t x) := by
  unfold Ab.rangeT
  repeat' (first | exact ⟨trivial, fun _ => ⟨trivial, fun _ => trivial⟩⟩ | exact ⟨NC.mapAt _, fun _ => ⟨trivial, fun _ => ⟨trivial, fun _ => trivial⟩⟩⟩ | trivial | split)
theorem NC.nextT (x : Value) (s : Bool) : NC (nextT x s) := by
  unfold Ab.nextT
  repeat' (first | refine ⟨trivial, fun c => ?_⟩ | refine ⟨NC.mapAt _, fun _ => ?_⟩ | trivial | (dsimp only; split) | split | (rename Array MapEntry × Nat => q; cases (Nat.beq q.2 _ && (Nat.beq q.2 _ && allOld _ q.1.toList)) <;> simp only [cond_true, cond_false]))
theorem NC.entryT (x : Value) : NC (entryT x) := by
  unfold Ab.entryT
  repeat' (first | refine ⟨trivial, fun c => ?_⟩ | refine ⟨NC.mapAt _, fun _ => ?_⟩ | trivial | (dsimp only; split) | split | (rename Array MapEntry × Nat => q; cases (Nat.beq q.2 _) <;> simp only [cond_true, cond_false]))
theorem NC.builtinT (b : Builtin) (ts : Array TypeId) (t : Nat) (args : List Value) : NC (builtinT P b ts t args) := by
  unfold Ab.builtinT
  repeat' (first | exact NC.appendT P _ _ | exact NC.copyT P _ _ | exact NC.clearT P _ _ | exact NC.deleteT P _ _ | exact NC.lenT P _ _ | exact NC.capT P _ _ | exact NC.whenT (NC.ofFlat _) | trivial | split)
theorem NC.unOpT (op : UnOp) (x : Value) : NC (unOpT P op x) := by
  unfold Ab.unOpT
  repeat' (first | exact NC.whenT (NC.ofFlat _) | trivial | split)
theorem NC.convertT (s d : Nat) (x : Value) : NC (convertT P s d x) := by
  unfold Ab.convertT
  repeat' (first | exact NC.whenT (NC.ofFlat _) | trivial | split)
theorem NC.convT (s d : Nat) (x : Value) : NC (convT P s d x) := by
  unfold Ab.convT
  split
  · exact ⟨trivial, fun _ => ⟨trivial, fun _ => ⟨NC.putVals _ _ _, fun _ => trivial⟩⟩⟩
  · exact NC.convertT P _ _ _
theorem NC.loadT (t : Nat) (a : Value) : NC (loadT P t a) := by
  unfold Ab.loadT
  repeat' (first | exact NC.loadVarT P _ _ _ | trivial | split)
theorem NC.opT (callF : Tgt → List Value → T Value) (ρ : Operand → Value) (o : Oper) (h : isCall o.op = false) : NC (opT P callF ρ o) := by
  unfold Ab.opT
  split <;> (try trivial)
  all_goals first
    | exact NC.ofOpt _
    | exact NC.newVarT P _ _
    | exact NC.loadT P _ _
    | exact NC.lookupT P _ _ _ _
    | exact NC.mapSetT P _ _ _ _
    | exact NC.mapEntryT P _ _ _
    | exact NC.entryStoreT _ _ _
    | exact NC.binOpT P _ _ _ _ _ _
    | exact NC.unOpT P _ _
    | exact NC.convT P _ _ _
    | exact NC.rangeT P _ _
    | exact NC.nextT _ _
    | exact NC.entryT _
    | exact NC.makeSliceT P _ _ _
    | exact NC.sliceT P _ _ _ _ _
    | exact NC.fieldAddrT P _ _ _
    | exact NC.indexAddrT P _ _ _
    | exact NC.bite trivial trivial
    | exact ⟨trivial, fun _ => ⟨trivial, fun _ => trivial⟩⟩
    | (unfold Ab.allocT; split <;> first | exact NC.newVarT P _ _ | trivial)
    | (unfold Ab.buildSliceT; split <;> first | exact ⟨NC.newBlk _ _ _ _, fun _ => trivial⟩ | trivial)
    | (unfold Ab.storeT; split <;> first | exact ⟨NC.storeVarT P _ _ _ _, fun _ => trivial⟩ | trivial)
    | (next c hc =>
        rw [hc] at h
        unfold Ab.callT
        simp only [isCall] at h
        split <;> first | exact NC.builtinT P _ _ _ _ | (next hq => simp only [hq] at h; cases h))
end

/-- What a frame has deferred: the marks of its loops over functions, and all of it as the abstract machine holds it. -/
structure Ms where
  marks : List Nat
  ds : List Deferred
inductive DsRel (m : Inj) : List Nat → List Deferred → List Deferred → Prop where
  | nil : DsRel m [] [] []
  | mark (r : Nat) {M : List Nat} {ds D : List Deferred} (h : DsRel m M ds D) : DsRel m (r :: M) ({ target := .collected 0, args := #[] } :: ds) ({ target := .collected r, args := #[] } :: D)
  | call {f : FuncId} {cap cap' args args' : Array Value} {M : List Nat} {ds D : List Deferred} (h1 : LRel m args.toList args'.toList) (h2 : LRel m cap.toList cap'.toList) (h : DsRel m M ds D) :
      DsRel m M ({ target := .fn (.func f) cap, args := args } :: ds) ({ target := .fn (.func f) cap', args := args' } :: D)
theorem DsRel.mono {m m' : Inj} (hm : m.le m') {M : List Nat} {ds D : List Deferred} (h : DsRel m M ds D) : DsRel m' M ds D := by
  induction h with
  | nil => exact .nil
  | mark r _ ih => exact .mark r ih
  | call h1 h2 _ ih => exact .call (h1.mono hm) (h2.mono hm) ih
theorem DsRel.none {m : Inj} {M : List Nat} {D : List Deferred} (h : DsRel m M [] D) : M = [] ∧ D = [] := by cases h; exact ⟨rfl, rfl⟩
/-- The frames: the temporaries, one by one. -/
structure FRel (n : Nat) (M : Ms) (m : Inj) (fr : Fr) (a : Act) : Prop where
  tmps : ∀ k, VRel m (fr.get k) (a.tmps.getD k undef)
  size : a.tmps.size = n
  ds : fr.ds = M.ds
  defers : DsRel m M.marks M.ds a.defers
theorem FRel.mono {n : Nat} {M : Ms} {m m' : Inj} {fr : Fr} {a : Act} (hm : m.le m') (h : FRel n M m fr a) : FRel n M m' fr a := ⟨fun k => (h.tmps k).mono hm, h.size, h.ds, h.defers.mono hm⟩
theorem Fr.get_put (n : Nat) (fr : Fr) (d : Tmp) (v : Value) (k : Nat) : (fr.put n (some d) v).get k = if k = d ∧ d < n then v else fr.get k := by
  obtain ⟨t, ds⟩ := fr
  unfold Fr.put Fr.get
  simp only [bite_eq, blt_iff]
  by_cases hd : d < n
  · simp only [hd, if_true, and_true, Trie.get_set]
    by_cases hk : k = d <;> simp [hk]
  · simp [hd]
theorem Fr.put_ds (n : Nat) (fr : Fr) (dst : Option Tmp) (v : Value) : (fr.put n dst v).ds = fr.ds := by
  obtain ⟨t, ds⟩ := fr
  cases dst with
  | none => rfl
  | some d => unfold Fr.put; simp only [bite_eq]; split <;> rfl
theorem FRel.put {n : Nat} {M : Ms} {m : Inj} {fr : Fr} {a : Act} (h : FRel n M m fr a) (dst : Option Tmp) {v v' : Value} (hv : VRel m v v') : FRel n M m (fr.put n dst v) (a.put dst v') := by
  cases dst with
  | none => exact h
  | some d =>
    refine ⟨fun k => ?_, by simp [Act.put, h.size], by rw [Fr.put_ds]; exact h.ds, h.defers⟩
    rw [Fr.get_put]
    simp only [Act.put]
    by_cases hk : k = d ∧ d < n
    · obtain ⟨rfl, hd⟩ := hk
      rw [if_pos ⟨rfl, hd⟩]
      simpa [h.size, hd] using hv
    · rw [if_neg hk]
      have : (a.tmps.setIfInBounds d v').getD k undef = a.tmps.getD k undef := by
        by_cases hkd : k = d
        · subst hkd
          have : ¬ k < a.tmps.size := by rw [h.size]; exact fun q => hk ⟨rfl, q⟩
          simp [this]
        · simp [Array.getElem?_setIfInBounds_ne (Ne.symm hkd)]
      rw [this]; exact h.tmps k
theorem FRel.eval {n : Nat} {M : Ms} {m : Inj} {fr : Fr} {a : Act} (h : FRel n M m fr a) {x : Operand} (hx : okOperand x = true) : VRel m (fr.eval x) (a.eval x) := by
  cases x with
  | tmp t => exact h.tmps t
  | const v => exact flat_refl m hx
  | global g => cases hx
  | func f => exact .func _ (show FnOK (.func f) from True.intro) .nil .nil
theorem FRel.ops {n : Nat} {M : Ms} {m : Inj} {fr : Fr} {a : Act} (h : FRel n M m fr a) {o : Oper} (ho : okOp o = true) : ∀ x ∈ o.op.operands, VRel m (fr.eval x) (a.eval x) := by
  intro x hx
  unfold okOp at ho
  rw [List.all_eq_true] at ho
  exact h.eval (ho x (Array.mem_toList_iff.2 hx))
theorem FRel.bool {n : Nat} {M : Ms} {m : Inj} {fr : Fr} {a : Act} (h : FRel n M m fr a) {x : Operand} {b : Bool} (hx : fr.eval x = .bool b) : a.eval x = .bool b := by
  cases x with
  | tmp t =>
    have h1 := h.tmps t
    have hx : fr.get t = .bool b := hx
    rw [hx] at h1
    show a.tmps.getD t undef = _
    cases hq : a.tmps.getD t undef <;> rw [hq] at h1 <;> cases h1
    rfl
  | const v => exact hx
  | global g => cases hx
  | func f => cases hx
theorem FRel.wanted {n : Nat} {M : Ms} {m : Inj} {fr : Fr} {a : Act} (h : FRel n M m fr a) (ops : List Oper) (o : Oper) : wantedF ops fr o = Region.wanted o (yielded ops.toArray a.tmps) := by
  unfold wantedF Region.wanted
  cases hg : o.guard with
  | none => rfl
  | some jw =>
    obtain ⟨j, want⟩ := jw
    simp only
    have hy : yieldedF ops fr j = yielded ops.toArray a.tmps j := by
      unfold yieldedF yielded
      have hj : ops.toArray[j]? = ops[j]? := by simp
      rw [hj]
      cases hd : (ops[j]?).bind (·.dst) with
      | none => rfl
      | some t =>
        simp only [Option.bind_some]
        have h1 := h.tmps t
        by_cases htn : t < a.tmps.size
        case neg =>
          have hq : a.tmps[t]? = none := Array.getElem?_eq_none (Nat.le_of_not_lt htn)
          have hq2 : a.tmps.getD t undef = undef := by simp [htn]
          rw [hq]
          rw [hq2] at h1
          cases hq' : fr.get t <;> rw [hq'] at h1 <;> cases h1 <;> rfl
        have hget : a.tmps[t]? = some (a.tmps.getD t undef) := by simp [htn]
        rw [hget]
        cases hq : a.tmps.getD t undef <;> rw [hq] at h1 <;> cases hq' : fr.get t <;> rw [hq'] at h1 <;> cases h1 <;> rfl
    rw [hy]
    cases yielded ops.toArray a.tmps j with
    | none => rfl
    | some b => simp
end Go.Ab
