/- The abstract memory and the model's: what each step leaves true. -/
import Derived.Test.YtfleloeadbdbcaaGreatAbC
namespace Go.Ab
open Go.RowKit

section inv
variable {α β : Type}
theorem run_bind_inv {t : T α} {f : α → T β} {c : Nat} {h : Heap} {lg : Log} {b : β} {c2 : Nat} {h2 : Heap} {lg2 : Log} (hr : run (t.bind f) c h lg = .ok b c2 h2 lg2) :
    ∃ a c1 h1 lg1, run t c h lg = .ok a c1 h1 lg1 ∧ run (f a) c1 h1 lg1 = .ok b c2 h2 lg2 := by
  rw [run_bind] at hr
  cases h1 : run t c h lg with
  | bad => rw [h1] at hr; cases hr
  | ok a c1 h1' lg1 => rw [h1] at hr; exact ⟨a, c1, h1', lg1, rfl, hr⟩
theorem run_bind_of {t : T α} {f : α → T β} {c : Nat} {h : Heap} {lg : Log} {a : α} {c1 : Nat} {h1 : Heap} {lg1 : Log} (hr : run t c h lg = .ok a c1 h1 lg1) :
    run (t.bind f) c h lg = run (f a) c1 h1 lg1 := by rw [run_bind, hr]
theorem run_whenT_inv {b : Bool} {t : T α} {c : Nat} {h : Heap} {lg : Log} {a : α} {c2 : Nat} {h2 : Heap} {lg2 : Log} (hr : run (whenT b t) c h lg = .ok a c2 h2 lg2) :
    b = true ∧ run t c h lg = .ok a c2 h2 lg2 := by
  cases b with
  | false => cases hr
  | true => exact ⟨rfl, hr⟩
theorem run_ret_inv {a b : α} {c : Nat} {h : Heap} {lg : Log} {c2 : Nat} {h2 : Heap} {lg2 : Log} (hr : run (.ret a) c h lg = .ok b c2 h2 lg2) :
    a = b ∧ c = c2 ∧ h = h2 ∧ lg = lg2 := by
  rw [run_ret] at hr; injection hr with h1 h2 h3 h4; exact ⟨h1, h2, h3, h4⟩
theorem run_ofOpt_inv {o : Option α} {b : α} {c : Nat} {h : Heap} {lg : Log} {c2 : Nat} {h2 : Heap} {lg2 : Log} (hr : run (ofOpt o) c h lg = .ok b c2 h2 lg2) :
    o = some b ∧ c = c2 ∧ h = h2 ∧ lg = lg2 := by
  cases o with
  | none => cases hr
  | some a => obtain ⟨rfl, h1⟩ := run_ret_inv hr; exact ⟨rfl, h1⟩
theorem run_get_inv {l : Loc} {x : Cell} {c : Nat} {h : Heap} {lg : Log} {c2 : Nat} {h2 : Heap} {lg2 : Log} (hr : run (.get l) c h lg = .ok x c2 h2 lg2) :
    h.at l = some x ∧ c = c2 ∧ h = h2 := by
  rw [run_get] at hr
  cases hx : h.at l with
  | none => rw [hx] at hr; cases hr
  | some y => rw [hx] at hr; injection hr with h1 h2 h3 h4; exact ⟨h1 ▸ rfl, h2, h3⟩
theorem run_put_inv {l : Loc} {x : Cell} {u : Unit} {c : Nat} {h : Heap} {lg : Log} {c2 : Nat} {h2 : Heap} {lg2 : Log} (hr : run (.put l x) c h lg = .ok u c2 h2 lg2) :
    c = c2 ∧ h.put l x = h2 := by
  rw [run_put] at hr; injection hr with h1 h2 h3 h4; exact ⟨h2, h3⟩
theorem run_fresh_inv {n c : Nat} {h : Heap} {lg : Log} {c2 : Nat} {h2 : Heap} {lg2 : Log} (hr : run .fresh c h lg = .ok n c2 h2 lg2) :
    c = n ∧ c + 1 = c2 ∧ h = h2 := by
  rw [run_fresh] at hr; injection hr with h1 h2 h3 h4; exact ⟨h1, h2, h3⟩
theorem run_blkAt_inv {n : Nat} {b : BI} {c : Nat} {h : Heap} {lg : Log} {c2 : Nat} {h2 : Heap} {lg2 : Log} (hr : run (blkAt n) c h lg = .ok b c2 h2 lg2) :
    h.at (n, 0) = some (.blk b) ∧ b.st ≠ .dead ∧ c = c2 ∧ h = h2 := by
  obtain ⟨x, c1, h1, lg1, e1, e2⟩ := run_bind_inv hr
  obtain ⟨hx, rfl, rfl⟩ := run_get_inv e1
  cases x with
  | blk b' =>
    cases hst : b'.st with
    | dead => simp only [hst] at e2; cases e2
    | own => simp only [hst] at e2; obtain ⟨rfl, rfl, rfl, _⟩ := run_ret_inv e2; exact ⟨hx, by simp [hst], rfl, rfl⟩
    | init => simp only [hst] at e2; obtain ⟨rfl, rfl, rfl, _⟩ := run_ret_inv e2; exact ⟨hx, by simp [hst], rfl, rfl⟩
    | moved => simp only [hst] at e2; obtain ⟨rfl, rfl, rfl, _⟩ := run_ret_inv e2; exact ⟨hx, by simp [hst], rfl, rfl⟩
  | val v => cases e2
  | map es k => cases e2
  | loop l => cases e2
  | iter a b c d => cases e2
theorem run_getVal_inv {l : Loc} {v : Value} {c : Nat} {h : Heap} {lg : Log} {c2 : Nat} {h2 : Heap} {lg2 : Log} (hr : run (getVal l) c h lg = .ok v c2 h2 lg2) :
    h.at l = some (.val v) ∧ c = c2 ∧ h = h2 := by
  obtain ⟨x, c1, h1, lg1, e1, e2⟩ := run_bind_inv hr
  obtain ⟨hx, rfl, rfl⟩ := run_get_inv e1
  cases x with
  | val v' => obtain ⟨rfl, rfl, rfl, _⟩ := run_ret_inv e2; exact ⟨hx, rfl, rfl⟩
  | blk b => cases e2
  | map es k => cases e2
  | loop l => cases e2
  | iter a b c d => cases e2
theorem getVals_succ (n k off : Nat) : getVals n (k + 1) off = (getVal (n, off + 1)).bind fun v => (getVals n k (off + 1)).bind fun vs => .ret (v :: vs) := rfl
theorem run_getVals_inv {n : Nat} : ∀ {k off : Nat} {vs : List Value} {c : Nat} {h : Heap} {lg : Log} {c2 : Nat} {h2 : Heap} {lg2 : Log}, run (getVals n k off) c h lg = .ok vs c2 h2 lg2 →
    vs.length = k ∧ (∀ (j : Nat) (v : Value), vs[j]? = some v → h.at (n, off + j + 1) = some (.val v)) ∧ c = c2 ∧ h = h2
  | 0, off, vs, c, h, lg, c2, h2, lg2, hr => by
    obtain ⟨rfl, rfl, rfl, _⟩ := run_ret_inv hr
    exact ⟨rfl, by simp, rfl, rfl⟩
  | k + 1, off, vs, c, h, lg, c2, h2, lg2, hr => by
    rw [getVals_succ] at hr
    obtain ⟨v, c1, h1, lg1, e1, e2⟩ := run_bind_inv hr
    obtain ⟨hv, rfl, rfl⟩ := run_getVal_inv e1
    obtain ⟨vs', c3, h3, lg3, e3, e4⟩ := run_bind_inv e2
    obtain ⟨hl, hg, rfl, rfl⟩ := run_getVals_inv e3
    obtain ⟨rfl, rfl, rfl, _⟩ := run_ret_inv e4
    refine ⟨by simp [hl], fun j x hx => ?_, rfl, rfl⟩
    cases j with
    | zero => simp at hx; subst hx; exact hv
    | succ j => have := hg j x (by simpa using hx); rwa [show off + 1 + j + 1 = off + (j + 1) + 1 by omega] at this
theorem putVals_cons (n : Nat) (v : Value) (vs : List Value) (off : Nat) : putVals n (v :: vs) off = (T.put (n, off + 1) (.val v)).bind fun _ => putVals n vs (off + 1) := rfl
/-- What stands where after these values have been laid at (n, off..). -/
structure Laid (h : Heap) (n off : Nat) (vs : List Value) (h' : Heap) : Prop where
  at_ : ∀ (j : Nat) (v : Value), vs[j]? = some v → h'.at (n, off + j + 1) = some (.val v)
  out : ∀ l : Loc, (l.1 ≠ n ∨ l.2 ≤ off ∨ off + vs.length < l.2) → h'.at l = h.at l
theorem run_putVals_inv {n : Nat} : ∀ {vs : List Value} {off : Nat} {u : Unit} {c : Nat} {h : Heap} {lg : Log} {c2 : Nat} {h2 : Heap} {lg2 : Log}, run (putVals n vs off) c h lg = .ok u c2 h2 lg2 →
    c = c2 ∧ Laid h n off vs h2
  | [], off, u, c, h, lg, c2, h2, lg2, hr => by
    obtain ⟨_, rfl, rfl, _⟩ := run_ret_inv hr
    exact ⟨rfl, by simp, fun l _ => rfl⟩
  | v :: vs, off, u, c, h, lg, c2, h2, lg2, hr => by
    rw [putVals_cons] at hr
    obtain ⟨_, c1, h1, lg1, e1, e2⟩ := run_bind_inv hr
    obtain ⟨rfl, rfl⟩ := run_put_inv e1
    obtain ⟨rfl, hl⟩ := run_putVals_inv e2
    refine ⟨rfl, fun j x hx => ?_, fun l ho => ?_⟩
    · cases j with
      | zero =>
        simp at hx; subst hx
        rw [hl.out _ (.inr (.inl (by simp))), Heap.at_put, if_pos rfl]
      | succ j => have := hl.at_ j x (by simpa using hx); rwa [show off + 1 + j + 1 = off + (j + 1) + 1 by omega] at this
    · rw [hl.out l (by simp at ho; omega), Heap.at_put, if_neg]
      intro e; subst e; simp at ho; omega
theorem run_killAll_inv : ∀ {ns : List Nat} {u : Unit} {c : Nat} {h : Heap} {lg : Log} {c2 : Nat} {h2 : Heap} {lg2 : Log}, run (killAll ns) c h lg = .ok u c2 h2 lg2 →
    c = c2 ∧ (∀ l : Loc, (l.2 ≠ 0 ∨ l.1 ∉ ns) → h2.at l = h.at l) ∧ (∀ n ∈ ns, ∃ b, h2.at (n, 0) = some (.blk b) ∧ b.st = .dead)
  | [], u, c, h, lg, c2, h2, lg2, hr => by
    obtain ⟨_, rfl, rfl, _⟩ := run_ret_inv hr
    exact ⟨rfl, fun _ _ => rfl, by simp⟩
  | n :: ns, u, c, h, lg, c2, h2, lg2, hr => by
    obtain ⟨x, c1, h1, lg1, e1, e2⟩ := run_bind_inv hr
    obtain ⟨hx, rfl, rfl⟩ := run_get_inv e1
    cases x with
    | blk b =>
      obtain ⟨_, c3, h3, lg3, e3, e4⟩ := run_bind_inv e2
      obtain ⟨rfl, rfl⟩ := run_put_inv e3
      obtain ⟨rfl, ho, hd⟩ := run_killAll_inv e4
      refine ⟨rfl, fun l hl => ?_, fun k hk => ?_⟩
      · rw [ho l (by simp at hl; exact hl.imp id fun h => h.2), Heap.at_put, if_neg]
        intro e; subst e; simp at hl
      · by_cases hkn : k ∈ ns
        · exact hd k hkn
        · rcases List.mem_cons.1 hk with rfl | hk'
          · refine ⟨_, by rw [ho _ (.inr hkn), Heap.at_put, if_pos rfl], rfl⟩
          · exact absurd hk' hkn
    | val v => cases e2
    | map es k => cases e2
    | loop l => cases e2
    | iter a b c d => cases e2
end inv

/-- One map's entries. -/
structure MRel (m : Inj) (e e' : MapEntry) : Prop where
  key : e'.key = e.key
  flat : flat e.key = true
  val : VRel m e.val e'.val
  born : e'.born = e.born
inductive MsRel (m : Inj) : List MapEntry → List MapEntry → Prop where
  | nil : MsRel m [] []
  | cons {e e' : MapEntry} {es es' : List MapEntry} (h : MRel m e e') (hs : MsRel m es es') : MsRel m (e :: es) (e' :: es')
structure LRelO (m : Inj) (al : ALoop) (l : Loop) : Prop where
  state : l.state = al.state
  pending : l.pending = al.pending
  params : l.params = al.params
  assign : l.assign = al.assign
  body : l.body = al.body
  size : l.tmps.size = al.n
  tmps : ∀ k, VRel m ((al.t.get k).getD undef) (l.tmps.getD k undef)
/-- What is no row of cells: a map, a loop over a function, an iterator. -/
inductive ObjRel (m : Inj) : Cell → Obj → Prop where
  | map {es es' : Array MapEntry} {k : Nat} (h : MsRel m es.toList es'.toList) : ObjRel m (.map es k) (.map es' k)
  | loop {al : ALoop} {l : Loop} (h : LRelO m al l) : ObjRel m (.loop al) (.loop l)
  | iterNil (a : Nat) (b : Array Nat) (c : Nat) : ObjRel m (.iter none a b c) (.mapIter none a b c)
  | iter {n : Nat} {i : Img} (h : m n = some i) (a : Nat) (b : Array Nat) (c : Nat) : ObjRel m (.iter (some n) a b c) (.mapIter (some i.blk) a b c)
structure BOK (m : Inj) (base : Nat) (h : Heap) (w : World) (n : Nat) (b : BI) (i : Img) (C : Array Value) (e : TypeId) (fz : Nat × Nat) : Prop where
  img : m n = some i
  size : i.size = b.size
  esz : i.esz = b.esz
  tot : i.tot = C.size
  row : w.heap[i.blk]? = some (.cells C e fz)
  fits : i.del + i.size ≤ C.size
  new : b.st ≠ .init → base ≤ i.blk ∧ (b.st = .own → fz = (0, 0))
  old : b.st = .init → i.blk < base
  cell : ∀ k v, k < b.size → h.at (n, k + 1) = some (.val v) → ∃ v', C[i.del + k]? = some v' ∧ VRel m v v'
structure Sim (m : Inj) (base : Nat) (h : Heap) (w : World) : Prop where
  lay : ∀ n b, h.at (n, 0) = some (.blk b) → b.st ≠ .dead → ∃ i C e fz, BOK m base h w n b i C e fz
  sole : ∀ n b n2 b2 i i2, h.at (n, 0) = some (.blk b) → b.st = .own → h.at (n2, 0) = some (.blk b2) → b2.st ≠ .dead → m n = some i → m n2 = some i2 → i2.blk = i.blk → n2 ≠ n → n2 ∈ b.olds ∧ b2.st ≠ .own ∧ i2.del + i2.size ≤ i.del + i.size
  objs : ∀ n x, h.at (n, 0) = some x → x.isObj = true → ∃ i o, m n = some i ∧ (base ≤ i.blk ∧ i.del = 0) ∧ w.heap[i.blk]? = some o ∧ ObjRel m x o
  objOne : ∀ n x n2 x2 i i2, h.at (n, 0) = some x → x.isObj = true → h.at (n2, 0) = some x2 → x2.isObj = true → m n = some i → m n2 = some i2 → i2.blk = i.blk → n2 = n
  dom : ∀ n i, m n = some i → i.blk < w.heap.size
  room : base ≤ w.heap.size
/-- From (m, w) on to (m', w'): nothing forgotten; what is new is new or lies where something of ours lay; all other memory as it was. -/
structure Go1 (m : Inj) (base : Nat) (w : World) (m' : Inj) (w' : World) : Prop where
  le : m.le m'
  new : ∀ n i, m' n = some i → m n = some i ∨ w.heap.size ≤ i.blk ∨ ∃ n0 i0, m n0 = some i0 ∧ i0.blk = i.blk
  os : w'.os = w.os
  tape : w'.tape = w.tape
  output : w'.output = w.output
  size : w.heap.size ≤ w'.heap.size
  keep : ∀ k, k < w.heap.size → (k < base ∨ ∀ n i, m n = some i → i.blk ≠ k) → w'.heap[k]? = w.heap[k]?
theorem Go1.refl (m : Inj) (base : Nat) (w : World) : Go1 m base w m w := ⟨m.le_refl, fun _ _ h => .inl h, rfl, rfl, rfl, Nat.le_refl _, fun _ _ _ => rfl⟩
theorem Go1.trans {m m1 m2 : Inj} {base : Nat} {w w1 w2 : World} (a : Go1 m base w m1 w1) (b : Go1 m1 base w1 m2 w2) : Go1 m base w m2 w2 := by
  refine ⟨Inj.le_trans a.le b.le, fun n i hn => ?_, b.os.trans a.os, b.tape.trans a.tape, b.output.trans a.output, Nat.le_trans a.size b.size, fun k hk hm => ?_⟩
  · rcases b.new n i hn with h | h | ⟨n0, i0, h, e⟩
    · exact a.new n i h
    · exact .inr (.inl (Nat.le_trans a.size h))
    · rcases a.new n0 i0 h with h' | h' | ⟨n1, i1, h', e'⟩
      · exact .inr (.inr ⟨n0, i0, h', e⟩)
      · exact .inr (.inl (e ▸ h'))
      · exact .inr (.inr ⟨n1, i1, h', e'.trans e⟩)
  · rw [b.keep k (Nat.lt_of_lt_of_le hk a.size), a.keep k hk hm]
    refine hm.imp id fun hm n i hn => ?_
    rcases a.new n i hn with h | h | ⟨n0, i0, h, e⟩
    · exact hm n i h
    · omega
    · exact e ▸ hm n0 i0 h
def Names (m m' : Inj) (c c' : Nat) : Prop := ∀ n, m n = none → (n < c ∨ c' ≤ n) → m' n = none
theorem Names.refl (m : Inj) (c c' : Nat) : Names m m c c' := fun _ h _ => h
theorem Names.trans {a b d : Inj} {c c1 c2 : Nat} (h : Names a b c c1) (k : Names b d c1 c2) (h1 : c ≤ c1) (h2 : c1 ≤ c2) : Names a d c c2 :=
  fun n hn ho => k n (h n hn (by omega)) (by omega)
theorem run_ctr {α : Type} (t : T α) : ∀ {c : Nat} {h : Heap} {lg : Log} {a : α} {c' : Nat} {h' : Heap} {lg' : Log}, run t c h lg = .ok a c' h' lg' → c ≤ c' := by
  induction t with
  | ret a => intro c h lg b c' h' lg' hr; obtain ⟨_, rfl, _⟩ := run_ret_inv hr; exact Nat.le_refl _
  | fail => intro c h lg b c' h' lg' hr; cases hr
  | get l => intro c h lg b c' h' lg' hr; obtain ⟨_, rfl, _⟩ := run_get_inv hr; exact Nat.le_refl _
  | put l x => intro c h lg b c' h' lg' hr; obtain ⟨rfl, _⟩ := run_put_inv hr; exact Nat.le_refl _
  | fresh => intro c h lg b c' h' lg' hr; obtain ⟨_, rfl, _⟩ := run_fresh_inv hr; exact Nat.le_succ _
  | choose n => intro c h lg b c' h' lg' hr; cases hr
  | bind t f iht ihf =>
    intro c h lg b c' h' lg' hr
    obtain ⟨a, c1, h1, lg1, e1, e2⟩ := run_bind_inv hr
    exact Nat.le_trans (iht e1) (ihf a e2)
  | logd t ih =>
    intro c h lg b c' h' lg' hr
    rw [run_logd] at hr
    cases h1 : run t c h [] with
    | bad => rw [h1] at hr; cases hr
    | ok b c1 h2 lg1 => rw [h1] at hr; injection hr with e1 e2 e3 e4; exact e2 ▸ ih h1
end Go.Ab
