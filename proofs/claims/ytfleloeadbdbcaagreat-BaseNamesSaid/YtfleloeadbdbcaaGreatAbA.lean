/- An abstract machine for Go code: memory as a tree, and programs over it. -/
import GoSem.Step
import Derived.CallsIn
import Derived.Orders
namespace Go.Ab

/-- Memory is a tree over the binary digits of a number. -/
inductive Trie (α : Type) where
  | leaf
  | node (v : Option α) (l r : Trie α)

/-- if, by the recursor (for the kernel). -/
@[reducible] noncomputable def bite {α : Sort _} (b : Bool) (x y : α) : α := Bool.rec (motive := fun _ => α) y x b
theorem bite_eq {α : Sort _} (b : Bool) (x y : α) : bite b x y = if b = true then x else y := by cases b <;> rfl
@[simp] theorem bite_true {α : Sort _} (x y : α) : bite true x y = x := rfl
@[simp] theorem bite_false {α : Sort _} (x y : α) : bite false x y = y := rfl

namespace Trie
variable {α : Type}
noncomputable def get (t : Trie α) : Nat → Option α := Trie.rec (motive := fun _ => Nat → Option α) (fun _ => none)
  (fun v _ _ gl gr k => bite (Nat.beq k 0) v (bite (Nat.beq (Nat.land k 1) 1) (gl (Nat.shiftRight k 1)) (gr (Nat.sub (Nat.shiftRight k 1) 1)))) t
noncomputable def setF (f : Nat) : Nat → α → Trie α → Trie α := Nat.rec (motive := fun _ => Nat → α → Trie α → Trie α) (fun _ _ t => t)
  (fun _ ih k x t => Trie.rec (motive := fun _ => Trie α)
    (bite (Nat.beq k 0) (.node (some x) .leaf .leaf) (bite (Nat.beq (Nat.land k 1) 1) (.node none (ih (Nat.shiftRight k 1) x .leaf) .leaf) (.node none .leaf (ih (Nat.sub (Nat.shiftRight k 1) 1) x .leaf))))
    (fun v l r _ _ => bite (Nat.beq k 0) (.node (some x) l r) (bite (Nat.beq (Nat.land k 1) 1) (.node v (ih (Nat.shiftRight k 1) x l) r) (.node v l (ih (Nat.sub (Nat.shiftRight k 1) 1) x r)))) t) f
noncomputable def set (t : Trie α) (k : Nat) (x : α) : Trie α := setF (Nat.succ k) k x t
theorem land_one (k : Nat) : Nat.land k 1 = k % 2 := Nat.and_one_is_mod k
theorem shr_one (k : Nat) : Nat.shiftRight k 1 = k / 2 := by rw [show Nat.shiftRight k 1 = k >>> 1 from rfl, Nat.shiftRight_eq_div_pow]
theorem get_node (v : Option α) (l r : Trie α) (k : Nat) : (node v l r).get k = if k = 0 then v else if k % 2 = 1 then l.get (k / 2) else r.get (k / 2 - 1) := by
  show bite (Nat.beq k 0) v (bite (Nat.beq (Nat.land k 1) 1) (l.get (Nat.shiftRight k 1)) (r.get (Nat.sub (Nat.shiftRight k 1) 1))) = _
  rw [land_one, shr_one, bite_eq, bite_eq]
  simp only [Nat.beq_eq]
  rfl
@[simp] theorem get_leaf (k : Nat) : (leaf : Trie α).get k = none := rfl
theorem setF_leaf (f k : Nat) (x : α) : setF (f + 1) k x leaf = if k = 0 then node (some x) leaf leaf else if k % 2 = 1 then node none (setF f (k / 2) x leaf) leaf else node none leaf (setF f (k / 2 - 1) x leaf) := by
  show bite (Nat.beq k 0) (Trie.node (some x) Trie.leaf Trie.leaf) (bite (Nat.beq (Nat.land k 1) 1) (Trie.node none (setF f (Nat.shiftRight k 1) x Trie.leaf) Trie.leaf) (Trie.node none Trie.leaf (setF f (Nat.sub (Nat.shiftRight k 1) 1) x Trie.leaf))) = _
  rw [land_one, shr_one, bite_eq, bite_eq]
  simp only [Nat.beq_eq]
  rfl
theorem setF_node (f k : Nat) (x : α) (v : Option α) (l r : Trie α) : setF (f + 1) k x (node v l r) = if k = 0 then node (some x) l r else if k % 2 = 1 then node v (setF f (k / 2) x l) r else node v l (setF f (k / 2 - 1) x r) := by
  show bite (Nat.beq k 0) (Trie.node (some x) l r) (bite (Nat.beq (Nat.land k 1) 1) (Trie.node v (setF f (Nat.shiftRight k 1) x l) r) (Trie.node v l (setF f (Nat.sub (Nat.shiftRight k 1) 1) x r))) = _
  rw [land_one, shr_one, bite_eq, bite_eq]
  simp only [Nat.beq_eq]
  rfl
theorem get_setF : ∀ (f k : Nat) (x : α) (t : Trie α) (k' : Nat), k < f → (setF f k x t).get k' = if k' = k then some x else t.get k' := by
  intro f
  induction f with
  | zero => intro k x t k' h; omega
  | succ f ih =>
    intro k x t k' h
    cases t with
    | leaf =>
      rw [setF_leaf]
      by_cases h0 : k = 0
      · subst h0
        simp only [if_true, get_node, get_leaf]
        by_cases h1 : k' = 0 <;> simp [h1]
      · simp only [h0, if_false]
        by_cases h2 : k % 2 = 1
        · simp only [h2, if_true, get_node, get_leaf]
          rw [ih _ _ _ _ (by omega)]
          simp only [get_leaf]
          by_cases h1 : k' = k
          · subst h1; simp [h0, h2]
          · rw [if_neg h1]
            repeat' split
            all_goals first | rfl | (exfalso; omega)
        · simp only [h2, if_false, get_node, get_leaf]
          rw [ih _ _ _ _ (by omega)]
          simp only [get_leaf]
          by_cases h1 : k' = k
          · subst h1; simp [h0, h2]
          · rw [if_neg h1]
            repeat' split
            all_goals first | rfl | (exfalso; omega)
    | node v l r =>
      rw [setF_node]
      by_cases h0 : k = 0
      · subst h0
        simp only [if_true, get_node]
        by_cases h1 : k' = 0 <;> simp [h1]
      · simp only [h0, if_false]
        by_cases h2 : k % 2 = 1
        · simp only [h2, if_true, get_node]
          rw [ih _ _ _ _ (by omega)]
          by_cases h1 : k' = k
          · subst h1; simp [h0, h2]
          · rw [if_neg h1]
            repeat' split
            all_goals first | rfl | (exfalso; omega)
        · simp only [h2, if_false, get_node]
          rw [ih _ _ _ _ (by omega)]
          by_cases h1 : k' = k
          · subst h1; simp [h0, h2]
          · rw [if_neg h1]
            repeat' split
            all_goals first | rfl | (exfalso; omega)
theorem get_set (t : Trie α) (k : Nat) (x : α) (k' : Nat) : (t.set k x).get k' = if k' = k then some x else t.get k' := get_setF _ _ _ _ _ (Nat.lt_succ_self _)
end Trie

abbrev Loc := Nat × Nat
/-- How a block may be used: written by its owner, read alone (an argument's), superseded by an append, gone. -/
inductive Stat where
  | own | init | moved | dead
  deriving DecidableEq
structure BI where
  elem : TypeId
  esz : Nat
  size : Nat
  st : Stat
  olds : List Nat
/-- A range over a function, under way: its frame, what is assigned and done each round. -/
structure ALoop where
  state : LoopState
  pending : Option Code
  n : Nat
  t : Trie Value
  params : Array Tmp
  assign : Code
  body : Code
inductive Cell where
  | val (v : Value)
  | blk (b : BI)
  | map (es : Array MapEntry) (clock : Nat)
  | loop (l : ALoop)
  | iter (map : Option Nat) (since : Nat) (seen : Array Nat) (stepped : Nat)
def Cell.isObj : Cell → Bool
  | .val _ | .blk _ => false
  | _ => true
abbrev Heap := Trie (Trie Cell)
noncomputable def Heap.at (h : Heap) (l : Loc) : Option Cell := Option.rec (motive := fun _ => Option Cell) none (fun t => t.get l.2) (h.get l.1)
noncomputable def Heap.put (h : Heap) (l : Loc) (c : Cell) : Heap := h.set l.1 ((Option.rec (motive := fun _ => Trie Cell) .leaf (fun t => t) (h.get l.1)).set l.2 c)
theorem Heap.at_put (h : Heap) (l : Loc) (c : Cell) (l' : Loc) : (h.put l c).at l' = if l' = l then some c else h.at l' := by
  obtain ⟨n, i⟩ := l
  obtain ⟨n', i'⟩ := l'
  unfold Heap.put Heap.at
  simp only [Trie.get_set, Prod.mk.injEq]
  by_cases hn : n' = n
  · subst hn
    simp only [if_true, true_and, Trie.get_set]
    by_cases hi : i' = i
    · simp [hi]
    · simp only [hi, if_false]
      cases h.get n' <;> simp
  · simp [hn]
structure St where
  ctr : Nat
  h : Heap

/-- Programs over that memory. -/
inductive T : Type → Type 1 where
  | ret {α : Type} (a : α) : T α
  | fail {α : Type} : T α
  | get (l : Loc) : T Cell
  | put (l : Loc) (c : Cell) : T Unit
  | fresh : T Nat
  | choose (n : Nat) : T Nat
  | bind {α β : Type} (t : T α) (f : α → T β) : T β
  | logd {α : Type} (t : T α) : T (α × List (Loc × Bool))

abbrev Log := List (Loc × Bool)
/-- What a run comes to. -/
inductive R (α : Type) : Type where
  | bad
  | ok (a : α) (c : Nat) (h : Heap) (lg : Log)
/-- A run that also says what it read (false) and wrote (true), the last first. -/
noncomputable def run {α : Type} (t : T α) : Nat → Heap → Log → R α := T.rec (motive := fun {α} _ => Nat → Heap → Log → R α)
  (fun a c h lg => .ok a c h lg)
  (fun _ _ _ => .bad)
  (fun l c h lg => Option.rec (motive := fun _ => R Cell) .bad (fun x => .ok x c h ((l, false) :: lg)) (h.at l))
  (fun l x c h lg => .ok () c (h.put l x) ((l, true) :: lg))
  (fun c h lg => .ok c (Nat.succ c) h lg)
  (fun _ _ _ _ => .bad)
  (fun _ _ iht ihf c h lg => R.rec (motive := fun _ => R _) .bad (fun a c h lg => ihf a c h lg) (iht c h lg))
  (fun _ ih c h lg => R.rec (motive := fun _ => R _) .bad (fun a c h lg' => .ok (a, lg') c h (lg' ++ lg)) (ih c h [])) t
section
variable {α β : Type}
theorem run_ret (a : α) (c : Nat) (h : Heap) (lg : Log) : run (.ret a) c h lg = .ok a c h lg := rfl
theorem run_fail (c : Nat) (h : Heap) (lg : Log) : run (.fail : T α) c h lg = .bad := rfl
theorem run_get (l : Loc) (c : Nat) (h : Heap) (lg : Log) : run (.get l) c h lg = match h.at l with | none => .bad | some x => .ok x c h ((l, false) :: lg) := by
  show Option.rec (motive := fun _ => R Cell) .bad (fun x => .ok x c h ((l, false) :: lg)) (h.at l) = _
  cases h.at l <;> rfl
theorem run_put (l : Loc) (x : Cell) (c : Nat) (h : Heap) (lg : Log) : run (.put l x) c h lg = .ok () c (h.put l x) ((l, true) :: lg) := rfl
theorem run_fresh (c : Nat) (h : Heap) (lg : Log) : run .fresh c h lg = .ok c (c + 1) h lg := rfl
theorem run_bind (t : T α) (f : α → T β) (c : Nat) (h : Heap) (lg : Log) : run (t.bind f) c h lg = match run t c h lg with | .bad => .bad | .ok a c h lg => run (f a) c h lg := by
  show R.rec (motive := fun _ => R β) .bad (fun a c h lg => run (f a) c h lg) (run t c h lg) = _
  cases run t c h lg <;> rfl
theorem run_logd (t : T α) (c : Nat) (h : Heap) (lg : Log) : run t.logd c h lg = match run t c h [] with | .bad => .bad | .ok a c h lg' => .ok (a, lg') c h (lg' ++ lg) := by
  show R.rec (motive := fun _ => R _) .bad (fun a c h lg' => .ok (a, lg') c h (lg' ++ lg)) (run t c h []) = _
  cases run t c h [] <;> rfl
end
/-- The program goes through, and ends so. -/
def wpt : {α : Type} → T α → St → (α → St → Prop) → Prop
  | _, .ret a, s, Q => Q a s
  | _, .fail, _, _ => False
  | _, .get l, s, Q => ∃ c, s.h.at l = some c ∧ Q c s
  | _, .put l c, s, Q => Q () ⟨s.ctr, s.h.put l c⟩
  | _, .fresh, s, Q => Q s.ctr ⟨s.ctr + 1, s.h⟩
  | _, .choose n, s, Q => 0 < n ∧ ∀ i, i < n → Q i s
  | _, .bind t f, s, Q => wpt t s fun a s' => wpt (f a) s' Q
  | _, .logd t, s, Q => ∃ a c h lg, run t s.ctr s.h [] = .ok a c h lg ∧ Q (a, lg) ⟨c, h⟩
theorem wpt_mono {α : Type} (t : T α) : ∀ (s : St) (Q Q' : α → St → Prop), (∀ a s, Q a s → Q' a s) → wpt t s Q → wpt t s Q' := by
  induction t with
  | ret a => intro s Q Q' h hh; exact h _ _ hh
  | fail => intro s Q Q' h hh; exact hh
  | get l => intro s Q Q' h ⟨c, h1, h2⟩; exact ⟨c, h1, h _ _ h2⟩
  | put l c => intro s Q Q' h hh; exact h _ _ hh
  | fresh => intro s Q Q' h hh; exact h _ _ hh
  | choose n => intro s Q Q' h ⟨h1, h2⟩; exact ⟨h1, fun i hi => h _ _ (h2 i hi)⟩
  | bind t f iht ihf => intro s Q Q' h hh; exact iht _ _ _ (fun a s' h' => ihf a _ _ _ h h') hh
  | logd t _ => intro s Q Q' h ⟨a, c, hp, lg, h1, h2⟩; exact ⟨a, c, hp, lg, h1, h _ _ h2⟩
theorem wpt_of_run {α : Type} (t : T α) : ∀ (c : Nat) (h : Heap) (lg : Log) (a : α) (c' : Nat) (h' : Heap) (lg' : Log) (Q : α → St → Prop),
    run t c h lg = .ok a c' h' lg' → Q a ⟨c', h'⟩ → wpt t ⟨c, h⟩ Q := by
  induction t with
  | ret a => intro c h lg a c' h' lg' Q hr hq; rw [run_ret] at hr; injection hr with h1 h2 h3 h4; subst h1 h2 h3; exact hq
  | fail => intro c h lg a c' h' lg' Q hr hq; rw [run_fail] at hr; cases hr
  | get l =>
    intro c h lg a c' h' lg' Q hr hq
    rw [run_get] at hr
    cases hx : h.at l with
    | none => rw [hx] at hr; cases hr
    | some x => rw [hx] at hr; injection hr with h1 h2 h3 h4; subst h1 h2 h3; exact ⟨_, hx, hq⟩
  | put l x => intro c h lg a c' h' lg' Q hr hq; rw [run_put] at hr; injection hr with h1 h2 h3 h4; subst h1 h2 h3; exact hq
  | fresh => intro c h lg a c' h' lg' Q hr hq; rw [run_fresh] at hr; injection hr with h1 h2 h3 h4; subst h1 h2 h3; exact hq
  | choose n => intro c h lg a c' h' lg' Q hr hq; cases hr
  | bind t f iht ihf =>
    intro c h lg a c' h' lg' Q hr hq
    rw [run_bind] at hr
    cases h1 : run t c h lg with
    | bad => rw [h1] at hr; cases hr
    | ok b c1 h2 lg1 => rw [h1] at hr; exact iht _ _ _ _ _ _ _ _ h1 (ihf _ _ _ _ _ _ _ _ _ hr hq)
  | logd t _ =>
    intro c h lg a c' h' lg' Q hr hq
    rw [run_logd] at hr
    cases h1 : run t c h [] with
    | bad => rw [h1] at hr; cases hr
    | ok b c1 h2 lg1 => rw [h1] at hr; injection hr with e1 e2 e3 e4; subst e1 e2 e3; exact ⟨_, _, _, _, h1, hq⟩
end Go.Ab
