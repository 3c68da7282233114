/- How the abstract machine's memory stands to the model's. -/
import Derived.Test.YtfleloeadbdbcaaGreatAbB
import Derived.Laws.CopyOwn
import Derived.Laws.CopyRow
import Derived.Below
namespace Go.Ab
open Go.RowKit

/-- Where an abstract block lies: the model's block, the shift, how many cells, how many to an element, how many cells the model's block has. -/
structure Img where
  blk : Nat
  del : Nat
  size : Nat
  esz : Nat
  tot : Nat
abbrev Inj := Nat → Option Img
def FnOK : Fn → Prop
  | .yield _ => False
  | _ => True

mutual
inductive VRel (m : Inj) : Value → Value → Prop where
  | bool (b : Bool) : VRel m (.bool b) (.bool b)
  | int (k : IntKind) (n : Int) : VRel m (.int k n) (.int k n)
  | float (k : FloatKind) (n : Nat) : VRel m (.float k n) (.float k n)
  | complex (k : FloatKind) (a b : Nat) : VRel m (.complex k a b) (.complex k a b)
  | string (s : ByteArray) : VRel m (.string s) (.string s)
  | ptrNil : VRel m (.pointer none) (.pointer none)
  | ptr {n o : Nat} {i : Img} (h : m n = some i) : VRel m (.pointer (some ⟨n, o, none⟩)) (.pointer (some ⟨i.blk, o + i.del, none⟩))
  | slNil : VRel m (.slice none 0 0) (.slice none 0 0)
  | sl {n o : Nat} {i : Img} {len cap cap' : Nat} (h : m n = some i) (hc : cap' = cap ∨ (cap ≤ cap' ∧ o + cap * i.esz = i.size ∧ o + i.del + cap' * i.esz ≤ i.tot)) (hl : len ≤ cap) :
      VRel m (.slice (some ⟨n, o, none⟩) len cap) (.slice (some ⟨i.blk, o + i.del, none⟩) len cap')
  | slEnd (a a' : Addr) : VRel m (.slice (some a) 0 0) (.slice (some a') 0 0)
  | mapNil : VRel m (.map none) (.map none)
  | map {n : Nat} {i : Img} (h : m n = some i) : VRel m (.map (some n)) (.map (some i.blk))
  | chanNil : VRel m (.chan none) (.chan none)
  | nilFunc : VRel m .nilFunc .nilFunc
  | nilIface : VRel m .nilIface .nilIface
  | func (fn : Fn) (hf : FnOK fn) {a b a' b' : Array Value} (h1 : LRel m a.toList a'.toList) (h2 : LRel m b.toList b'.toList) : VRel m (.func fn a b) (.func fn a' b')
  | yield {n : Nat} {i : Img} (h : m n = some i) : VRel m (.func (.yield n) #[] #[]) (.func (.yield i.blk) #[] #[])
  | iface (t : TypeId) {v v' : Value} (h : VRel m v v') : VRel m (.iface t v) (.iface t v')
  | agg {a a' : Array Value} (h : LRel m a.toList a'.toList) : VRel m (.agg a) (.agg a')
  | tuple {a a' : Array Value} (h : LRel m a.toList a'.toList) : VRel m (.tuple a) (.tuple a')
inductive LRel (m : Inj) : List Value → List Value → Prop where
  | nil : LRel m [] []
  | cons {v v' : Value} {vs vs' : List Value} (h : VRel m v v') (hs : LRel m vs vs') : LRel m (v :: vs) (v' :: vs')
end
def Inj.le (m m' : Inj) : Prop := ∀ n i, m n = some i → m' n = some i
theorem Inj.le_refl (m : Inj) : m.le m := fun _ _ h => h
theorem Inj.le_trans {a b c : Inj} (h : a.le b) (k : b.le c) : a.le c := fun n i hn => k n i (h n i hn)
mutual
theorem VRel.mono {m m' : Inj} (hm : m.le m') : ∀ {v v' : Value}, VRel m v v' → VRel m' v v'
  | _, _, .bool b => .bool b
  | _, _, .int k n => .int k n
  | _, _, .float k n => .float k n
  | _, _, .complex k a b => .complex k a b
  | _, _, .string s => .string s
  | _, _, .ptrNil => .ptrNil
  | _, _, .ptr h => .ptr (hm _ _ h)
  | _, _, .slNil => .slNil
  | _, _, .sl h hc hl => .sl (hm _ _ h) hc hl
  | _, _, .slEnd a a' => .slEnd a a'
  | _, _, .mapNil => .mapNil
  | _, _, .map h => .map (hm _ _ h)
  | _, _, .chanNil => .chanNil
  | _, _, .nilFunc => .nilFunc
  | _, _, .nilIface => .nilIface
  | _, _, .func fn hf h1 h2 => .func fn hf (LRel.mono hm h1) (LRel.mono hm h2)
  | _, _, .yield h => .yield (hm _ _ h)
  | _, _, .iface t h => .iface t (VRel.mono hm h)
  | _, _, .agg h => .agg (LRel.mono hm h)
  | _, _, .tuple h => .tuple (LRel.mono hm h)
theorem LRel.mono {m m' : Inj} (hm : m.le m') : ∀ {l l' : List Value}, LRel m l l' → LRel m' l l'
  | _, _, .nil => .nil
  | _, _, .cons h hs => .cons (VRel.mono hm h) (LRel.mono hm hs)
end
section
variable {m : Inj}
theorem LRel.length : ∀ {l l' : List Value}, LRel m l l' → l'.length = l.length
  | _, _, .nil => rfl
  | _, _, .cons _ hs => by simp [hs.length]
theorem LRel.get : ∀ {l l' : List Value}, LRel m l l' → ∀ {k : Nat} {v : Value}, l[k]? = some v → ∃ v', l'[k]? = some v' ∧ VRel m v v'
  | _, _, .nil, k, v, h => by simp at h
  | _, _, .cons (v' := v') h hs, 0, v, e => by simp at e; subst e; exact ⟨v', rfl, h⟩
  | _, _, .cons h hs, k + 1, v, e => by simp at e; simpa using hs.get e
theorem LRel.append : ∀ {a a' b b' : List Value}, LRel m a a' → LRel m b b' → LRel m (a ++ b) (a' ++ b')
  | _, _, _, _, .nil, h => h
  | _, _, _, _, .cons h hs, k => .cons h (hs.append k)
theorem LRel.take : ∀ {a a' : List Value} (n : Nat), LRel m a a' → LRel m (a.take n) (a'.take n)
  | _, _, 0, _ => by simpa using LRel.nil
  | _, _, n + 1, .nil => by simpa using LRel.nil
  | _, _, n + 1, .cons h hs => by simpa using LRel.cons h (hs.take n)
theorem LRel.drop : ∀ {a a' : List Value} (n : Nat), LRel m a a' → LRel m (a.drop n) (a'.drop n)
  | _, _, 0, h => by simpa using h
  | _, _, n + 1, .nil => by simpa using LRel.nil
  | _, _, n + 1, .cons h hs => by simpa using hs.drop n
theorem LRel.of_get : ∀ (l l' : List Value), l'.length = l.length → (∀ (k : Nat) (v : Value), l[k]? = some v → ∃ v', l'[k]? = some v' ∧ VRel m v v') → LRel m l l'
  | [], [], _, _ => .nil
  | [], _ :: _, h, _ => by simp at h
  | _ :: _, [], h, _ => by simp at h
  | v :: vs, v' :: vs', h, hk => by
    obtain ⟨u, hu, hr⟩ := hk 0 v rfl
    simp at hu; subst hu
    exact .cons hr (LRel.of_get vs vs' (by simpa using h) fun k x hx => by simpa using hk (k + 1) x (by simpa using hx))
theorem LRel.rep {a a' : List Value} (h : LRel m a a') : ∀ n, LRel m (rep n a) (rep n a')
  | 0 => .nil
  | n + 1 => h.append (LRel.rep h n)
theorem VRel.atomic {v v' : Value} (h : VRel m v v') (ha : atomic v = true) : v'.oneCell' = true := by
  cases h <;> first | rfl | (simp [Ab.atomic] at ha)
theorem flatL_cons (f : Value → Bool) (v : Value) (vs : List Value) : flatL f (v :: vs) = (f v && flatL f vs) := by
  show bite (f v) (flatL f vs) false = _
  cases f v <;> rfl
theorem flatL_nil (f : Value → Bool) : flatL f [] = true := rfl
theorem LRel.atomic : ∀ {l l' : List Value}, LRel m l l' → flatL Ab.atomic l = true → ∀ v ∈ l', v.oneCell' = true
  | _, _, .nil, _ => by simp
  | _, _, .cons h hs, ha => by
    rw [flatL_cons, Bool.and_eq_true] at ha
    intro x hx
    rcases List.mem_cons.1 hx with rfl | hx
    · exact h.atomic ha.1
    · exact hs.atomic ha.2 x hx
theorem VRel.cellsL {v v' : Value} (h : VRel m v v') : LRel m (cellsL v) v'.cells.toList := by
  cases h <;> first
    | (simpa [Ab.cellsL, Value.cells] using ‹LRel m _ _›)
    | exact .cons (by constructor <;> assumption) .nil
theorem bite_or {b : Bool} {α : Sort _} {x y : α} {z : α} (h : bite b x y = z) : (b = true ∧ x = z) ∨ (b = false ∧ y = z) := by cases b <;> simp_all
theorem flatD_eq : ∀ (d : Nat), (∀ (v v' : Value), flatD d v = true → VRel m v v' → v' = v) ∧ (∀ (l l' : List Value), flatL (flatD d) l = true → LRel m l l' → l' = l) := by
  intro d
  induction d with
  | zero =>
    refine ⟨fun v v' h => by simp [flatD] at h, fun l l' h hl => ?_⟩
    cases hl with
    | nil => rfl
    | cons h1 h2 => rw [flatL_cons] at h; simp [flatD] at h
  | succ d ih =>
    have hv : ∀ (v v' : Value), flatD (d + 1) v = true → VRel m v v' → v' = v := by
      intro v v' h hr
      cases hr with
      | iface t hx => rw [ih.1 _ _ (by simpa [flatD] using h) hx]
      | agg hx => have := ih.2 _ _ (by simpa [flatD] using h) hx; congr 1; exact Array.ext' this
      | tuple hx => have := ih.2 _ _ (by simpa [flatD] using h) hx; congr 1; exact Array.ext' this
      | slEnd a a' => simp [flatD] at h
      | _ => first | rfl | (simp [flatD] at h)
    refine ⟨hv, ?_⟩
    intro l
    induction l with
    | nil => intro l' _ hl; cases hl; rfl
    | cons v vs ihl =>
      intro l' h hl
      cases hl with
      | cons h1 h2 =>
        rw [flatL_cons, Bool.and_eq_true] at h
        rw [hv _ _ h.1 h1, ihl _ h.2 h2]
theorem flatD_refl (m : Inj) : ∀ (d : Nat), (∀ (v : Value), flatD d v = true → VRel m v v) ∧ (∀ (l : List Value), flatL (flatD d) l = true → LRel m l l) := by
  intro d
  induction d with
  | zero =>
    refine ⟨fun v h => by simp [flatD] at h, fun l h => ?_⟩
    cases l with
    | nil => exact .nil
    | cons v vs => rw [flatL_cons] at h; simp [flatD] at h
  | succ d ih =>
    have hv : ∀ (v : Value), flatD (d + 1) v = true → VRel m v v := by
      intro v h
      cases v with
      | bool b => exact .bool b
      | int k n => exact .int k n
      | float k n => exact .float k n
      | complex k a b => exact .complex k a b
      | string s => exact .string s
      | pointer a => cases a with | none => exact .ptrNil | some a => simp [flatD] at h
      | slice a l c =>
        cases a with
        | none => cases l with
          | zero => cases c with
            | zero => exact .slNil
            | succ c => simp [flatD] at h
          | succ l => simp [flatD] at h
        | some a => simp [flatD] at h
      | map r => cases r with | none => exact .mapNil | some a => simp [flatD] at h
      | chan r => cases r with | none => exact .chanNil | some a => simp [flatD] at h
      | func fn a b => simp [flatD] at h
      | nilFunc => exact .nilFunc
      | iface t v => exact .iface t (ih.1 _ (by simpa [flatD] using h))
      | nilIface => exact .nilIface
      | agg cs => exact .agg (ih.2 _ (by simpa [flatD] using h))
      | tuple cs => exact .tuple (ih.2 _ (by simpa [flatD] using h))
    refine ⟨hv, ?_⟩
    intro l
    induction l with
    | nil => intro _; exact .nil
    | cons v vs ihl => intro h; rw [flatL_cons, Bool.and_eq_true] at h; exact .cons (hv _ h.1) (ihl h.2)
theorem flat_eq {v v' : Value} (h : flat v = true) (hr : VRel m v v') : v' = v := (flatD_eq 6).1 _ _ h hr
theorem flat_refl (m : Inj) {v : Value} (h : flat v = true) : VRel m v v := (flatD_refl m 6).1 _ h
theorem flatL_eq {l l' : List Value} (h : flatL flat l = true) (hr : LRel m l l') : l' = l := (flatD_eq 6).2 _ _ h hr
end
end Go.Ab
