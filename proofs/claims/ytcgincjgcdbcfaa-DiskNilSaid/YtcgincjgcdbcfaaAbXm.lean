/- What a run of the abstract machine says of a call whose slices are never looked at. -/
import Derived.Test.YtcgincjgcdbcfaaAbAll2
import GoSem.ClaimWide
namespace Go.Ab
open Go.RowKit
theorem run_calls_at {P : Program} (hM : P.follows .mixedOrders = true) (hN : NamesOK P) {memo : Ext} (hm : ExtOK P memo) {k c : Nat} {f : FuncId} {args : List Value} {v : Value} {c' : Nat} {h' : Heap} {lg' : Log} (hr : run (callN P memo k (.fn f) args) c .leaf [] = .ok v c' h' lg') (hv : flat v = true)
    (w : World) {m : Inj} (hm0 : ∀ n, c ≤ n → m n = none) (hd : ∀ n i, m n = some i → i.blk < w.heap.size) {args' : Array Value} (ha : LRel m args args'.toList) :
    Calls P f args' w fun e w' => e = .returned v ∧ Below w.heap.size w w' := by
  have hat : ∀ l, Heap.at (.leaf : Heap) l = none := fun l => rfl
  have hs : Sim m w.heap.size (.leaf : Heap) w := by
    refine ⟨fun n b h => ?_, fun n b n2 b2 i i2 h => ?_, fun n x h _ => ?_, fun n x n2 x2 i i2 h _ => ?_, hd, Nat.le_refl _⟩ <;> (rw [hat] at h; cases h)
  have hw : wpt (callN P memo k (.fn f) args) ⟨c, .leaf⟩ (fun v' _ => v' = v) := wpt_of_run _ _ _ _ _ _ _ _ _ hr rfl
  obtain ⟨_, hc⟩ := (callN_sim (base := w.heap.size) hM hN hm k).1 f args args' ⟨c, .leaf⟩ w m none _ hw (fun _ _ _ k h => by cases h) (fun n hn _ => hm0 n hn) hs ha
  refine hc.mono fun e w' he => ?_
  obtain ⟨v1, v', s', m', rfl, rfl, h3, h4⟩ := he
  refine ⟨by rw [flat_eq hv h3], h4.go.os, h4.go.tape, h4.go.output, h4.go.size, fun k hk => h4.go.keep k hk (.inl hk)⟩
theorem okWide_opaque {P : Program} {w : World} {r : Reach} {base : Nat} {t e : TypeId} {v : Value} (j : Nat) (ht : P.underlying t = some (.slice e)) (h : Value.okWide P w r base t v) :
    ∃ (A A' : Option Addr) (len cap : Nat) (x : Option Img), v = .slice A' len cap ∧ (∀ m : Inj, m j = x → VRel m (.slice A len cap) (.slice A' len cap)) ∧ ∀ y, x = some y → y.blk < w.heap.size := by
  unfold Value.okWide at h
  rw [ht] at h
  simp only [Cell.okWide, ht] at h
  cases v with
  | slice a len cap =>
    cases a with
    | none =>
      cases len with
      | zero => cases cap with
        | zero => exact ⟨none, none, 0, 0, none, rfl, fun _ _ => .slNil, fun _ h => by cases h⟩
        | succ n => simp [Cell.ok, ht] at h
      | succ n => simp [Cell.ok, ht] at h
    | some a =>
      obtain ⟨b, o, sp⟩ := a
      simp only [Cell.ok, ht] at h
      obtain ⟨h1, _, _, h2, row, cells, h3, _⟩ := h
      have h2 : sp = none := h2
      subst h2
      refine ⟨some ⟨j, 0, none⟩, _, len, cap, some ⟨b, o, 0, 0, 0⟩, rfl, fun m hm => ?_, fun y hy => ?_⟩
      · have := VRel.sl (m := m) (o := 0) (cap' := cap) hm (.inl rfl) h1
        rwa [Nat.zero_add] at this
      · injection hy with hy
        subst hy
        have h3 : w.shape? b = some (row, cells) := h3
        unfold World.shape? at h3
        show b < w.heap.size
        rcases Nat.lt_or_ge b w.heap.size with h | h
        · exact h
        · rw [Array.getElem?_eq_none h] at h3; simp at h3
  | _ => simp [Cell.ok, ht] at h
end Go.Ab
