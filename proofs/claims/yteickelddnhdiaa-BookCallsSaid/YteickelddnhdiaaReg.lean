/- append as a step of a region that draws: its run known by an equation. -/
import Derived.Test.YteickelddnhdiaaBase
import Derived.OwnWalkIn
import Derived.Shelf.RegionOpen
namespace Go.Proofs.Yteickelddnhdiaa.G
open Go

/-- append, whose run is known, in a fence. -/
theorem at_append2 {F : Fence} {n : Nat} {P : Program} {w w1 : World} {ops : Array Oper} {o : Oper} {a : Act} {next : Act → World → Prop} {Q : Exit → Act → World → Prop} {v u v1 : Value} {ty t1 t2 : TypeId} {s x : Operand}
    (hr : (Builtin.append_ #[t1, t2] ty #[v, u]).run P w = .ok v1 w1) (hgd : o.guard = none) (ho : o.op = .call { callee := .builtin .append, args := #[s, x], argTypes := #[t1, t2] }) (hty : o.type = ty) (hs : a.eval s = v) (hx : a.eval x = u)
    (hn : next (a.put o.dst v1) w1) :
    if Region.wanted o (yielded ops a.tmps) = true then Oper.wpIn F n P o a w next Q else (∀ f, o.about P w a.eval = some f → F.fn f) ∧ next (a.put o.dst undef) w := by
  subst hty
  rw [if_pos (by simp [Region.wanted, hgd])]
  have he : (execOp a.eval o).run P w = .ok (.value v1) w1 := by
    unfold execOp
    simp only [ho, resolve, invoke, builtin, Sem.run_bind, Sem.run_pure, Result.andThen_ok, List.map_toArray, List.map_cons, List.map_nil, hs, hx, hr]
  have hsem : o.semAt F.round a.eval = execOp a.eval o := Oper.semAt_eq _ _ _ (fun c h => by rw [ho] at h; cases h)
  refine ⟨?_, ?_⟩
  · intro f hf
    simp only [Oper.about, ho, resolve, Sem.run_bind, Sem.run_pure, Result.andThen_ok, Target.leads] at hf
    cases hf
  · rw [hsem, he]
    exact hn

end Go.Proofs.Yteickelddnhdiaa.G
