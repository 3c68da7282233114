/- A disk that was not made: what its methods answer, in every world; lives. By runs of the abstract machine. -/
import Derived.Test.YtcgincjgcdbcfaaAbXm
import Derived.Test.YtcgincjgcdbcfaaBase
namespace Go.Proofs.Ytcgincjgcdbcfaa.G
open Go.RowKit
theorem names : Try.prog.funcs.toList.all (fun fn => !fn.body.isSome || !(fn.name == "runtime.NumGoroutine")) = true := by decide +kernel
theorem namesOK : Ab.NamesOK Try.prog := fun f fn hf hb => by
  have := List.all_eq_true.1 names fn (by rw [Array.mem_toList_iff]; exact Array.mem_of_getElem? hf)
  simpa [hb] using this
def isE (r : Ab.R Value) : Bool := match r with
  | .ok (.int .i64 (.ofNat 1)) _ _ _ => true
  | _ => false
def isZ (r : Ab.R Value) : Bool := match r with
  | .ok (.int .i64 (.ofNat 0)) _ _ _ => true
  | _ => false
def isM (r : Ab.R Value) : Bool := match r with
  | .ok (.int .i64 (.negSucc 0)) _ _ _ => true
  | _ => false
def isF (r : Ab.R Value) : Bool := match r with
  | .ok (.bool false) _ _ _ => true
  | _ => false
def isP (r : Ab.R Value) : Bool := match r with
  | .ok (.pointer none) _ _ _ => true
  | _ => false
def isS (r : Ab.R Value) : Bool := match r with
  | .ok (.slice none 0 0) _ _ _ => true
  | _ => false
def isR (r : Ab.R Value) : Bool := match r with
  | .ok (.tuple ⟨[.slice none 0 0, .int .i64 (.ofNat 1)]⟩) _ _ _ => true
  | _ => false
noncomputable abbrev ab (f : Nat) (args : List Value) : Ab.R Value := Ab.run (Ab.callN Try.prog Ab.noExt 1000 (.fn f) args) 1000 .leaf []
/-- A slice that may be handed on. -/
def OpaqueSl (w : World) (v : Value) : Prop := v = .slice none 0 0 ∨ ∃ g o len cap, v = .slice (some ⟨g, o, none⟩) len cap ∧ len ≤ cap ∧ g < w.heap.size
theorem OpaqueSl.open {w : World} {v : Value} (h : OpaqueSl w v) : ∃ (A A' : Option Addr) (len cap : Nat) (x : Option Ab.Img), v = .slice A' len cap ∧ (∀ m : Ab.Inj, m 0 = x → Ab.VRel m (.slice A len cap) (.slice A' len cap)) ∧ ∀ y, x = some y → y.blk < w.heap.size := by
  rcases h with rfl | ⟨g, o, len, cap, rfl, h1, h2⟩
  · exact ⟨none, none, 0, 0, none, rfl, fun _ _ => .slNil, fun _ h => by cases h⟩
  · refine ⟨some ⟨0, 0, none⟩, _, len, cap, some ⟨g, o, 0, 0, 0⟩, rfl, fun m hm => ?_, fun y hy => by injection hy with hy; subst hy; exact h2⟩
    have := Ab.VRel.sl (m := m) (o := 0) (cap' := cap) hm (.inl rfl) h1
    rwa [Nat.zero_add] at this
theorem call0 {f : Nat} {args : List Value} {v : Value} (hr : ∃ c h lg, ab f args = .ok v c h lg) (hv : Ab.flat v = true) (ha : Ab.flatL Ab.flat args = true) (w : World) : Calls Try.prog f ⟨args⟩ w fun e w' => e = .returned v ∧ Below w.heap.size w w' := by
  obtain ⟨c, h, lg, hr⟩ := hr
  exact Ab.run_calls (by kernel_rfl) namesOK Ab.memoNil hr hv ha w
theorem callS {f : Nat} {v : Value} {pre : List Value} (hp : Ab.flatL Ab.flat pre = true) (hr : ∀ A len cap, ∃ c h lg, ab f (pre ++ [.slice A len cap]) = .ok v c h lg) (hv : Ab.flat v = true) (w : World) (u : Value) (hu : OpaqueSl w u) : Calls Try.prog f ⟨pre ++ [u]⟩ w fun e w' => e = .returned v ∧ Below w.heap.size w w' := by
  obtain ⟨A, A', len, cap, x, rfl, h1, h2⟩ := hu.open
  obtain ⟨c, h, lg, hr⟩ := hr A len cap
  refine Ab.run_calls_at (by kernel_rfl) namesOK Ab.memoNil hr hv w (m := fun n => if n = 0 then x else none) (fun n hn => by rw [if_neg (by omega)]) (fun n i hi => ?_) (Ab.LRel.append ((Ab.flatD_refl _ 6).2 _ hp) (.cons (h1 _ (by simp)) .nil))
  by_cases e : n = 0
  · rw [if_pos e] at hi; exact h2 i hi
  · rw [if_neg e] at hi; cases hi
theorem isE_ok {r : Ab.R Value} (h : isE r = true) : ∃ c h lg, r = .ok (.int .i64 1) c h lg := by
  unfold isE at h; split at h
  · exact ⟨_, _, _, rfl⟩
  · cases h
theorem isZ_ok {r : Ab.R Value} (h : isZ r = true) : ∃ c h lg, r = .ok (.int .i64 0) c h lg := by
  unfold isZ at h; split at h
  · exact ⟨_, _, _, rfl⟩
  · cases h
theorem isM_ok {r : Ab.R Value} (h : isM r = true) : ∃ c h lg, r = .ok (.int .i64 (-1)) c h lg := by
  unfold isM at h; split at h
  · exact ⟨_, _, _, rfl⟩
  · cases h
theorem isF_ok {r : Ab.R Value} (h : isF r = true) : ∃ c h lg, r = .ok (.bool false) c h lg := by
  unfold isF at h; split at h
  · exact ⟨_, _, _, rfl⟩
  · cases h
theorem isT_ok {r : Ab.R Value} (h : Ab.isTrue r = true) : ∃ c h lg, r = .ok (.bool true) c h lg := by
  unfold Ab.isTrue at h; split at h
  · exact ⟨_, _, _, rfl⟩
  · cases h
theorem isP_ok {r : Ab.R Value} (h : isP r = true) : ∃ c h lg, r = .ok (.pointer none) c h lg := by
  unfold isP at h; split at h
  · exact ⟨_, _, _, rfl⟩
  · cases h
theorem isS_ok {r : Ab.R Value} (h : isS r = true) : ∃ c h lg, r = .ok (.slice none 0 0) c h lg := by
  unfold isS at h; split at h
  · exact ⟨_, _, _, rfl⟩
  · cases h
theorem isR_ok {r : Ab.R Value} (h : isR r = true) : ∃ c h lg, r = .ok (.tuple #[.slice none 0 0, .int .i64 1]) c h lg := by
  unfold isR at h; split at h
  · exact ⟨_, _, _, rfl⟩
  · cases h
set_option maxRecDepth 100000
theorem lives_c (w : World) : Calls Try.prog 14 #[] w fun e w' => e = .returned (.bool true) ∧ Below w.heap.size w w' :=
  call0 (f := 14) (args := []) (isT_ok (by decide +kernel)) rfl rfl w
theorem nSync (s : ByteArray) (w : World) : Calls Try.prog 18 #[.pointer none, .string s] w fun e w' => e = .returned (.int .i64 1) ∧ Below w.heap.size w w' :=
  call0 (f := 18) (args := [.pointer none, .string s]) (isE_ok (by kernel_rfl)) rfl rfl w
theorem nRename (s t : ByteArray) (w : World) : Calls Try.prog 22 #[.pointer none, .string s, .string t] w fun e w' => e = .returned (.int .i64 1) ∧ Below w.heap.size w w' :=
  call0 (f := 22) (args := [.pointer none, .string s, .string t]) (isE_ok (by kernel_rfl)) rfl rfl w
theorem nDelete (s : ByteArray) (w : World) : Calls Try.prog 35 #[.pointer none, .string s] w fun e w' => e = .returned (.int .i64 1) ∧ Below w.heap.size w w' :=
  call0 (f := 35) (args := [.pointer none, .string s]) (isE_ok (by kernel_rfl)) rfl rfl w
theorem nCut (s : ByteArray) (x : Int) (w : World) : Calls Try.prog 23 #[.pointer none, .string s, .int .i64 x] w fun e w' => e = .returned (.int .i64 1) ∧ Below w.heap.size w w' :=
  call0 (f := 23) (args := [.pointer none, .string s, .int .i64 x]) (isE_ok (by kernel_rfl)) rfl rfl w
theorem nFuse (x : Int) (w : World) : Calls Try.prog 16 #[.pointer none, .int .i64 x] w fun e w' => e = .returned (.int .i64 1) ∧ Below w.heap.size w w' :=
  call0 (f := 16) (args := [.pointer none, .int .i64 x]) (isE_ok (by kernel_rfl)) rfl rfl w
theorem nRead (s : ByteArray) (w : World) : Calls Try.prog 19 #[.pointer none, .string s] w fun e w' => e = .returned (.tuple #[.slice none 0 0, .int .i64 1]) ∧ Below w.heap.size w w' :=
  call0 (f := 19) (args := [.pointer none, .string s]) (isR_ok (by kernel_rfl)) rfl rfl w
theorem nNames (w : World) : Calls Try.prog 29 #[.pointer none] w fun e w' => e = .returned (.slice none 0 0) ∧ Below w.heap.size w w' :=
  call0 (f := 29) (args := [.pointer none]) (isS_ok (by kernel_rfl)) rfl rfl w
theorem nSize (s : ByteArray) (w : World) : Calls Try.prog 24 #[.pointer none, .string s] w fun e w' => e = .returned (.int .i64 (-1)) ∧ Below w.heap.size w w' :=
  call0 (f := 24) (args := [.pointer none, .string s]) (isM_ok (by kernel_rfl)) rfl rfl w
theorem nSynced (s : ByteArray) (w : World) : Calls Try.prog 25 #[.pointer none, .string s] w fun e w' => e = .returned (.int .i64 (-1)) ∧ Below w.heap.size w w' :=
  call0 (f := 25) (args := [.pointer none, .string s]) (isM_ok (by kernel_rfl)) rfl rfl w
theorem nUsed (w : World) : Calls Try.prog 26 #[.pointer none] w fun e w' => e = .returned (.int .i64 0) ∧ Below w.heap.size w w' :=
  call0 (f := 26) (args := [.pointer none]) (isZ_ok (by kernel_rfl)) rfl rfl w
theorem nRoom (w : World) : Calls Try.prog 27 #[.pointer none] w fun e w' => e = .returned (.int .i64 0) ∧ Below w.heap.size w w' :=
  call0 (f := 27) (args := [.pointer none]) (isZ_ok (by kernel_rfl)) rfl rfl w
theorem nOff (w : World) : Calls Try.prog 20 #[.pointer none] w fun e w' => e = .returned (.bool false) ∧ Below w.heap.size w w' :=
  call0 (f := 20) (args := [.pointer none]) (isF_ok (by kernel_rfl)) rfl rfl w
theorem nClone (w : World) : Calls Try.prog 32 #[.pointer none] w fun e w' => e = .returned (.pointer none) ∧ Below w.heap.size w w' :=
  call0 (f := 32) (args := [.pointer none]) (isP_ok (by kernel_rfl)) rfl rfl w
theorem nSame (w : World) : Calls Try.prog 34 #[.pointer none, .pointer none] w fun e w' => e = .returned (.bool true) ∧ Below w.heap.size w w' :=
  call0 (f := 34) (args := [.pointer none, .pointer none]) (isT_ok (by kernel_rfl)) rfl rfl w
theorem nAppend (s : ByteArray) (u : Value) (w : World) (hu : OpaqueSl w u) : Calls Try.prog 17 #[.pointer none, .string s, u] w fun e w' => e = .returned (.int .i64 1) ∧ Below w.heap.size w w' :=
  callS (f := 17) (pre := [.pointer none, .string s]) rfl (fun A len cap => isE_ok (by kernel_rfl)) rfl w u hu
theorem nCrash (u : Value) (w : World) (hu : OpaqueSl w u) : Calls Try.prog 21 #[.pointer none, u] w fun e w' => e = .returned (.int .i64 1) ∧ Below w.heap.size w w' :=
  callS (f := 21) (pre := [.pointer none]) rfl (fun A len cap => isE_ok (by kernel_rfl)) rfl w u hu
end Go.Proofs.Ytcgincjgcdbcfaa.G
