/- A disk's names, sorted: what stands in for the method in the abstract machine. -/
import Derived.Test.YtfleloeadbdbcaaGreatAbY
import Derived.Test.YtfleloeadbdbcaaGreatIter
import Derived.WalkKit
namespace Go.Proofs.YtfleloeadbdbcaaGreat.N
open Go.RowKit Go.Maps Go.Sort Go.Shelf
open Go.Proofs (encStr)
set_option maxHeartbeats 1000000
set_option maxRecDepth 100000
theorem Names_ptr (w : World) (b nn o r : Nat) (D0 : DataW Unit) (R : Value → Option (DataW Unit × List MemPlace)) (hc : w.cell? ⟨b, o, none⟩ = some (.map (some r))) (hown : w.ownsMap Tryz.prog 9 R r nn D0) (h1000 : Maps.size D0 ≤ 1000) :
    Calls Tryz.prog 23 #[.pointer (some ⟨b, o, none⟩)] w fun e w' => ∃ (v : Value) (ss : List (List UInt8)), e = .returned v ∧ ss.Perm (strKeys D0) ∧
      w'.ownsRow w.heap.size 9 1 v ss.length ((ss.mergeSort leB).map encStr) ∧ (v = .slice none 0 0 ↔ ss = []) ∧ Below w.heap.size w w' := by
  have hmax : Maps.size D0 ≤ maxLen := Nat.le_trans h1000 (by decide)
  have hbytes : Maps.size D0 * 16 ≤ 140737488355328 := by omega
  refine (callsIn_wide (n := 6)).1 ?_
  have hfK : Fence.wide.fn 58 := trivial
  have hfS : Fence.wide.fn 57 := trivial
  refine callsIn_of_wp Tryz.func23 rfl trivial ?_ rfl
  simp only [Tryz.ntmps23, List.size_toArray, List.length_cons, List.length_nil, Nat.reduceAdd, Nat.reduceSub, Array.replicate_succ, Array.replicate_zero, List.push_toArray, List.append_toArray, List.nil_append, List.cons_append]
  gi_wp2_with (first
    | (gi_at_call 58; refine (Tryz.maps_Keys_58 _ _).mono ?_; rintro e w' ⟨rfl, rfl⟩)
    | (gi_at_call 57; refine (Tryz.slices_Sorted_keys_57_58 r nn D0 R w hown hmax hbytes).mono ?_; rintro e w' ⟨v, ss, rfl, hS, hrow, hnil, hb⟩))
  go_ret
  exact ⟨v, ss, rfl, hS, ownsRow_base_a hrow (by simp), hnil, ((Below.refl _ w).alloc (Nat.le_refl _) _).trans (hb.mono (by simp))⟩
theorem Names_nil (w : World) : Calls Tryz.prog 23 #[.pointer none] w fun e w' => e = .returned (.slice none 0 0) ∧ Below w.heap.size w w' := by
  refine (callsIn_wide (n := 6)).1 ?_
  refine callsIn_of_wp Tryz.func23 rfl trivial ?_ rfl
  simp only [Tryz.ntmps23, List.size_toArray, List.length_cons, List.length_nil, Nat.reduceAdd, Nat.reduceSub, Array.replicate_succ, Array.replicate_zero, List.push_toArray, List.append_toArray, List.nil_append, List.cons_append]
  gi_wp2_with (fail)
  go_ret
  exact ⟨rfl, Below.refl _ _⟩
theorem con : Ab.NamesCon Tryz.prog 23 9 := ⟨⟨_, _, Tryz.func23, rfl⟩, Tryz.underlying9, Names_nil, Names_ptr⟩
noncomputable def ext : Ab.Ext := Ab.namesE 23 9
theorem extOK : Ab.ExtOK Tryz.prog ext := Ab.namesE_ok con
end Go.Proofs.YtfleloeadbdbcaaGreat.N
