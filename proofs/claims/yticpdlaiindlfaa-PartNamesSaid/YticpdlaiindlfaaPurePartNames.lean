/- Statement PartNames, over numbers and lists: the chapter's examples. -/
import Derived.Test.YticpdlaiindlfaaPureParts
import Derived.Test.YticpdlaiindlfaaPax5
namespace Go.Proofs.Yticpdlaiindlfaa.Pure
open Go.RowKit Go.Proofs.Yticpdlaiindlfaa.Pa Go.Proofs.YticpdlaiindlfaaW.PrintWords Go.Proofs.YticpdlaiindlfaaW.PrintLast Go.Proofs.Yticpdlaiindlfaa.G
set_option linter.unusedVariables false

set_option maxRecDepth 10000 in
theorem PartNames : wayfinderlaw14_PartNames.Pure := by
  refine Ev.rounds ?_
  unfold wayfinderlaw14_PartNames.f
  have e1 : part_Cut.f [1, 2, 3] 2 = some ([], 2) := by decide +kernel
  have e2 : part_Join.f [] = some ([], 2) := by decide +kernel
  have e3 : part_Join.f [[1], [1, 2]] = some ([], 2) := by decide +kernel
  have e4 : part_Join.f [[1], [2]] = some ([1, 2], 0) := by decide +kernel
  have e5 : part_Column.f [[1, 2], [3, 4]] 2 1 = some ([[2], [4]], 0) := by decide +kernel
  have e6 : part_Column.f [] 2 2 = some ([], 2) := by decide +kernel
  have e7 : part_Column.f [[1], [1, 2]] 1 0 = some ([], 2) := by decide +kernel
  refine Ev.bindc e1 (Ev.bindc e2 (Ev.bindc e3 (Ev.bindc e4 (Ev.bindc e5 (Ev.bindc e6 (Ev.bindc e7 (Ev.bind lives_is (Ev.pos rfl (Ev.pos rfl (Ev.pos rfl (Ev.pos rfl (Ev.pos rfl ?_))))))))))))
  refine Ev.bind (Same_int32_self [1, 2] (by simp)) (Ev.pos rfl (Ev.pos rfl ?_))
  refine Ev.bind (Lists_int32_self [[2], [4]] (by simp) (by simp)) (Ev.pos rfl (Ev.pos rfl (Ev.pos rfl ?_)))
  refine Ev.bindc (a := 0) (by decide +kernel) (Ev.pos rfl (Ev.bindc (a := 2) (by decide +kernel) (Ev.pos rfl (Ev.bindc (a := 2) (by decide +kernel) (Ev.pos rfl (Ev.bindc (a := 0) (by decide +kernel) (Ev.pos rfl (Ev.bindc (a := 2) (by decide +kernel) (Ev.const (by decide))))))))))

end Go.Proofs.Yticpdlaiindlfaa.Pure
