/- Statement BookParts, plainly: what each call of the walk returns. -/
import Derived.Test.YtpcacklmelokiaaBookU
import Derived.Test.YtpcacklmelokiaaBkx4
import Derived.Test.YtpcacklmelokiaaBkx6
namespace Go.Proofs.Ytpcacklmelokiaa.Bk
open Go.RowKit Go.Proofs.YtpcacklmelokiaaW.PrintWords Go.Proofs.YtpcacklmelokiaaW.PrintLast Go.Proofs.Ytpcacklmelokiaa.G
set_option linter.unusedVariables false
theorem Same_byte_self (a : List Int) (ha : a.length ≤ 140737488351232) : Ev (fun k => wayfinderkit_Same_byte.f k a a) true := by
  unfold wayfinderkit_Same_byte.f
  refine Ev.pos rfl ?_
  exact Ev.for_ (l := fun i k => wayfinderkit_Same_byte.l0 k a a (i : Int)) (g := fun _ => some true) (Nat.zero_le a.length) (fun i _ hi k => by
      simp only [wayfinderkit_Same_byte.l0]
      rw [if_pos (by omega), if_pos (by omega), if_pos (by omega), if_pos trivial, wrap_succ (by omega)])
    (fun k => by simp only [wayfinderkit_Same_byte.l0]; rw [if_neg (by omega)]) (Ev.some_ _)
theorem Own_byte_is (a : List Int) (ha : a.length ≤ 140737488351232) : wayfinderkit_Own_byte.f a = some a := by
  unfold wayfinderkit_Own_byte.f
  simp only [Option.bind]
  rw [if_pos (by simp; omega)]
  rfl
section
variable {b : List (List (List Int))} {n m : Nat}
theorem Word_at (hb : BookOK b n m) (h0 : bookE b = 0) {c : List Int} (hc : CodeOK b n c) {i : Nat} (hi : i < b.length) : book_Word.f b (i : Int) (c.getD i 0) = some (wordOf b c i, 0) := by
  obtain ⟨q, hq, he⟩ := hc.2 i hi
  have hp := hb.parts _ (getD_mem (z := []) hi)
  have hn2 := hb.n2
  obtain ⟨w1, _⟩ := wordOf_ok hb hc hi
  have hm1 : m ≤ 1024 := by have := hb.most; have := Nat.le_mul_of_pos_right m hb.p1; omega
  have e1 : rd_L3 b (i : Int) = b.getD i [] := rfl
  have e2 : rd_L2 (b.getD i []) (q : Int) = wordOf b c i := by unfold wordOf; rw [he]; rfl
  have hcl : slices_Clone_int32_int32.f (wordOf b c i) = some (wordOf b c i) := by unfold slices_Clone_int32_int32.f; rw [if_pos (by omega)]
  rw [he]
  simp only [book_Word.f, book_Check.f, h0, Option.bind, if_true, e1, e2]
  rw [if_neg (by omega), if_neg (by omega), if_neg (by omega), if_pos (by omega), if_pos (by omega), if_neg (by omega), if_pos (by omega), if_pos (by omega), hcl]
theorem code_small (hb : BookOK b n m) {c : List Int} (hc : CodeOK b n c) {i : Nat} (hi : i < b.length) : 0 ≤ c.getD i 0 ∧ c.getD i 0 ≤ 255 := by
  obtain ⟨q, hq, he⟩ := hc.2 i hi
  have := hb.n2
  omega
theorem part_dist (hb : BookOK b n m) {v : List Int} (hv : checkWide v = 0) (hl : v.length = m * b.length) {c : List Int} (hc : CodeOK b n c) {i : Nat} (hi : i < b.length) :
    ∃ k, wayfinderref03_Dist.f k (wordOf b c i) (pieceL v m i) = some (distV (wordOf b c i) (pieceL v m i), 0) := by
  obtain ⟨w1, w2⟩ := wordOf_ok hb hc hi
  obtain ⟨p1, p2⟩ := piece_ok hb hv hl hi
  have hm1 : m ≤ 1024 := by have := hb.most; have := Nat.le_mul_of_pos_right m hb.p1; omega
  have h := rDist_is (wordOf b c i) (pieceL v m i) (by omega) (by omega)
  rw [pairE_zero w2 p2 (by rw [w1, p1])] at h
  exact Ev.rounds h
theorem lossTo_bound (hb : BookOK b n m) {v : List Int} (hv : checkWide v = 0) (hl : v.length = m * b.length) {c : List Int} (hc : CodeOK b n c) {i : Nat} (hi : i ≤ b.length) : 0 ≤ lossTo b m v c i ∧ lossTo b m v c i ≤ 9223372036854775807 := by
  rw [loss_sum hb hv hl hc i hi]
  obtain ⟨h1, h2⟩ := dec_wide hb hc
  have h3 := distTo_nonneg v (decTo b c b.length) (m * i)
  have hm := hb.most
  have h5 := Nat.mul_le_mul_left m hi
  have h4 := (distTo_bound (a := v) (b := decTo b c b.length) (n := m * b.length) (fun j hj => (wideOk_mem hv).2.2 _ (getD_mem (z := 0) (by omega))) (fun j hj => (wideOk_mem h1).2.2 _ (getD_mem (z := 0) (by omega))) (m * i) h5).2
  omega
theorem loss_whole (hb : BookOK b n m) (h0 : bookE b = 0) {v : List Int} (hv : checkWide v = 0) (hl : v.length = m * b.length) : ∃ k, book_Loss.f k b v = some (lossTo b m v ((List.range b.length).map (codeOf b m v)) b.length, 0) := by
  have h := Loss_is hb h0 hv hl
  rw [(distV_dec hb hv hl (code_ok hb v)).2, ← loss_sum hb hv hl (code_ok hb v) b.length (Nat.le_refl _)] at h
  exact Ev.rounds h
end
end Go.Proofs.Ytpcacklmelokiaa.Bk
