/- Lloyd's object in memory: what it holds, what a store into it does. -/
import Derived.Test.YtcgpkfpfpjclkaaBase
import Derived.Test.YtcgpkfpfpjclkaaWApart
import Derived.Test.YtcgpkfpfpjclkaaMeanP
import Derived.Lib.SliceRun
namespace Go.Proofs.Ytcgpkfpfpjclkaa.G
open Go.RowKit Go.Shelf Go.Proofs.YtcgpkfpfpjclkaaW.PrintWords
set_option linter.unusedVariables false
set_option linter.unusedSimpArgs false
/-- Nothing is changed but between lo and hi; no header of rows. -/
structure Fr (lo hi : Nat) (w w' : World) : Prop where
  os : w'.os = w.os
  tape : w'.tape = w.tape
  output : w'.output = w.output
  size : w.heap.size ≤ w'.heap.size
  block : ∀ k, k < w.heap.size → (k < lo ∨ hi ≤ k) → w'.heap[k]? = w.heap[k]?
  hd : ∀ (k : Nat) (cells : Array Value), w.heap[k]? = some (.cells cells 39 (0, 0)) → w'.heap[k]? = some (.cells cells 39 (0, 0))
theorem Fr.refl (lo hi : Nat) (w : World) : Fr lo hi w w := ⟨rfl, rfl, rfl, Nat.le_refl _, fun _ _ _ => rfl, fun _ _ h => h⟩
theorem Fr.trans {lo hi : Nat} {a b c : World} (h : Fr lo hi a b) (k : Fr lo hi b c) : Fr lo hi a c :=
  ⟨k.os.trans h.os, k.tape.trans h.tape, k.output.trans h.output, Nat.le_trans h.size k.size, fun i hi ho => (k.block i (Nat.lt_of_lt_of_le hi h.size) ho).trans (h.block i hi ho), fun i cs hb => k.hd i cs (h.hd i cs hb)⟩
theorem Fr.of_below {lo hi : Nat} {w w1 : World} (h : Below w.heap.size w w1) : Fr lo hi w w1 := ⟨h.os, h.tape, h.output, h.size, fun k hk _ => h.block k hk, fun k cs hb => blk_below hb h⟩
theorem Fr.then_ {lo hi : Nat} {w w1 w2 : World} (h : Fr lo hi w w1) (k : Below w1.heap.size w1 w2) : Fr lo hi w w2 := h.trans (Fr.of_below k)
theorem Fr.drewN {lo hi : Nat} {w w1 : World} (h : Fr lo hi w w1) (n : Nat) : Fr lo hi w (w1.drewN n) := ⟨h.os, h.tape, h.output, h.size, h.block, h.hd⟩
theorem Fr.drew {lo hi : Nat} {w w1 : World} (h : Fr lo hi w w1) : Fr lo hi w w1.drew := ⟨h.os, h.tape, h.output, h.size, h.block, h.hd⟩
theorem Fr.one {lo hi b i : Nat} {w : World} {cells : Array Value} {t : Nat} (h1 : lo ≤ b) (h2 : b < hi) (hb : w.heap[b]? = some (.cells cells t (0, 0))) (ht : t ≠ 39) (u : Value) : Fr lo hi w (w.setCell ⟨b, i, none⟩ u) :=
  ⟨rfl, rfl, rfl, by simp [World.setCell], fun k _ ho => Below.heap_setCell _ _ _ _ (show k ≠ b by omega), fun k cs hk => blk_far hk (p := ⟨b, i, none⟩) (blk_ne hk hb (Ne.symm ht)) u⟩
theorem Fr.below {lo hi B : Nat} {w w1 : World} (h : Fr lo hi w w1) (hB : B ≤ lo) (hs : B ≤ w.heap.size) : Below B w w1 := ⟨h.os, h.tape, h.output, h.size, fun k hk => h.block k (by omega) (by omega)⟩
/-- What moves, told for the blocks in question alone. -/
theorem R_stepB {α : Type} {d : Kd α} {e : Nat} {w w1 : World} {base : Nat} {ok : Nat → Prop} {v : Value} {xs : List α} (h : d.R e w base ok v xs) (hm : ∀ k, ok k → base ≤ k → k < w.heap.size → w1.heap[k]? = w.heap[k]?) : d.R e w1 base ok v xs :=
  Kd.R_mono (Kd.R_move (Kd.R_bound h) (fun k hk => hm k hk.1 hk.2.1 hk.2.2.1)) (fun _ hk => hk.1)
theorem S_stepB {α : Type} {d : Kd α} {e : Nat} {w w1 : World} {base : Nat} {ok : Nat → Prop} {v : Value} {xs : List α} (h : Kd.S d e w base ok v xs) (hm : ∀ k, ok k → base ≤ k → k < w.heap.size → w1.heap[k]? = w.heap[k]?) : Kd.S d e w1 base ok v xs :=
  Kd.S_mono (Kd.S_move (Kd.S_bound h) (fun k hk => hm k hk.1 hk.2.1 hk.2.2.1)) (fun _ hk => hk.1)
/-- A row of an own row of rows: where it lies, what is there, and what a store there does. -/
theorem S_row {k : IntKind} {e' e : Nat} {w : World} {base : Nat} {ok : Nat → Prop} {g n cap : Nat} {xs : List (List Int)} (h : Kd.S (Kd.slice e' (Kd.int k)) e w base ok (.slice (some ⟨g, 0, none⟩) n cap) xs) (j : Nat) (hj : j < n) :
    ∃ A c, w.cell? ⟨g, j, none⟩ = some (.slice A (xs.getD j []).length c) ∧ (xs.getD j []).length ≤ c ∧ (Kd.int k).C w A (xs.getD j []).length (xs.getD j []) ∧
      ∀ i, i < (xs.getD j []).length → ∃ b cells, A = some ⟨b, 0, none⟩ ∧ ok b ∧ base ≤ b ∧ b ≠ g ∧ w.heap[b]? = some (.cells cells e' (0, 0)) ∧ w.cell? ⟨b, i, none⟩ = some (.int k ((xs.getD j []).getD i 0)) ∧
        ∀ x, Kd.S (Kd.slice e' (Kd.int k)) e (w.setCell ⟨b, i, none⟩ (.int k x)) base ok (.slice (some ⟨g, 0, none⟩) n cap) (xs.set j ((xs.getD j []).set i x)) := by
  obtain ⟨oki, c, hcl, hM, hcc, hoki, hback⟩ := Kd.S_borrow h ([] : List Int) (j : Int) (by omega) (by omega)
  simp only [Int.toNat_natCast] at hM hcc hback
  obtain ⟨v, rfl, hR⟩ := hM
  obtain ⟨A, c1, rfl, hlc, hC⟩ := Kd.R_reads hR
  have hcell := hcc 0 _ rfl
  rw [show j * (Kd.slice e' (Kd.int k)).sz + 0 = j from Nat.mul_one j, add_plain] at hcell
  refine ⟨A, c1, hcell, hlc, hC, fun i hi => ?_⟩
  obtain ⟨b, cap', e1, hb, hlt, cells, hbl⟩ := Kd.R_form hR (by omega)
  cases e1
  obtain ⟨hcv, hfz⟩ := Kd.R_cell (0 : Int) hR (i : Int) (by omega) (by omega)
  refine ⟨b, cells, rfl, (hoki b (hR.1 b (by simp [Value.ownBlock]))).1, hb, fun he => (hoki b (hR.1 b (by simp [Value.ownBlock]))).2 (by simp [Value.ownBlock, he]), hbl, hcv, fun x => ?_⟩
  obtain ⟨hR2, hg⟩ := Kd.R_put hR (i : Int) x
  simp only [Int.toNat_natCast] at hR2 hg
  refine hback hg (fun q hq => by cases hq; exact hR.1 b (by simp [Value.ownBlock])) ⟨_, rfl, ?_⟩
  have hl : ((xs.getD j []).set i x).length = (xs.getD j []).length := List.length_set
  rw [← hl] at hR2
  rw [← hl]
  exact hR2
/-- The object, as it lies. -/
structure Raw where
  P : List (List Int)
  C : List (List Int)
  it : Nat
  r : Nat
  a : Nat
  of : List Int
  sums : List (List Int)
  counts : List Int
structure Lay where
  lo : Nat
  hi : Nat
  g : Nat
  N : Nat
  N2 : Nat
  AP : Option Addr
  cP : Nat
  gC : Nat
  cC : Nat
  AO : Option Addr
  cO : Nat
  gS : Nat
  cS : Nat
  gK : Nat
  cK : Nat
def Lay.units (L : Lay) : Value := .func (.func 39) #[.pointer (some ⟨L.g, 0, none⟩)] #[]
def Lay.obj (L : Lay) (q : Raw) : Array Value := #[.slice L.AP q.P.length L.cP, .slice (some ⟨L.gC, 0, none⟩) q.C.length L.cC, .int .i64 q.it, .int .i64 q.r, .int .i64 q.a, .slice L.AO q.of.length L.cO, .slice (some ⟨L.gS, 0, none⟩) q.sums.length L.cS, .slice (some ⟨L.gK, 0, none⟩) q.counts.length L.cK, L.units]
structure MSt (L : Lay) (w : World) (q : Raw) : Prop where
  g1 : L.lo ≤ L.g
  g2 : L.g < L.hi
  obj : w.heap[L.g]? = some (.cells (L.obj q) 55 (0, 0))
  P : (Kd.slice 21 (Kd.int .i32)).R 39 w L.lo (fun k => k < L.N ∧ k < L.hi) (.slice L.AP q.P.length L.cP) q.P
  C : Kd.S (Kd.slice 21 (Kd.int .i32)) 39 w L.lo (fun k => L.N ≤ k ∧ k < L.hi) (.slice (some ⟨L.gC, 0, none⟩) q.C.length L.cC) q.C
  O : (Kd.int .i64).R 3 w L.lo (fun k => k < L.hi) (.slice L.AO q.of.length L.cO) q.of
  S : Kd.S (Kd.slice 2 (Kd.int .i64)) 53 w L.lo (fun k => L.N2 ≤ k ∧ k < L.hi) (.slice (some ⟨L.gS, 0, none⟩) q.sums.length L.cS) q.sums
  K : (Kd.int .i64).R 2 w L.lo (fun k => k < L.N2 ∧ k < L.hi) (.slice (some ⟨L.gK, 0, none⟩) q.counts.length L.cK) q.counts
theorem MSt.keep {L : Lay} {w w1 : World} {q : Raw} (h : MSt L w q) (hm : ∀ k, L.lo ≤ k → k < L.hi → k < w.heap.size → w1.heap[k]? = w.heap[k]?) : MSt L w1 q :=
  ⟨h.g1, h.g2, (hm _ h.g1 h.g2 (blk_lt h.obj)).trans h.obj, R_stepB h.P (fun k hk hb hl => hm k hb hk.2 hl), S_stepB h.C (fun k hk hb hl => hm k hb hk.2 hl), R_stepB h.O (fun k hk hb hl => hm k hb hk hl), S_stepB h.S (fun k hk hb hl => hm k hb hk.2 hl), R_stepB h.K (fun k hk hb hl => hm k hb hk.2 hl)⟩
theorem MSt.below {L : Lay} {w w1 : World} {q : Raw} (h : MSt L w q) (hb : Below w.heap.size w w1) : MSt L w1 q := h.keep (fun k _ _ hl => hb.block k hl)
theorem MSt.drewN {L : Lay} {w : World} {q : Raw} (h : MSt L w q) (n : Nat) : MSt L (w.drewN n) q := h.keep (fun k _ _ _ => rfl)
theorem MSt.other {L : Lay} {w w1 : World} {q : Raw} {lo hi : Nat} (h : MSt L w q) (hf : Fr lo hi w w1) (hd : L.hi ≤ lo ∨ hi ≤ L.lo) : MSt L w1 q := h.keep (fun k h1 h2 hl => hf.block k hl (by omega))
theorem MSt.cell {L : Lay} {w : World} {q : Raw} (h : MSt L w q) (i : Nat) : w.cell? ⟨L.g, i, none⟩ = (L.obj q)[i]? := blk_cell h.obj i
theorem MSt.fz {L : Lay} {w : World} {q : Raw} (h : MSt L w q) (i : Nat) : w.frozen? ⟨L.g, i, none⟩ = false := blk_frozen h.obj i
theorem MSt.setA {L : Lay} {w : World} {q : Raw} (h : MSt L w q) (x : Nat) : MSt L (w.setCell ⟨L.g, 4, none⟩ (.int .i64 x)) { q with a := x } :=
  ⟨h.g1, h.g2, blk_put h.obj 4 _ rfl, Kd.R_set h.P h.obj (by decide) 4 _, Kd.S_set h.C h.obj (by decide) 4 _, Kd.R_set h.O h.obj (by decide) 4 _, Kd.S_set h.S h.obj (by decide) 4 _, Kd.R_set h.K h.obj (by decide) 4 _⟩
theorem MSt.setR {L : Lay} {w : World} {q : Raw} (h : MSt L w q) (x : Nat) : MSt L (w.setCell ⟨L.g, 3, none⟩ (.int .i64 x)) { q with r := x } :=
  ⟨h.g1, h.g2, blk_put h.obj 3 _ rfl, Kd.R_set h.P h.obj (by decide) 3 _, Kd.S_set h.C h.obj (by decide) 3 _, Kd.R_set h.O h.obj (by decide) 3 _, Kd.S_set h.S h.obj (by decide) 3 _, Kd.R_set h.K h.obj (by decide) 3 _⟩
theorem MSt.frG {L : Lay} {w : World} {q : Raw} (h : MSt L w q) (i : Nat) (u : Value) : Fr L.lo L.hi w (w.setCell ⟨L.g, i, none⟩ u) := Fr.one h.g1 h.g2 h.obj (by decide) u
theorem obj_of (L : Lay) (q : Raw) (of : List Int) (h : of.length = q.of.length) : L.obj { q with of := of } = L.obj q := by unfold Lay.obj; rw [h]
theorem obj_K (L : Lay) (q : Raw) (l : List Int) (h : l.length = q.counts.length) : L.obj { q with counts := l } = L.obj q := by unfold Lay.obj; rw [h]
theorem obj_S (L : Lay) (q : Raw) (l : List (List Int)) (h : l.length = q.sums.length) : L.obj { q with sums := l } = L.obj q := by unfold Lay.obj; rw [h]
theorem obj_C (L : Lay) (q : Raw) (l : List (List Int)) (h : l.length = q.C.length) : L.obj { q with C := l } = L.obj q := by unfold Lay.obj; rw [h]
/-- To which cent each point is: one is stored. -/
theorem MSt.rowO {L : Lay} {w : World} {q : Raw} (h : MSt L w q) (i : Nat) (hi : i < q.of.length) :
    ∃ b, L.AO = some ⟨b, 0, none⟩ ∧ (∀ u, Fr L.lo L.hi w (w.setCell ⟨b, i, none⟩ u)) ∧ w.frozen? ⟨b, i, none⟩ = false ∧ w.cell? ⟨b, i, none⟩ = some (.int .i64 (q.of.getD i 0)) ∧ ∀ x : Int, MSt L (w.setCell ⟨b, i, none⟩ (.int .i64 x)) { q with of := q.of.set i x } := by
  have hO := h.O
  obtain ⟨b, cap, e1, hb, hlt, cells, hbl⟩ := Kd.R_form hO (by omega)
  injection e1 with e1 e2 e3
  rw [e1] at hO
  obtain ⟨hcv, hfz⟩ := Kd.R_cell (0 : Int) hO (i : Int) (by omega) (by omega)
  refine ⟨b, e1, Fr.one hb (hO.1 b (by simp [Value.ownBlock])) hbl (by decide), hfz, hcv, fun x => ?_⟩
  obtain ⟨hR2, hg⟩ := Kd.R_put hO (i : Int) x
  simp only [Int.toNat_natCast] at hR2 hg
  have hl : (q.of.set i x).length = q.of.length := List.length_set
  refine ⟨h.g1, h.g2, by rw [obj_of L q _ hl]; exact blk_far h.obj (p := ⟨b, i, none⟩) (blk_ne h.obj hbl (by decide)) _, Kd.R_set h.P hbl (by decide) i _, Kd.S_set h.C hbl (by decide) i _, ?_, Kd.S_set h.S hbl (by decide) i _, Kd.R_set h.K hbl (by decide) i _⟩
  show (Kd.int .i64).R _ _ _ _ (.slice L.AO (q.of.set i x).length L.cO) (q.of.set i x)
  rw [hl, e1]
  exact hR2
/-- How many points each cent has: one is stored. -/
theorem MSt.rowK {L : Lay} {w : World} {q : Raw} (h : MSt L w q) (i : Nat) (hi : i < q.counts.length) :
    (∀ u, Fr L.lo L.hi w (w.setCell ⟨L.gK, i, none⟩ u)) ∧ w.frozen? ⟨L.gK, i, none⟩ = false ∧ w.cell? ⟨L.gK, i, none⟩ = some (.int .i64 (q.counts.getD i 0)) ∧ ∀ x : Int, MSt L (w.setCell ⟨L.gK, i, none⟩ (.int .i64 x)) { q with counts := q.counts.set i x } := by
  have hK := h.K
  obtain ⟨b, cap, e1, hb, hlt, cells, hbl⟩ := Kd.R_form hK (by omega)
  injection e1 with e1 e2 e3
  have eb : L.gK = b := by injection e1 with e1; injection e1
  subst eb
  obtain ⟨hcv, hfz⟩ := Kd.R_cell (0 : Int) hK (i : Int) (by omega) (by omega)
  have hok := hK.1 L.gK (by simp [Value.ownBlock])
  refine ⟨Fr.one hb hok.2 hbl (by decide), hfz, hcv, fun x => ?_⟩
  obtain ⟨hR2, hg⟩ := Kd.R_put hK (i : Int) x
  simp only [Int.toNat_natCast] at hR2 hg
  have hl : (q.counts.set i x).length = q.counts.length := List.length_set
  refine ⟨h.g1, h.g2, by rw [obj_K L q _ hl]; exact blk_far h.obj (p := ⟨L.gK, i, none⟩) (blk_ne h.obj hbl (by decide)) _, Kd.R_set h.P hbl (by decide) i _, Kd.S_set h.C hbl (by decide) i _, Kd.R_set h.O hbl (by decide) i _, Kd.S_far h.S (p := ⟨L.gK, i, none⟩) (fun k hk he => by have := hok.1; have := hk.1; simp only at he; omega) _, ?_⟩
  show (Kd.int .i64).R _ _ _ _ (.slice _ (q.counts.set i x).length L.cK) (q.counts.set i x)
  rw [hl]
  exact hR2
/-- The sums of cent n: one is stored. -/
theorem MSt.rowS {L : Lay} {w : World} {q : Raw} (h : MSt L w q) (n : Nat) (hn : n < q.sums.length) :
    ∃ A c, w.cell? ⟨L.gS, n, none⟩ = some (.slice A (q.sums.getD n []).length c) ∧ ∀ i, i < (q.sums.getD n []).length → ∃ b, A = some ⟨b, 0, none⟩ ∧ b ≠ L.gS ∧ (∀ u, Fr L.lo L.hi w (w.setCell ⟨b, i, none⟩ u)) ∧ w.frozen? ⟨b, i, none⟩ = false ∧ w.cell? ⟨b, i, none⟩ = some (.int .i64 (at2 q.sums n i)) ∧
      ∀ x : Int, MSt L (w.setCell ⟨b, i, none⟩ (.int .i64 x)) { q with sums := q.sums.set n ((q.sums.getD n []).set i x) } := by
  obtain ⟨A, c, hc, hlc, hC, hr⟩ := S_row h.S n hn
  refine ⟨A, c, hc, fun i hi => ?_⟩
  obtain ⟨b, cells, rfl, hok, hb, hbg, hbl, hcv, hset⟩ := hr i hi
  refine ⟨b, rfl, hbg, Fr.one hb hok.2 hbl (by decide), blk_frozen hbl i, hcv, fun x => ?_⟩
  have hl : (q.sums.set n ((q.sums.getD n []).set i x)).length = q.sums.length := List.length_set
  refine ⟨h.g1, h.g2, by rw [obj_S L q _ hl]; exact blk_far h.obj (p := ⟨b, i, none⟩) (blk_ne h.obj hbl (by decide)) _, Kd.R_set h.P hbl (by decide) i _, Kd.S_set h.C hbl (by decide) i _, Kd.R_set h.O hbl (by decide) i _, ?_, Kd.R_far h.K (p := ⟨b, i, none⟩) (fun k hk he => by have := hok.1; have := hk.1; simp only at he; omega) _⟩
  show Kd.S _ _ _ _ _ (.slice _ (q.sums.set n ((q.sums.getD n []).set i x)).length L.cS) _
  rw [hl]
  exact hset x
/-- The numbers of cent n: one is stored. -/
theorem MSt.rowC {L : Lay} {w : World} {q : Raw} (h : MSt L w q) (n : Nat) (hn : n < q.C.length) :
    ∃ A c, w.cell? ⟨L.gC, n, none⟩ = some (.slice A (q.C.getD n []).length c) ∧ (q.C.getD n []).length ≤ c ∧ (Kd.int .i32).C w A (q.C.getD n []).length (q.C.getD n []) ∧ ∀ i, i < (q.C.getD n []).length → ∃ b, A = some ⟨b, 0, none⟩ ∧ (∀ u, Fr L.lo L.hi w (w.setCell ⟨b, i, none⟩ u)) ∧ w.frozen? ⟨b, i, none⟩ = false ∧ w.cell? ⟨b, i, none⟩ = some (.int .i32 (at2 q.C n i)) ∧
      ∀ x : Int, MSt L (w.setCell ⟨b, i, none⟩ (.int .i32 x)) { q with C := q.C.set n ((q.C.getD n []).set i x) } := by
  obtain ⟨A, c, hc, hlc, hC, hr⟩ := S_row h.C n hn
  refine ⟨A, c, hc, hlc, hC, fun i hi => ?_⟩
  obtain ⟨b, cells, rfl, hok, hb, hbg, hbl, hcv, hset⟩ := hr i hi
  refine ⟨b, rfl, Fr.one hb hok.2 hbl (by decide), blk_frozen hbl i, hcv, fun x => ?_⟩
  have hl : (q.C.set n ((q.C.getD n []).set i x)).length = q.C.length := List.length_set
  refine ⟨h.g1, h.g2, by rw [obj_C L q _ hl]; exact blk_far h.obj (p := ⟨b, i, none⟩) (blk_ne h.obj hbl (by decide)) _, Kd.R_far h.P (p := ⟨b, i, none⟩) (fun k hk he => by have := hok.1; have := hk.1; simp only at he; omega) _, ?_, Kd.R_set h.O hbl (by decide) i _, Kd.S_set h.S hbl (by decide) i _, Kd.R_set h.K hbl (by decide) i _⟩
  show Kd.S _ _ _ _ _ (.slice _ (q.C.set n ((q.C.getD n []).set i x)).length L.cC) _
  rw [hl]
  exact hset x
/-- All points, all cents: to be read. -/
theorem MSt.readP {L : Lay} {w : World} {q : Raw} (h : MSt L w q) : q.P.length ≤ L.cP ∧ Kd.C (Kd.slice 21 (Kd.int .i32)) w L.AP q.P.length q.P := by
  obtain ⟨_, h2, h3⟩ := Kd.R_reads' h.P
  exact ⟨h2, h3⟩
theorem MSt.readC {L : Lay} {w : World} {q : Raw} (h : MSt L w q) : q.C.length ≤ L.cC ∧ Kd.C (Kd.slice 21 (Kd.int .i32)) w (some ⟨L.gC, 0, none⟩) q.C.length q.C := by
  obtain ⟨_, h2, h3⟩ := Kd.S_reads' h.C
  exact ⟨h2, h3⟩
theorem MSt.readO {L : Lay} {w : World} {q : Raw} (h : MSt L w q) : q.of.length ≤ L.cO ∧ Kd.C (Kd.int .i64) w L.AO q.of.length q.of := by
  obtain ⟨_, h2, h3⟩ := Kd.R_reads' h.O
  exact ⟨h2, h3⟩
/-! clear -/
def putAll : List Int → Nat → List Int → List Int
  | row, _, [] => row
  | row, o, v :: r => putAll (row.set o v) (o + 1) r
theorem putAll_len : ∀ (vs : List Int) (row : List Int) (o : Nat), (putAll row o vs).length = row.length
  | [], _, _ => rfl
  | v :: r, row, o => by rw [putAll, putAll_len r, List.length_set]
theorem putAll_at : ∀ (vs : List Int) (row : List Int) (o k : Nat), o + vs.length ≤ row.length → (putAll row o vs)[k]? = if o ≤ k ∧ k < o + vs.length then vs[k - o]? else row[k]?
  | [], row, o, k, _ => by rw [putAll, if_neg (fun h => by have := h.2; simp at this; omega)]
  | v :: r, row, o, k, h => by
    simp only [List.length_cons] at h
    rw [putAll, putAll_at r _ _ _ (by rw [List.length_set]; omega)]
    simp only [List.length_cons]
    by_cases h1 : k = o
    · subst h1
      rw [if_neg (by omega), if_pos (by omega), List.getElem?_set_self (by omega)]
      simp
    · by_cases h2 : o + 1 ≤ k ∧ k < o + 1 + r.length
      · rw [if_pos h2, if_pos (by omega), show k - o = (k - (o + 1)) + 1 by omega, List.getElem?_cons_succ]
      · rw [if_neg h2, if_neg (by omega), List.getElem?_set_ne (by omega)]
theorem putAll_zero (row : List Int) : putAll row 0 (List.replicate row.length 0) = List.replicate row.length 0 := by
  apply List.ext_getElem?
  intro k
  rw [putAll_at _ _ _ _ (by simp)]
  by_cases h : k < row.length
  · rw [if_pos (by simpa using h)]
    simp
  · rw [if_neg (by simpa using h), List.getElem?_eq_none (by omega), List.getElem?_eq_none (by simpa using h)]
theorem MSt.putS {L : Lay} {n b c m : Nat} : ∀ (vs : List Int) (o : Nat) (w : World) (q : Raw), MSt L w q → n < q.sums.length → (q.sums.getD n []).length = m → w.cell? ⟨L.gS, n, none⟩ = some (.slice (some ⟨b, 0, none⟩) m c) → o + vs.length ≤ m →
    MSt L (w.setCells b o (vs.map (Value.int .i64))) { q with sums := q.sums.set n (putAll (q.sums.getD n []) o vs) } ∧ Fr L.lo L.hi w (w.setCells b o (vs.map (Value.int .i64)))
  | [], o, w, q, h, hn, hm, hc, hl => by
    have e : q.sums.set n (putAll (q.sums.getD n []) o []) = q.sums := by
      rw [putAll, List.getD_eq_getElem?_getD, List.getElem?_eq_getElem hn, Option.getD_some, List.set_getElem_self]
    rw [e]
    exact ⟨h, Fr.refl _ _ _⟩
  | v :: r, o, w, q, h, hn, hm, hc, hl => by
    simp only [List.length_cons] at hl
    obtain ⟨A, c1, hc1, hr⟩ := h.rowS n hn
    rw [hc] at hc1
    injection hc1 with hc1
    injection hc1 with e1 e2 e3
    obtain ⟨b', e4, hne, h1, hfz, hcv, hset⟩ := hr o (by omega)
    rw [e4] at e1
    have e5 : b = b' := by injection e1 with e1; injection e1
    subst e5
    have hcell : (w.setCell ⟨b, o, none⟩ (.int .i64 v)).cell? ⟨L.gS, n, none⟩ = some (.slice (some ⟨b, 0, none⟩) m c) := by
      rw [← hc, World.cell?, World.cell?, Below.heap_setCell _ _ _ _ (show L.gS ≠ b from Ne.symm hne)]
    have hrow : (q.sums.set n ((q.sums.getD n []).set o v)).getD n [] = (q.sums.getD n []).set o v := by
      rw [List.getD_eq_getElem?_getD, List.getElem?_set_self hn, Option.getD_some]
    obtain ⟨h3, h4⟩ := MSt.putS r (o + 1) _ _ (hset v) (by simpa using hn) (by show (List.getD _ n []).length = m; rw [hrow, List.length_set]; exact hm) hcell (by omega)
    refine ⟨?_, (h1 _).trans h4⟩
    have e6 : (q.sums.set n ((q.sums.getD n []).set o v)).set n (putAll ((q.sums.set n ((q.sums.getD n []).set o v)).getD n []) (o + 1) r) = q.sums.set n (putAll (q.sums.getD n []) o (v :: r)) := by
      rw [hrow, List.set_set, putAll]
    rw [← e6]
    exact h3
theorem MSt.putK {L : Lay} {m : Nat} : ∀ (vs : List Int) (o : Nat) (w : World) (q : Raw), MSt L w q → q.counts.length = m → o + vs.length ≤ m →
    MSt L (w.setCells L.gK o (vs.map (Value.int .i64))) { q with counts := putAll q.counts o vs } ∧ Fr L.lo L.hi w (w.setCells L.gK o (vs.map (Value.int .i64)))
  | [], o, w, q, h, hm, hl => ⟨h, Fr.refl _ _ _⟩
  | v :: r, o, w, q, h, hm, hl => by
    simp only [List.length_cons] at hl
    obtain ⟨h1, hfz, hcv, hset⟩ := h.rowK o (by omega)
    obtain ⟨h3, h4⟩ := MSt.putK r (o + 1) _ _ (hset v) (by show (List.set _ _ _).length = m; rw [List.length_set]; exact hm) (by omega)
    exact ⟨h3, (h1 _).trans h4⟩
/-- The run of clear(m.sums[n]). -/
theorem MSt.clearS {L : Lay} {w : World} {q : Raw} (h : MSt L w q) (n : Nat) (hn : n < q.sums.length) (hm : 0 < (q.sums.getD n []).length) : ∃ A c w1, w.cell? ⟨L.gS, n, none⟩ = some (.slice A (q.sums.getD n []).length c) ∧
    (∀ ty, (Builtin.clear_ #[53] ty #[.slice A (q.sums.getD n []).length c]).run Try.prog w = .ok (.tuple #[]) w1) ∧ MSt L w1 { q with sums := q.sums.set n (List.replicate (q.sums.getD n []).length 0) } ∧ Fr L.lo L.hi w w1 := by
  obtain ⟨A, c, hc, hr⟩ := h.rowS n hn
  obtain ⟨b, rfl, hne, h1, hfz, hcv, hset⟩ := hr 0 hm
  have hz : ∀ w, (zeroValue 2).run Try.prog w = .ok (.int .i64 0) w := fun w => by kernel_rfl
  have hrun := fun ty => Lib.run_clear_slice (P := Try.prog) w 53 2 ty (.int .i64 0) Try.underlying53 hz rfl rfl b 0 (q.sums.getD n []).length c hm
    (fun j hj => by obtain ⟨b', e, _, _, _, hv, _⟩ := hr j hj; cases e; rw [Nat.zero_add, hv]; rfl) (fun j hj => by obtain ⟨b', e, _, _, hf, _⟩ := hr j hj; cases e; rw [Nat.zero_add]; exact hf)
  obtain ⟨h3, h4⟩ := MSt.putS (List.replicate (q.sums.getD n []).length 0) 0 w q h hn rfl hc (by simp)
  rw [putAll_zero] at h3
  rw [List.map_replicate] at h3 h4
  exact ⟨_, c, _, hc, hrun, h3, h4⟩
theorem MSt.clearK {L : Lay} {w : World} {q : Raw} (h : MSt L w q) (hm : 0 < q.counts.length) : ∃ w1,
    (∀ ty, (Builtin.clear_ #[53] ty #[.slice (some ⟨L.gK, 0, none⟩) q.counts.length L.cK]).run Try.prog w = .ok (.tuple #[]) w1) ∧ MSt L w1 { q with counts := List.replicate q.counts.length 0 } ∧ Fr L.lo L.hi w w1 := by
  have hz : ∀ w, (zeroValue 2).run Try.prog w = .ok (.int .i64 0) w := fun w => by kernel_rfl
  have hrun := fun ty => Lib.run_clear_slice (P := Try.prog) w 53 2 ty (.int .i64 0) Try.underlying53 hz rfl rfl L.gK 0 q.counts.length L.cK hm
    (fun j hj => by obtain ⟨_, _, hv, _⟩ := h.rowK j hj; rw [Nat.zero_add, hv]; rfl) (fun j hj => by obtain ⟨_, hf, _⟩ := h.rowK j hj; rw [Nat.zero_add]; exact hf)
  obtain ⟨h3, h4⟩ := MSt.putK (List.replicate q.counts.length 0) 0 w q h rfl (by simp)
  rw [putAll_zero] at h3
  rw [List.map_replicate] at h3 h4
  exact ⟨_, hrun, h3, h4⟩
end Go.Proofs.Ytcgpkfpfpjclkaa.G
