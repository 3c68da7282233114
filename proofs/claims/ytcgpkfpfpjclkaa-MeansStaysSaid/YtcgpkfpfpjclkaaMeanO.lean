/- means.New: the object. -/
import Derived.Test.YtcgpkfpfpjclkaaMeanN
import Derived.Deep.CutRange
namespace Go.Proofs.Ytcgpkfpfpjclkaa.G
open Go.RowKit Go.Shelf Go.Proofs.YtcgpkfpfpjclkaaW.PrintWords
set_option linter.unusedVariables false
set_option linter.unusedSimpArgs false
theorem cell_al {W : World} {a : Addr} {v : Value} (h : W.cell? a = some v) (o : Obj) : (W.alloc o).cell? a = some v := pw_cell_below (below_alloc (Below.refl _ _) o) h
theorem cell_dn {W : World} {a : Addr} {v : Value} (h : W.cell? a = some v) (n : Nat) : (W.drewN n).cell? a = some v := h
theorem cell_d1 {W : World} {a : Addr} {v : Value} (h : W.cell? a = some v) : W.drew.cell? a = some v := h
theorem blk_newE {W : World} {X : Nat} (o : Obj) (h : X = W.heap.size) : (W.alloc o).heap[X]? = some o := by subst h; exact blk_new W o
abbrev rowsK : Kd (List Int) := Kd.slice 21 (Kd.int .i32)
/-- Behind the copy of the cents: the points lie before them. -/
theorem after_C {w5 W w6 : World} {base : Nat} {v5 v6 : Value} {P C : List (List Int)} (hP : rowsK.R 39 w5 base (fun k => k < w5.heap.size) v5 P) (h1 : Below w5.heap.size w5 W) (h2 : Below W.heap.size W w6) (hC : Kd.S rowsK 39 w6 W.heap.size (fun _ => True) v6 C) (hb : base ≤ W.heap.size) :
    ∃ N, rowsK.R 39 w6 base (fun k => k < N) v5 P ∧ Kd.S rowsK 39 w6 base (fun k => N ≤ k ∧ k < w6.heap.size) v6 C ∧ N ≤ w6.heap.size :=
  ⟨W.heap.size, Kd.R_mono (Kd.R_below (Kd.R_below hP h1) h2) (fun k hk => Nat.lt_of_lt_of_le hk h1.size), Kd.S_lower (Kd.S_mono (Kd.S_bound hC) (fun k hk => ⟨hk.2.1, hk.2.2.1⟩)) hb, h2.size⟩
theorem after_R {w6 W w7 : World} {base N : Nat} {v5 v6 v7 : Value} {P C : List (List Int)} {O : List Int} (hP : rowsK.R 39 w6 base (fun k => k < N) v5 P) (hC : Kd.S rowsK 39 w6 base (fun k => N ≤ k ∧ k < w6.heap.size) v6 C) (hN : N ≤ w6.heap.size) (h1 : Below w6.heap.size w6 W) (h2 : Below W.heap.size W w7)
    (hO : (Kd.int .i64).R 3 w7 W.heap.size (fun _ => True) v7 O) (hb : base ≤ W.heap.size) :
    rowsK.R 39 w7 base (fun k => k < N) v5 P ∧ Kd.S rowsK 39 w7 base (fun k => N ≤ k ∧ k < w7.heap.size) v6 C ∧ N ≤ w7.heap.size ∧ (Kd.int .i64).R 3 w7 base (fun k => k < w7.heap.size) v7 O :=
  ⟨Kd.R_below (Kd.R_below hP h1) h2, Kd.S_mono (Kd.S_below (Kd.S_below hC h1) h2) (fun k hk => ⟨hk.1, Nat.lt_of_lt_of_le hk.2 (Nat.le_trans h1.size h2.size)⟩), Nat.le_trans hN (Nat.le_trans h1.size h2.size), Kd.R_lower (Kd.R_mono (Kd.R_bound hO) (fun k hk => hk.2.2.1)) hb⟩
/-- The object, made, but for its sums and its closure. -/
structure NSt (w : World) (aC : Addr) (cC : Nat) (P C : List (List Int)) (it : Nat) (W : World) (g N gK : Nat) (AP : Option Addr) (cP : Nat) (A6 : Option Addr) (c6 : Nat) (A7 : Option Addr) (c7 : Nat) (u6 u8 : Value) : Prop where
  obj : W.heap[g]? = some (.cells #[.slice AP P.length cP, .slice A6 C.length c6, .int .i64 it, .int .i64 0, .int .i64 0, .slice A7 P.length c7, u6, .slice (some ⟨gK, 0, none⟩) C.length C.length, u8] 55 (0, 0))
  pP : rowsK.R 39 W w.heap.size (fun k => k < N ∧ k < g) (.slice AP P.length cP) P
  pC : Kd.S rowsK 39 W w.heap.size (fun k => N ≤ k ∧ k < g) (.slice A6 C.length c6) C
  pO : (Kd.int .i64).R 3 W w.heap.size (fun k => k < g) (.slice A7 P.length c7) (List.replicate P.length (-1))
  pK : (Kd.int .i64).R 2 W w.heap.size (fun k => k < g) (.slice (some ⟨gK, 0, none⟩) C.length C.length) (List.replicate C.length 0)
  pN : N ≤ g
  lo : w.heap.size ≤ g
  lt : g < W.heap.size
  box : W.cell? ⟨w.heap.size, 0, none⟩ = some (.slice (some aC) C.length cC)
  bel : Below w.heap.size w W
theorem made_K {W : World} {base gK k : Nat} (h : W.heap[gK]? = some (.cells (madeCells #[.int .i64 0] k) 2 (0, 0))) (hb : base ≤ gK) (hk : k ≤ 1000000) : (Kd.int .i64).R 2 W base (fun j => j < W.heap.size) (.slice (some ⟨gK, 0, none⟩) k k) (List.replicate k 0) := by
  have e : (nums .i64 (List.replicate k 0)).toArray = madeCells #[.int .i64 0] k := by
    apply Array.ext'
    simp [madeCells, nums, Nat.mod_one, List.map_const']
  rw [← e] at h
  have ho := own_of_block (base := base) hb h (show (List.replicate k (0 : Int)).length = k by simp) (by omega)
  have hR := R_nums ho (by simp)
  exact Kd.R_mono (Kd.R_bound hR) (fun j hj => hj.2.2.1)
theorem fin_N {w w7 X : World} {aC : Addr} {cC N gK g : Nat} {P C : List (List Int)} {it : Nat} {AP A6 A7 : Option Addr} {cP c6 c7 : Nat} (hP : rowsK.R 39 w7 w.heap.size (fun k => k < N) (.slice AP P.length cP) P) (hC : Kd.S rowsK 39 w7 w.heap.size (fun k => N ≤ k ∧ k < w7.heap.size) (.slice A6 C.length c6) C) (hN : N ≤ w7.heap.size)
    (hO : (Kd.int .i64).R 3 w7 w.heap.size (fun k => k < w7.heap.size) (.slice A7 P.length c7) (List.replicate P.length (-1))) (h1 : Below w7.heap.size w7 X) (hK : X.heap[gK]? = some (.cells (madeCells #[.int .i64 0] C.length) 2 (0, 0))) (hKb : w.heap.size ≤ gK) (hk : C.length ≤ 1000000) (hbox : X.cell? ⟨w.heap.size, 0, none⟩ = some (.slice (some aC) C.length cC)) (hbel : Below w.heap.size w X) (u6 u8 : Value) (hg : g = X.heap.size) :
    NSt w aC cC P C it (X.alloc (.cells #[.slice AP P.length cP, .slice A6 C.length c6, .int .i64 it, .int .i64 0, .int .i64 0, .slice A7 P.length c7, u6, .slice (some ⟨gK, 0, none⟩) C.length C.length, u8] 55)) g N gK AP cP A6 c6 A7 c7 u6 u8 := by
  subst hg
  have hs : ∀ o, (X.alloc o).heap.size = X.heap.size + 1 := fun o => by simp
  have hsz := h1.size
  have ha : ∀ o, Below X.heap.size X (X.alloc o) := fun o => below_alloc (Below.refl _ _) o
  refine ⟨blk_new _ _, Kd.R_mono (Kd.R_bound (Kd.R_below (Kd.R_below hP h1) (ha _))) (fun k hk => ⟨hk.1, by have := hk.1; omega⟩), Kd.S_mono (Kd.S_below (Kd.S_below hC h1) (ha _)) (fun k hk => ⟨hk.1, by have := hk.2; omega⟩), Kd.R_mono (Kd.R_below (Kd.R_below hO h1) (ha _)) (fun k hk => by have : k < w7.heap.size := hk; show k < X.heap.size; omega), Kd.R_below (made_K hK hKb hk) (ha _), by omega, hbel.size, by rw [hs]; omega, cell_al hbox _, below_alloc hbel _⟩
theorem fin_ex {w w7 X : World} {aC : Addr} {cC N gK g : Nat} {P C : List (List Int)} {it : Nat} {AP A6 A7 : Option Addr} {cP c6 c7 : Nat} (hP : rowsK.R 39 w7 w.heap.size (fun k => k < N) (.slice AP P.length cP) P) (hC : Kd.S rowsK 39 w7 w.heap.size (fun k => N ≤ k ∧ k < w7.heap.size) (.slice A6 C.length c6) C) (hN : N ≤ w7.heap.size)
    (hO : (Kd.int .i64).R 3 w7 w.heap.size (fun k => k < w7.heap.size) (.slice A7 P.length c7) (List.replicate P.length (-1))) (h1 : Below w7.heap.size w7 X) (hK : X.heap[gK]? = some (.cells (madeCells #[.int .i64 0] C.length) 2 (0, 0))) (hKb : w.heap.size ≤ gK) (hk : C.length ≤ 1000000) (hbox : X.cell? ⟨w.heap.size, 0, none⟩ = some (.slice (some aC) C.length cC)) (hbel : Below w.heap.size w X) (hg : g = X.heap.size) :
    ∃ q1 q2 q3 q4 q5 q6 q7 q8 q9, Value.pointer (some ⟨g, 0, none⟩) = .pointer (some ⟨q1, 0, none⟩) ∧ Aside0 (NSt w aC cC P C it (X.alloc (.cells #[.slice AP P.length cP, .slice A6 C.length c6, .int .i64 it, .int .i64 0, .int .i64 0, .slice A7 P.length c7, .slice none 0 0, .slice (some ⟨gK, 0, none⟩) C.length C.length, .nilFunc] 55)) q1 q2 q3 q4 q5 q6 q7 q8 q9 (.slice none 0 0) .nilFunc) :=
  ⟨g, N, gK, AP, cP, A6, c6, A7, c7, rfl, ⟨fin_N hP hC hN hO h1 hK hKb hk hbox hbel _ _ hg⟩⟩
theorem cell_heap_eq {W W1 : World} {b i : Nat} (h : W1.heap[b]? = W.heap[b]?) : W1.cell? ⟨b, i, none⟩ = W.cell? ⟨b, i, none⟩ := by
  simp only [World.cell?]
  rw [h]
theorem frozen_heap_eq {W W1 : World} {b i : Nat} (h : W1.heap[b]? = W.heap[b]?) : W1.frozen? ⟨b, i, none⟩ = W.frozen? ⟨b, i, none⟩ := by
  simp only [World.frozen?]
  rw [h]
theorem fz_al {W : World} {b i : Nat} (hb : b < W.heap.size) (h : W.frozen? ⟨b, i, none⟩ = false) (o : Obj) : (W.alloc o).frozen? ⟨b, i, none⟩ = false := (frozen_heap_eq (Below.heap_alloc W o b hb)).trans h
section
variable {w : World} {aC : Addr} {cC : Nat} {P C : List (List Int)} {it : Nat} {W : World} {g N gK : Nat} {AP : Option Addr} {cP : Nat} {A6 : Option Addr} {c6 : Nat} {A7 : Option Addr} {c7 : Nat} {u6 u8 : Value}
theorem NSt.up (h : NSt w aC cC P C it W g N gK AP cP A6 c6 A7 c7 u6 u8) {W1 : World} (hb : Below (g + 1) W W1) : NSt w aC cC P C it W1 g N gK AP cP A6 c6 A7 c7 u6 u8 :=
  ⟨(hb.block g (by omega)).trans h.obj, R_stepB h.pP (fun k hk _ _ => hb.block k (by have h2 : k < g := hk.2; omega)), S_stepB h.pC (fun k hk _ _ => hb.block k (by have h2 : k < g := hk.2; omega)), R_stepB h.pO (fun k (hk : k < g) _ _ => hb.block k (by omega)), R_stepB h.pK (fun k (hk : k < g) _ _ => hb.block k (by omega)), h.pN, h.lo, Nat.lt_of_lt_of_le h.lt hb.size,
    (cell_heap_eq (hb.block _ (by have := h.lo; omega))).trans h.box, ⟨hb.os.trans h.bel.os, hb.tape.trans h.bel.tape, hb.output.trans h.bel.output, Nat.le_trans h.bel.size hb.size, fun k hk => (hb.block k (by have := h.lo; omega)).trans (h.bel.block k hk)⟩⟩
theorem NSt.set6 (h : NSt w aC cC P C it W g N gK AP cP A6 c6 A7 c7 u6 u8) (u : Value) : NSt w aC cC P C it (W.setCell ⟨g, 6, none⟩ u) g N gK AP cP A6 c6 A7 c7 u u8 :=
  ⟨blk_put h.obj 6 _ rfl, Kd.R_set h.pP h.obj (by decide) 6 _, Kd.S_set h.pC h.obj (by decide) 6 _, Kd.R_set h.pO h.obj (by decide) 6 _, Kd.R_set h.pK h.obj (by decide) 6 _, h.pN, h.lo, by have := h.lt; simpa [World.setCell] using this, by
    by_cases hg : w.heap.size = g
    · have h2 := h.box
      rw [hg, blk_cell h.obj] at h2
      rw [hg, blk_cell (blk_put (cs' := _) h.obj 6 u rfl)]
      exact h2
    · exact (cell_heap_eq (Below.heap_setCell W ⟨g, 6, none⟩ u _ hg)).trans h.box, h.bel.setCell h.lo _⟩
theorem NSt.set8 (h : NSt w aC cC P C it W g N gK AP cP A6 c6 A7 c7 u6 u8) (u : Value) : NSt w aC cC P C it (W.setCell ⟨g, 8, none⟩ u) g N gK AP cP A6 c6 A7 c7 u6 u :=
  ⟨blk_put h.obj 8 _ rfl, Kd.R_set h.pP h.obj (by decide) 8 _, Kd.S_set h.pC h.obj (by decide) 8 _, Kd.R_set h.pO h.obj (by decide) 8 _, Kd.R_set h.pK h.obj (by decide) 8 _, h.pN, h.lo, by have := h.lt; simpa [World.setCell] using this, by
    by_cases hg : w.heap.size = g
    · have h2 := h.box
      rw [hg, blk_cell h.obj] at h2
      rw [hg, blk_cell (blk_put (cs' := _) h.obj 8 u rfl)]
      exact h2
    · exact (cell_heap_eq (Below.heap_setCell W ⟨g, 8, none⟩ u _ hg)).trans h.box, h.bel.setCell h.lo _⟩
abbrev sumsK : Kd (List Int) := Kd.slice 2 (Kd.int .i64)
theorem info_sl64 : (Try.prog.info? 53).map (fun i => (i.zero, i.size, i.bytes)) = some (some (.slice none 0 0), 1, 24) := by kernel_rfl
/-- A row of zeros, new. -/
theorem zero_row {W : World} {b m : Nat} (hm : m ≤ 1000000) (hb : b ≤ W.heap.size) : sumsK.M (W.alloc (.cells (madeCells #[.int .i64 0] m) 2)) b (fun k => k = W.heap.size) (List.replicate m 0) [.slice (some ⟨W.heap.size, 0, none⟩) m m] := by
  have e : (nums .i64 (List.replicate m 0)).toArray = madeCells #[.int .i64 0] m := by
    apply Array.ext'
    simp [madeCells, nums, Nat.mod_one, List.map_const']
  have h := blk_new W (.cells (madeCells #[.int .i64 0] m) 2)
  rw [← e] at h ⊢
  have ho := own_of_block (base := b) hb h (show (List.replicate m (0 : Int)).length = m by simp) (by omega)
  have hR := R_nums ho (by simp)
  exact ⟨_, rfl, ⟨fun k hk => by simp [Value.ownBlock] at hk; exact hk.symm, (Kd.R_mono (ok' := fun _ => True) hR (fun _ _ => trivial)).2.imp_ (fun _ _ hp => hp)⟩⟩
/-- The object is made. -/
theorem NSt.done (h : NSt w aC cC P C it W g N gK AP cP A6 c6 A7 c7 u6 (.func (.func 39) #[.pointer (some ⟨g, 0, none⟩)] #[])) {m : Nat} (hk : 1 ≤ C.length) (hS : Kd.S sumsK 53 W (g + 1) (fun _ => True) u6 (List.replicate C.length (List.replicate m 0))) :
    ∃ L : Lay, g = L.g ∧ w.heap.size ≤ L.lo ∧ L.hi = W.heap.size ∧ MSt L W (St.raw ⟨P, C, it, 0, 0, List.replicate P.length (-1)⟩ m) := by
  obtain ⟨gS, cS, rfl, hgS, _, cellsS, hblS⟩ := Kd.S_form hS (by simp; omega)
  obtain ⟨gC, cC', e6, hgC, _, cellsC, hblC⟩ := Kd.S_form h.pC (by omega)
  injection e6 with e1 e2 e3
  subst e1
  have hlt := h.lt
  have hN := h.pN
  have hlo := h.lo
  refine ⟨⟨w.heap.size, W.heap.size, g, N, g + 1, AP, cP, gC, c6, A7, c7, gS, cS, gK, C.length⟩, rfl, Nat.le_refl _, rfl, h.lo, h.lt, ?_, ?_, ?_, ?_, ?_, ?_⟩
  · have h1 := h.obj
    show W.heap[g]? = some (.cells #[.slice AP P.length cP, .slice (some ⟨gC, 0, none⟩) C.length c6, .int .i64 it, .int .i64 (0 : Nat), .int .i64 (0 : Nat), .slice A7 (List.replicate P.length (-1 : Int)).length c7, .slice (some ⟨gS, 0, none⟩) (tab C.length m (sm P (List.replicate P.length (-1)) 0)).length cS, .slice (some ⟨gK, 0, none⟩) (vec C.length (cnt (List.replicate P.length (-1)) 0)).length C.length, .func (.func 39) #[.pointer (some ⟨g, 0, none⟩)] #[]] _ _)
    rw [tab_len, vec_len, List.length_replicate]
    rw [List.length_replicate] at h1
    exact h1
  · exact Kd.R_mono h.pP (fun k hk => ⟨hk.1, by show k < W.heap.size; have h2 : k < g := hk.2; omega⟩)
  · exact Kd.S_mono h.pC (fun k hk => ⟨hk.1, by show k < W.heap.size; have h2 : k < g := hk.2; omega⟩)
  · show (Kd.int .i64).R _ _ _ _ (.slice A7 (List.replicate P.length (-1 : Int)).length c7) _
    rw [List.length_replicate]
    exact Kd.R_mono h.pO (fun k (hk : k < g) => show k < W.heap.size by omega)
  · show Kd.S _ _ _ _ _ (.slice (some ⟨gS, 0, none⟩) (tab C.length m (sm P (List.replicate P.length (-1)) 0)).length cS) (tab C.length m (sm P (List.replicate P.length (-1)) 0))
    have e : tab C.length m (sm P (List.replicate P.length (-1)) 0) = List.replicate C.length (List.replicate m 0) := by
      apply List.ext_getElem
      · simp [tab]
      · intro i h1 h2
        simp only [tab, List.getElem_map, List.getElem_replicate]
        apply List.ext_getElem
        · simp
        · intro j h3 h4
          simp [sm, sumTo]
    rw [e]
    rw [List.length_replicate] at hS ⊢
    exact Kd.S_lower (Kd.S_mono (Kd.S_bound hS) (fun k hk => ⟨hk.2.1, hk.2.2.1⟩)) (by show w.heap.size ≤ g + 1; omega)
  · show (Kd.int .i64).R _ _ _ _ (.slice (some ⟨gK, 0, none⟩) (vec C.length (cnt (List.replicate P.length (-1)) 0)).length C.length) (vec C.length (cnt (List.replicate P.length (-1)) 0))
    rw [vec_len]
    have e : vec C.length (cnt (List.replicate P.length (-1)) 0) = List.replicate C.length 0 := by
      rw [vec_zero]
      rfl
    rw [e]
    exact Kd.R_mono h.pK (fun k (hk : k < g) => ⟨by show k < g + 1; omega, by show k < W.heap.size; omega⟩)
end
theorem one_C {W : World} {X t : Nat} (h : W.heap[X]? = some (.cells #[.int .i64 (-1)] t (0, 0))) : Kd.C (Kd.int .i64) W (some ⟨X, 0, none⟩) 1 [-1] :=
  C_of_cells rfl (by decide) (fun _ => ⟨_, rfl, fun j hj => by
    obtain rfl : j = 0 := by omega
    rw [add_plain]
    exact (blk_cell h 0).trans rfl⟩)
set_option maxRecDepth 100000 in
set_option maxHeartbeats 4000000 in
theorem New_ok (AP AC : Option Addr) (cP cC : Nat) (P C : List (List Int)) (it m : Nat) (w : World) (hrP : Kd.C (Kd.slice 21 (Kd.int .i32)) w AP P.length P) (hrC : Kd.C (Kd.slice 21 (Kd.int .i32)) w AC C.length C) (hcP : P.length ≤ cP) (hcC : C.length ≤ cC) (hP : P.length ≤ 1000) (hC : C.length ≤ 1000) (he : newE P C it = 0) (hm : (C.getD 0 []).length = m) (hVP : Mm.Val m P) (hVC : Mm.Val m C) (hm2 : m ≤ 1024) :
    Calls Try.prog 13 #[.slice AP P.length cP, .slice AC C.length cC, .int .i64 it] w fun e w' => ∃ L : Lay, e = .returned (.tuple #[.pointer (some ⟨L.g, 0, none⟩), .int .i64 0]) ∧ w.heap.size ≤ L.lo ∧ L.hi = w'.heap.size ∧ MSt L w' (St.raw ⟨P, C, it, 0, 0, List.replicate P.length (-1)⟩ m) ∧ Below w.heap.size w w' := by
  have hn : ¬ ((it : Int) < 1 ∨ (it : Int) > 64 ∨ C.length < 1 ∨ C.any (badV (C.getD 0 []).length) = true ∨ P.any (badV (C.getD 0 []).length) = true) := by
    intro h
    unfold newE at he
    rw [if_pos h] at he
    cases he
  rw [hm] at hn
  have h1 : ¬ (it : Int) < 1 := fun h => hn (Or.inl h)
  have h2 : ¬ (it : Int) > 64 := fun h => hn (Or.inr (Or.inl h))
  have h3 : ¬ C.length < 1 := fun h => hn (Or.inr (Or.inr (Or.inl h)))
  have h4 : C.any (badV m) = false := by cases h : C.any (badV m) with | false => rfl | true => exact absurd (Or.inr (Or.inr (Or.inr (Or.inl h)))) hn
  have h5 : P.any (badV m) = false := by cases h : P.any (badV m) with | false => rfl | true => exact absurd (Or.inr (Or.inr (Or.inr (Or.inr h)))) hn
  clear hn he
  have hd1 : decide ((it : Int) < 1) = false := decide_eq_false h1
  have hd2 : decide ((it : Int) > 64) = false := decide_eq_false h2
  have hd3 : decide ((C.length : Int) < 1) = false := decide_eq_false (by omega)
  have hd4 : decide ((C.length : Int) > 4096) = false := decide_eq_false (by omega)
  have hd5 : decide ((P.length : Int) > 16777216) = false := decide_eq_false (by omega)
  obtain ⟨aC, A0, c0, hAC, hx0, _, _⟩ := rows_get hrC 0 (by omega)
  subst hAC
  have HB0 := Aside0.mk ((Below.refl w.heap.size w).alloc (Nat.le_refl _) (.cells #[.slice (some aC) C.length cC] 22))
  have ha0 : aC.add 0 = aC := by simp [Addr.add]
  rw [ha0] at hx0
  rw [hm] at hx0
  have HX0 := Aside0.mk (fun Z (hZ : Below w.heap.size w Z) => pw_cell_below hZ hx0)
  have hcb := fun W (hW : Below w.heap.size w W) B (hb : W.cell? ⟨B, 0, none⟩ = some (.slice (some aC) C.length cC)) => And.intro (Cont_c (some aC) cC C B m (some aC) C.length cC aC A0 c0 W rfl (by omega) hb (pw_cell_below hW hx0) (Kd.C_below hrC hW) (by omega)) (Cont_c AP cP P B m (some aC) C.length cC aC A0 c0 W rfl (by omega) hb (pw_cell_below hW hx0) (Kd.C_below hrP hW) (by omega))
  rw [h4, h5] at hcb
  have HCo := Aside0.mk hcb
  obtain ⟨KP, hKP⟩ := (Mm.copied_is P (by omega) (fun j hj => by rw [hVP.len j hj]; exact hm2)).rounds
  obtain ⟨KC, hKC⟩ := (Mm.copied_is C (by omega) (fun j hj => by rw [hVC.len j hj]; exact hm2)).rounds
  have HCpP := Aside0.mk (fun W (hW : Below w.heap.size w W) => Mm.means_copied.calls KP AP cP P P W (Kd.C_below hrP hW) hcP hKP)
  have HCpC := Aside0.mk (fun W (hW : Below w.heap.size w W) => Mm.means_copied.calls KC (some aC) cC C C W (Kd.C_below hrC hW) hcC hKC)
  have HRep := Aside0.mk (fun W A c (hr : Kd.C (Kd.int .i64) W A 1 [-1]) => Repeat_m1 A c P.length (by omega) W hr)
  have hmk := print_make 53 2 .i64 8 Try.underlying53 info_i64 (by decide) C.length (by omega)
  clear hrP hrC h1 h2 h3 hcb hKP hKC hx0 h4 h5
  go_enter Try.func13, Try.ntmps13
  go_wp2
  generalize hW1 : World.alloc (World.alloc w _) _ = W1
  have HB1 : Aside0 (Below w.heap.size w W1) := ⟨by rw [← hW1]; exact below_alloc HB0.out _⟩
  have hs0 : (w.alloc (.cells #[.slice (some aC) C.length cC] 22)).heap.size = w.heap.size + 1 := by simp
  have hcB : W1.cell? ⟨w.heap.size, 0, none⟩ = some (.slice (some aC) C.length cC) := by rw [← hW1]; exact (blk_cell (blk_alloc (blk_new w _) _) 0).trans rfl
  have hca0 : W1.cell? ⟨w.heap.size + 1, 0, none⟩ = some (.slice (some aC) C.length cC) := by rw [← hW1, ← hs0]; exact (blk_cell (blk_new _ _) 0).trans rfl
  have hca1 : W1.cell? ⟨w.heap.size + 1, 1, none⟩ = some (.slice AP P.length cP) := by rw [← hW1, ← hs0]; exact (blk_cell (blk_new _ _) 1).trans rfl
  have HX := Aside0.mk (fun Z (hZ : Below W1.heap.size W1 Z) => And.intro (pw_cell_below hZ hcB) (And.intro (pw_cell_below hZ hca0) (pw_cell_below hZ hca1)))
  clear hW1 hs0 hcB hca0 hca1 HB0
  go_loopw [31] (fun v31 wr => ∃ i : Nat, i ≤ 2 ∧ v31 = .int .i64 i ∧ Aside0 (Below W1.heap.size W1 wr) ) (fun v31 _ => 2 - (intOf v31).toNat)
  case atStart => exact ⟨0, by omega, rfl, ⟨Below.refl _ _⟩⟩
  case round =>
    obtain ⟨i, hi, rfl, HB⟩ := hrel
    obtain ⟨hcB, hca0, hca1⟩ := HX.out wr HB.out
    obtain ⟨hC1, hC2⟩ := HCo.out wr (below_then HB1.out HB1.out.size HB.out) w.heap.size hcB
    have HC1 := Aside0.mk hC1
    have HC2 := Aside0.mk hC2
    have HBw := Aside0.mk (fun Z (hZ : Below wr.heap.size wr Z) => And.intro (bcomp HB.out hZ) (below_then HB1.out HB1.out.size (bcomp HB.out hZ)))
    clear hC1 hC2
    rcases (show i = 0 ∨ i = 1 ∨ i = 2 by omega) with rfl | rfl | rfl
    · go_wp2_with (go_at_call 34; ((with_reducible refine HC1.out.mono ?_); rintro e w' ⟨rfl, hb'⟩; have HB' := Aside0.mk hb'; clear hb'))
      go_roundw
      case rel => exact ⟨1, by omega, rfl, ⟨(HBw.out _ HB'.out).1⟩⟩
      case measure => simp [intOf]
    · go_wp2_with (go_at_call 34; ((with_reducible refine HC2.out.mono ?_); rintro e w' ⟨rfl, hb'⟩; have HB' := Aside0.mk hb'; clear hb'))
      go_roundw
      case rel => exact ⟨2, by omega, rfl, ⟨(HBw.out _ HB'.out).1⟩⟩
      case measure => simp [intOf]
    · have HBr := Aside0.mk (below_then HB1.out HB1.out.size HB.out)
      have hx0 := HX0.out wr HBr.out
      clear HC1 HC2 HCo HBw HX HB HB1 hca0 hca1
      rw [show (((2 : Nat) : Int)) = (2 : Int) from rfl]
      go_wp2
      go_cut [10] from 42 to 56 (fun v10 W => ∃ g N gK A5 c5 A6 c6 A7 c7, v10 = .pointer (some ⟨g, 0, none⟩) ∧ Aside0 (NSt w aC cC P C it W g N gK A5 c5 A6 c6 A7 c7 (.slice none 0 0) .nilFunc))
      case first =>
       have HCk := Aside0.mk (show C.length ≤ 1000000 by omega)
       clear hd1 hd2 hd3 hd4 hd5 hP hC hm hVP hVC hm2 HX0 ha0 hcP hcC
       go_region_held3 (fun Z => Z.cell? ⟨w.heap.size, 0, none⟩ = some (.slice (some aC) C.length cC)) (repeat (first | with_reducible exact hcB | with_reducible exact hcB5 | with_reducible exact hcB6 | with_reducible exact hcB7 | with_reducible apply cell_al | with_reducible apply cell_dn | with_reducible apply cell_d1)) (first | (go_at_call 37; ((with_reducible refine (HCpP.out _ (by repeat (first | with_reducible exact HBr.out | with_reducible exact HBw5.out | with_reducible exact HBw6.out | with_reducible exact HBw7.out | with_reducible apply below_alloc | with_reducible apply pw_below_drewN | with_reducible apply below_drew))).mono ?_); rintro e w5 ⟨v5, rfl, hS5, hb5⟩; have HBw5 := Aside0.mk (below_step (by repeat (first | with_reducible exact HBr.out | with_reducible exact HBw5.out | with_reducible exact HBw6.out | with_reducible exact HBw7.out | with_reducible apply below_alloc | with_reducible apply pw_below_drewN | with_reducible apply below_drew)) hb5); obtain ⟨A5, c5, rfl⟩ := Kd.S_slice hS5; have HP5 := Aside0.mk (Kd.R_lower (Kd.R_mono (Kd.R_bound (Kd.S_R hS5)) (fun k hk => hk.2.2.1)) (Below.size (by repeat (first | with_reducible exact HBr.out | with_reducible exact HBw5.out | with_reducible exact HBw6.out | with_reducible exact HBw7.out | with_reducible apply below_alloc | with_reducible apply pw_below_drewN | with_reducible apply below_drew)))); have hcB5 := pw_cell_below hb5 (show World.cell? _ ⟨w.heap.size, 0, none⟩ = some (.slice (some aC) C.length cC) from by repeat (first | with_reducible exact hcB | with_reducible apply cell_al | with_reducible apply cell_dn | with_reducible apply cell_d1)); have HB5 := Aside0.mk hb5; clear hS5 hb5)) | (go_at_call 37; ((with_reducible refine (HCpC.out _ (by repeat (first | with_reducible exact HBr.out | with_reducible exact HBw5.out | with_reducible exact HBw6.out | with_reducible exact HBw7.out | with_reducible apply below_alloc | with_reducible apply pw_below_drewN | with_reducible apply below_drew))).mono ?_); rintro e w6 ⟨v6, rfl, hS6, hb6⟩; have HBw6 := Aside0.mk (below_step (by repeat (first | with_reducible exact HBr.out | with_reducible exact HBw5.out | with_reducible exact HBw6.out | with_reducible exact HBw7.out | with_reducible apply below_alloc | with_reducible apply pw_below_drewN | with_reducible apply below_drew)) hb6); obtain ⟨A6, c6, rfl⟩ := Kd.S_slice hS6; obtain ⟨N6, hP6, hC6, hN6⟩ := after_C HP5.out (by repeat (first | with_reducible exact Below.refl _ _ | with_reducible apply below_alloc | with_reducible apply pw_below_drewN | with_reducible apply below_drew)) hb6 hS6 (Below.size (by repeat (first | with_reducible exact HBr.out | with_reducible exact HBw5.out | with_reducible exact HBw6.out | with_reducible exact HBw7.out | with_reducible apply below_alloc | with_reducible apply pw_below_drewN | with_reducible apply below_drew))); have HP6 := Aside0.mk hP6; have HC6 := Aside0.mk hC6; have HN6 := Aside0.mk hN6; clear hP6 hC6 hN6; have hcB6 := pw_cell_below hb6 (show World.cell? _ ⟨w.heap.size, 0, none⟩ = some (.slice (some aC) C.length cC) from by repeat (first | with_reducible exact hcB5 | with_reducible apply cell_al | with_reducible apply cell_dn | with_reducible apply cell_d1)); have HB6 := Aside0.mk hb6; clear hS6 hb6)) | (go_at_call 38; ((with_reducible refine (HRep.out _ _ _ ?hr1).mono ?_); (case hr1 => exact one_C (by repeat (first | with_reducible exact blk_newE _ (by first | rfl | (simp; done)) | with_reducible apply blk_alloc | with_reducible apply blk_drewN | with_reducible apply blk_drew | with_reducible refine blk_below ?_ HB7.out | with_reducible refine blk_below ?_ HB6.out | with_reducible refine blk_below ?_ HB5.out))); rintro e w7 ⟨v7, rfl, hS7, hb7⟩; have HBw7 := Aside0.mk (below_step (by repeat (first | with_reducible exact HBr.out | with_reducible exact HBw5.out | with_reducible exact HBw6.out | with_reducible exact HBw7.out | with_reducible apply below_alloc | with_reducible apply pw_below_drewN | with_reducible apply below_drew)) hb7); obtain ⟨A7, c7, e7⟩ := Kd.R_slice hS7; rw [List.length_replicate] at e7; subst e7; have HS7 := Aside0.mk hS7; have hcB7 := pw_cell_below hb7 (show World.cell? _ ⟨w.heap.size, 0, none⟩ = some (.slice (some aC) C.length cC) from by repeat (first | with_reducible exact hcB6 | with_reducible apply cell_al | with_reducible apply cell_dn | with_reducible apply cell_d1)); have HB7 := Aside0.mk hb7; clear hS7 hb7)))
       all_goals (
        go_wp2_with fail
        go_meet
        have HF7 := after_R HP6.out HC6.out HN6.out (by repeat (first | with_reducible exact Below.refl _ _ | with_reducible apply below_alloc | with_reducible apply pw_below_drewN | with_reducible apply below_drew)) HB7.out HS7.out (Below.size (by repeat (first | with_reducible exact HBr.out | with_reducible exact HBw5.out | with_reducible exact HBw6.out | with_reducible exact HBw7.out | with_reducible apply below_alloc | with_reducible apply pw_below_drewN | with_reducible apply below_drew)))
        refine fin_ex HF7.1 HF7.2.1 HF7.2.2.1 HF7.2.2.2 ?fa ?fb ?fc HCk.out ?fd ?fe ?ff
        case fa => (repeat (first | with_reducible exact Below.refl _ _ | with_reducible apply below_alloc | with_reducible apply pw_below_drewN | with_reducible apply below_drew))
        case fb => (repeat (first | with_reducible exact blk_newE _ (by first | rfl | (simp; done)) | with_reducible apply blk_alloc | with_reducible apply blk_drewN | with_reducible apply blk_drew | with_reducible refine blk_below ?_ HB7.out | with_reducible refine blk_below ?_ HB6.out | with_reducible refine blk_below ?_ HB5.out))
        case fc => first | exact HBr.out.size | exact HBw5.out.size | exact HBw6.out.size | exact HBw7.out.size | exact Nat.le_succ_of_le HBr.out.size | exact Nat.le_succ_of_le HBw5.out.size | exact Nat.le_succ_of_le HBw6.out.size
        case fd => (repeat (first | with_reducible exact hcB7 | with_reducible apply cell_al | with_reducible apply cell_dn | with_reducible apply cell_d1))
        case fe => (repeat (first | with_reducible exact HBr.out | with_reducible exact HBw5.out | with_reducible exact HBw6.out | with_reducible exact HBw7.out | with_reducible apply below_alloc | with_reducible apply pw_below_drewN | with_reducible apply below_drew))
        case ff => first | rfl | (simp; done))
      case rest =>
       obtain ⟨g, N, gK, A5, c5, A6, c6, A7, c7, rfl, HNs⟩ := hcut
       have hcB' := HNs.out.box
       have HG := Aside0.mk (And.intro hm (And.intro (show 1 ≤ C.length by simp at hd3; omega) (And.intro hm2 hC)))
       clear HCpP HCpC HRep hmk hd1 hd2 hd3 hd4 hd5 hcB hx0 HBr
       go_wp2
       go_loopw [58] (fun v58 wr => ∃ (i : Nat) (vS : Value), i ≤ C.length ∧ v58 = .int .i64 i ∧ Aside0 (NSt w aC cC P C it wr g N gK A5 c5 A6 c6 A7 c7 vS .nilFunc) ∧ Aside0 (Kd.S sumsK 53 wr (g + 1) (fun _ => True) vS (List.replicate i (List.replicate m 0)))) (fun v58 _ => C.length - (intOf v58).toNat)
       case atStart => exact ⟨0, .slice none 0 0, Nat.zero_le _, rfl, HNs, ⟨Kd.S_nil _ _ _ _ _⟩⟩
       case round =>
        clear HNs hcB'
        obtain ⟨i, vS, hi, rfl, HNs, HSu⟩ := hrel
        have hcB := HNs.out.box
        have hx0 := HX0.out wr HNs.out.bel
        have hc6 : wr.cell? ⟨g, 6, none⟩ = some vS := (blk_cell HNs.out.obj 6).trans rfl
        have hf6 := blk_frozen HNs.out.obj 6
        have hf8 := blk_frozen HNs.out.obj 8
        have hc8 : wr.cell? ⟨g, 8, none⟩ = some .nilFunc := (blk_cell HNs.out.obj 8).trans rfl
        by_cases hlt : i < C.length
        · have hm2' := HG.out.2.2.1
          have hsd : (wr.drew.alloc (.cells (madeCells #[.int .i64 0] m) 2)).heap.size = wr.drew.heap.size + 1 := by simp
          have hwd : wr.drew.heap.size = wr.heap.size := rfl
          have hlg := HNs.out.lt
          have hg0 : 0 < C.length := by omega
          rw [hwd] at hsd
          have HZ := Aside0.mk (zero_row (W := wr.drew) (b := g + 1) (m := m) (by omega) (by rw [hwd]; omega))
          have HSd := Aside0.mk (Kd.S_mono (ok' := fun k => True ∧ ¬ k = wr.heap.size) (Kd.S_alloc (Kd.S_drew (Kd.S_bound HSu.out)) (.cells (madeCells #[.int .i64 0] m) 2)) (fun k hk => ⟨trivial, fun he => by have h3 := hk.2.2.1; omega⟩))
          have HNd := Aside0.mk (fun W1 (hW : Below (g + 1) (wr.drew.alloc (.cells (madeCells #[.int .i64 0] m) 2)) W1) => HNs.out.up ((((Below.refl (g + 1) wr).drew).alloc (by rw [hwd]; omega) (.cells (madeCells #[.int .i64 0] m) 2)).trans hW))
          have HE := Aside0.mk (show List.replicate i (List.replicate m (0 : Int)) ++ [List.replicate m 0] = List.replicate (i + 1) (List.replicate m 0) by rw [List.replicate_succ'])
          have hmk := print_make 53 2 .i64 8 Try.underlying53 info_i64 (by decide) m (by omega)
          have HOk := Aside0.mk (show ∀ k, k = wr.heap.size → True ∧ some k ≠ vS.ownBlock from fun k hk => ⟨trivial, fun he => by have := Kd.S_lt HSu.out k he.symm; omega⟩)
          have HLe := Aside0.mk (show g + 1 ≤ (wr.drew.alloc (.cells (madeCells #[.int .i64 0] m) 2)).heap.size by rw [hsd]; omega)
          have HBB := Aside0.mk (Below.refl (g + 1) (wr.drew.alloc (.cells (madeCells #[.int .i64 0] m) 2)))
          have HLim := Aside0.mk (show ((List.replicate i (List.replicate m (0 : Int))).length + 1) * 24 ≤ 140737488355328 by rw [List.length_replicate]; have := HG.out.2.2.2; omega)
          clear hsd hwd
          go_wp2
          go_region_law (refine Kd.S_append_step sumsK (w0 := wr.drew.alloc (.cells (madeCells #[.int .i64 0] m) 2)) (g + 1) (by rfl) (.tmp 64) (.tmp 70) 52 53 (.slice none 0 0) 24 rfl Try.underlying52 info_sl64 rfl (by decide) (by omega) vS (List.replicate i (List.replicate m 0)) (List.replicate m 0) [.slice (some ⟨wr.heap.size, 0, none⟩) m m] (fun _ => True) (fun k => k = wr.heap.size) (by simp [Act.eval, Act.put]) (by simp [Act.eval, Act.put]) HZ.out HOk.out (fun _ _ => trivial) HSd.out HBB.out HLe.out HLim.out ?_; intro v1 w1 hS1 hb1 hg1 hat1; rw [HE.out] at hS1; obtain ⟨A1, c1, e1⟩ := Kd.S_slice hS1; rw [List.length_replicate] at e1; subst e1; have HS1 := Aside0.mk hS1; have HB1 := Aside0.mk hb1; have hc61 : w1.cell? ⟨g, 6, none⟩ = some vS := (cell_heap_eq (hb1.block g (by omega))).trans (cell_al (cell_d1 hc6) _); have hf61 : w1.frozen? ⟨g, 6, none⟩ = false := (frozen_heap_eq (hb1.block g (by omega))).trans (fz_al hlg hf6 _); clear hS1 hb1 hg1 hat1)
          all_goals (
            have hN1 := HNd.out w1 HB1.out
            have HR := Aside0.mk (And.intro (hN1.set6 (.slice A1 (i + 1) c1)) (Kd.S_set HS1.out hN1.obj (by decide) 6 (.slice A1 (i + 1) c1)))
            clear hN1
            go_wp2
            go_roundw
            case rel => first | exact ⟨i + 1, .slice A1 (i + 1) c1, by omega, by go_num, ⟨HR.out.1⟩, ⟨HR.out.2⟩⟩ | exact ⟨.slice A1 (i + 1) c1, i + 1, by omega, by go_num, ⟨HR.out.1⟩, ⟨HR.out.2⟩⟩ | done
            case measure => simp [intOf]; omega)
        · obtain rfl : i = C.length := by omega
          have hst : (store ⟨g, 8, none⟩ (.func (.func 39) #[.pointer (some ⟨g, 0, none⟩)] #[])).run Try.prog wr = .ok () (wr.setCell ⟨g, 8, none⟩ (.func (.func 39) #[.pointer (some ⟨g, 0, none⟩)] #[])) := by
            rw [run_store _ _ _ _ _ rfl]
            simp [stored, hc8, hf8]
          have HD := Aside0.mk ((HNs.out.set8 (.func (.func 39) #[.pointer (some ⟨g, 0, none⟩)] #[])).done HG.out.2.1 (Kd.S_set HSu.out HNs.out.obj (by decide) 8 _))
          have HBl := Aside0.mk (HNs.out.set8 (.func (.func 39) #[.pointer (some ⟨g, 0, none⟩)] #[])).bel
          go_wp2
          go_ret2
          obtain ⟨L, rfl, h1, h2, h3⟩ := HD.out
          exact ⟨L, rfl, h1, h2, h3, HBl.out⟩
end Go.Proofs.Ytcgpkfpfpjclkaa.G
