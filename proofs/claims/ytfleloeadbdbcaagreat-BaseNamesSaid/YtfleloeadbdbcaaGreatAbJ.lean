/- Values built, memory stored to and made, simulated. -/
import Derived.Test.YtfleloeadbdbcaaGreatAbI
import Derived.Laws.Tables
namespace Go.Ab
open Go.RowKit
theorem fold_splice : ∀ (vs : List Value) (k off : Nat) (cells : Array Value), off + k + vs.length ≤ cells.size →
    ((vs.zipIdx k).foldl (fun cs (p : Value × Nat) => cs.setIfInBounds (off + p.2) p.1) cells).toList = splice cells.toList (off + k) vs
  | [], k, off, cells, _ => by simp [splice]
  | v :: vs, k, off, cells, h => by
    simp only [List.zipIdx_cons, List.foldl_cons]
    rw [fold_splice vs (k + 1) off _ (by simp at h ⊢; omega)]
    have e := list_seg_step cells.toList (off + k) v vs (by simp at h ⊢; omega)
    simp only [splice, Array.toList_setIfInBounds]
    simpa [Nat.add_assoc] using e
theorem fill_sim {m : Inj} {place : Nat → Option (Nat × Nat)} : ∀ {parts parts' : List (Nat × Value)} {cells cs : List Value} {cells' : Array Value}, fillL place parts cells = some cs → LRel m cells cells'.toList →
    (∀ (k : Nat) (p : Nat × Value), parts[k]? = some p → ∃ v', parts'[k]? = some (p.1, v') ∧ VRel m p.2 v') → parts'.length = parts.length → ∃ cs', Instr.fill place cells' parts' = some cs' ∧ LRel m cs cs'.toList
  | [], parts', cells, cs, cells', hf, hc, hp, hl => by
    have : parts' = [] := by cases parts' with | nil => rfl | cons => simp at hl
    subst this
    simp only [fillL, Option.some.injEq] at hf
    subst hf
    exact ⟨cells', rfl, hc⟩
  | (i, v) :: rest, parts', cells, cs, cells', hf, hc, hp, hl => by
    obtain ⟨v', h1, h2⟩ := hp 0 (i, v) rfl
    cases parts' with
    | nil => simp at h1
    | cons q rest' =>
      simp at h1; subst h1
      simp only [fillL] at hf
      cases hpl : place i with
      | none => rw [hpl] at hf; cases hf
      | some os =>
        obtain ⟨off, size⟩ := os
        rw [hpl] at hf
        simp only at hf
        rcases bite_or hf with ⟨hb, hf⟩ | ⟨_, hf⟩
        · rw [Bool.and_eq_true, Nat.beq_eq, Nat.ble_eq] at hb
          obtain ⟨hb1, hb2⟩ := hb
          have hb2 : off + size ≤ cells.length := hb2
          have hcl := h2.cellsL
          have hsz : v'.cells.size = size := by have := hcl.length; rw [hb1] at this; simpa using this
          have hcs : cells'.size = cells.length := by have := hc.length; simpa using this
          have hspl : LRel m (splice cells off (cellsL v)) (splice cells'.toList off v'.cells.toList) := by
            unfold splice
            refine (hc.take off).append (hcl.append ?_)
            rw [hcl.length]; exact hc.drop _
          have hfold : (v'.cells.zipIdx.foldl (fun cs (p : Value × Nat) => cs.setIfInBounds (off + p.2) p.1) cells').toList = splice cells'.toList off v'.cells.toList := by
            have := fold_splice v'.cells.toList 0 off cells' (by simp; omega)
            rw [← Array.foldl_toList, Array.toList_zipIdx]; exact this
          obtain ⟨cs', g1, g2⟩ := fill_sim (parts' := rest') (cells' := v'.cells.zipIdx.foldl (fun cs (p : Value × Nat) => cs.setIfInBounds (off + p.2) p.1) cells') hf (hfold ▸ hspl) (fun k p hk => by simpa using hp (k + 1) p (by simpa using hk)) (by simpa using hl)
          refine ⟨cs', ?_, g2⟩
          simp only [Instr.fill, hpl]
          rw [if_neg (by simp [hsz]; omega)]
          exact g1
        · cases hf

section
variable {P : Program} {m : Inj} {base : Nat} {h : Heap} {w : World}
/-- The parts of a value, each with its own. -/
def PRel (m : Inj) (ps ps' : List (Nat × Value)) : Prop :=
  (∀ (k : Nat) (p : Nat × Value), ps[k]? = some p → ∃ v', ps'[k]? = some (p.1, v') ∧ VRel m p.2 v') ∧ ps'.length = ps.length
theorem flat_cells {z : Value} (hz : flat z = true) (m : Inj) : LRel m (cellsL z) z.cells.toList := (flat_refl m hz).cellsL
theorem build_sim {t : TypeId} {ps : List (Nat × Value)} {ps' : Array (Nat × Value)} {v : Value} (hb : buildL P t ps = some v) (hp : PRel m ps ps'.toList) :
    ∃ v', (Instr.build t ps').run P w = .ok v' w ∧ VRel m v v' := by
  unfold buildL at hb
  cases hz : zeroOf P t with
  | none => rw [hz] at hb; cases hb
  | some z =>
    rw [hz] at hb
    obtain ⟨⟨it, hi, hz0⟩, hf⟩ := zeroOf_some hz
    cases hu : P.underlying t with
    | none => rw [hu] at hb; cases hb
    | some d =>
      rw [hu] at hb
      cases d <;> (try (cases hb; done))
      case array n e =>
        simp only at hb
        cases hs : szOf P e with
        | none => rw [hs] at hb; cases hb
        | some s =>
          obtain ⟨ie, h1, h2⟩ := szOf_some hs
          rw [hs] at hb
          simp only [Option.map_eq_some_iff] at hb
          obtain ⟨cs, e1, rfl⟩ := hb
          obtain ⟨cs', e2, e3⟩ := fill_sim e1 (flat_cells hf m) hp.1 hp.2
          refine ⟨.agg cs', run_build w t ps' cs' ?_, .agg (by simpa using e3)⟩
          simp only [Program.built, hi, hu, hz0, h1, h2]
          exact e2
      case struct fields =>
        simp only at hb
        cases hpl : placesOf P fields with
        | none => rw [hpl] at hb; cases hb
        | some places =>
          rw [hpl] at hb
          simp only [Option.map_eq_some_iff] at hb
          obtain ⟨cs, e1, rfl⟩ := hb
          obtain ⟨cs', e2, e3⟩ := fill_sim e1 (flat_cells hf m) hp.1 hp.2
          refine ⟨.agg cs', run_build w t ps' cs' ?_, .agg (by simpa using e3)⟩
          unfold placesOf at hpl
          simp only [Program.built, hi, hu, hz0, hpl]
          simpa using e2
theorem part_sim {t : TypeId} {cs cs' : Array Value} {off : Nat} {v : Value} (hv : partL P t cs.toList off = some v) (hc : LRel m cs.toList cs'.toList) : ∃ v', (part t cs' off).run P w = .ok v' w ∧ VRel m v v' := by
  unfold partL at hv
  cases hg : isAgg' P t with
  | none => rw [hg] at hv; cases hv
  | some g =>
    rw [hg] at hv
    unfold part
    simp only [Sem.run_bind, run_isAgg hg, Result.andThen_ok]
    cases g with
    | false =>
      simp only at hv
      obtain ⟨v', h1, h2⟩ := hc.get hv
      refine ⟨v', ?_, h2⟩
      have h1' : cs'[off]? = some v' := by simpa using h1
      simp [h1']
    | true =>
      simp only at hv
      cases hs : szOf P t with
      | none => rw [hs] at hv; cases hv
      | some k =>
        rw [hs] at hv
        simp only [Option.some.injEq] at hv
        subst hv
        refine ⟨.agg (cs'.extract off (off + k)), by simp [run_sizeOf hs], .agg ?_⟩
        have : (cs'.extract off (off + k)).toList = (cs'.toList.drop off).take k := by
          simp [List.extract]
        rw [this]
        exact (hc.drop off).take k
theorem field_sim {t : TypeId} {x x' : Value} {f : Nat} {v : Value} (hv : fieldV P t x f = some v) (hx : VRel m x x') : ∃ v', (Instr.field t x' f).run P w = .ok v' w ∧ VRel m v v' := by
  unfold fieldV at hv
  split at hv
  · next cs =>
    cases hx with
    | agg hc =>
      split at hv
      · next fields hu =>
        cases hfd : fields[f]? with
        | none => rw [hfd] at hv; cases hv
        | some fd =>
          rw [hfd] at hv
          obtain ⟨v', h1, h2⟩ := part_sim (w := w) hv hc
          refine ⟨v', ?_, h2⟩
          unfold Instr.field
          simp only [Sem.run_bind, run_underlying hu, Result.andThen_ok, hfd, asAgg, Sem.run_pure]
          exact h1
      · cases hv
  · cases hv
theorem extract_sim {x x' : Value} {i : Nat} {v : Value} (hv : extractV x i = some v) (hx : VRel m x x') : ∃ v', (Instr.extract x' i).run P w = .ok v' w ∧ VRel m v v' := by
  unfold extractV at hv
  split at hv
  · cases hx with
    | tuple hc =>
      obtain ⟨v', h1, h2⟩ := hc.get hv
      refine ⟨v', ?_, h2⟩
      unfold Instr.extract
      rename_i a a'
      have h1' : a'[i]? = some v' := by simpa using h1
      simp [h1']
  · cases hv
theorem storeVar_sim (hs : Sim m base h w) {t b o : Nat} {v v' : Value} {u : Unit} {c : Nat} {lg : Log} {c2 : Nat} {h2 : Heap} {lg2 : Log} (hr : run (storeVarT P t b o v) c h lg = .ok u c2 h2 lg2) {i : Img} (hi : m b = some i) (hv : VRel m v v') :
    c = c2 ∧ ∃ w', (storeVar t ⟨i.blk, o + i.del, none⟩ v').run P w = .ok () w' ∧ Sim m base h2 w' ∧ Go1 m base w m w' := by
  unfold storeVarT at hr
  cases hz : szOf P t with
  | none => rw [hz] at hr; cases hr
  | some k =>
    rw [hz] at hr
    obtain ⟨hb, e1⟩ := run_whenT_inv hr
    rw [Nat.beq_eq] at hb
    have hcl := hv.cellsL
    have hsz : v'.cells.size = k := by have := hcl.length; rw [hb] at this; simpa using this
    have e2 : run (storeN b o (cellsL v)) c h lg = .ok u c2 h2 lg2 := by
      split at e1
      · next x hx => rw [hx]; exact run_store1_inv e1
      · exact e1
    obtain ⟨rfl, w', h1, h2, h3⟩ := storeCells_sim (P := P) hs e2 hi hcl
    refine ⟨rfl, w', ?_, h2, h3⟩
    unfold storeVar
    simp only [Sem.run_bind, run_sizeOf hz, Result.andThen_ok, hsz, ne_eq, not_true_eq_false, if_false]
    exact h1
/-- What one operation's run leaves. -/
def Leaves1 (m : Inj) (base : Nat) (w : World) (c c2 : Nat) (h2 : Heap) (v : Value) (r : Result Value) : Prop :=
  ∃ v' m' w', r = .ok v' w' ∧ VRel m' v v' ∧ Sim m' base h2 w' ∧ Go1 m base w m' w' ∧ Names m m' c c2
theorem run_newRow (e : TypeId) (cells : Array Value) : (newRow e cells).run P w = .ok ⟨w.heap.size, 0, none⟩ (w.alloc (.cells cells e)) := rfl
theorem newVar_sim (hs : Sim m base h w) {t : TypeId} {v v' : Value} {x : Value} {c : Nat} {lg : Log} {c2 : Nat} {h2 : Heap} {lg2 : Log} (hr : run (newVarT P t v) c h lg = .ok x c2 h2 lg2) (hc : m c = none) (hv : VRel m v v') :
    Leaves1 m base w c c2 h2 x ((do pure (.pointer (some (← newVar t v'))) : Sem Value).run P w) := by
  unfold newVarT at hr
  cases hz : szOf P t with
  | none => rw [hz] at hr; cases hr
  | some k =>
    rw [hz] at hr
    obtain ⟨n, c1, h1, lg1, e1, e2⟩ := run_bind_inv hr
    obtain ⟨rfl, rfl, rfl, _⟩ := run_ret_inv e2
    obtain ⟨rfl, rfl, g1, g2⟩ := hs.fresh (ex := []) e1 hc hv.cellsL t
    refine ⟨.pointer (some ⟨w.heap.size, 0, none⟩), _, _, ?_, VRel.ptr (n := c) (o := 0) (upd_self m c ⟨w.heap.size, 0, (cellsL v).length, k, (v'.cells.toList ++ []).length⟩), g1, g2, upd_names _ _ _⟩
    simp only [newVar, Sem.run_bind, run_newRow, Result.andThen_ok, Sem.run_pure, List.append_nil, Array.toArray_toList]
theorem rep_get (l : List Value) (hl : 0 < l.length) : ∀ (n j : Nat), (rep n l)[j]? = if j < n * l.length then l[j % l.length]? else none
  | 0, j => by simp [show rep 0 l = [] from rfl]
  | n + 1, j => by
    rw [show rep (n + 1) l = l ++ rep n l from rfl]
    by_cases hj : j < l.length
    · rw [List.getElem?_append_left hj, if_pos (by rw [Nat.succ_mul]; omega), Nat.mod_eq_of_lt hj]
    · rw [List.getElem?_append_right (by omega), rep_get l hl n, Nat.succ_mul]
      have h1 : (j - l.length) % l.length = j % l.length := by
        rw [← Nat.add_mod_right (j - l.length) l.length, Nat.sub_add_cancel (by omega)]
      rw [h1]
      by_cases h2 : j - l.length < n * l.length
      · rw [if_pos h2, if_pos (by omega)]
      · rw [if_neg h2, if_neg (by omega)]
theorem rep_length (l : List Value) : ∀ n, (rep n l).length = n * l.length
  | 0 => by simp [show rep 0 l = [] from rfl]
  | n + 1 => by rw [show rep (n + 1) l = l ++ rep n l from rfl, List.length_append, rep_length l n, Nat.succ_mul]; omega
theorem rep_zero (z : Array Value) (hz : 0 < z.size) (n : Nat) : (Array.range (n * z.size)).map (fun i => z[i % z.size]!) = (rep n z.toList).toArray := by
  apply Array.ext'
  simp only [Array.toList_map, Array.toList_range]
  apply List.ext_getElem?
  intro j
  rw [rep_get z.toList (by simpa using hz)]
  simp only [List.getElem?_map, Array.length_toList]
  by_cases hj : j < n * z.size
  · rw [if_pos hj, List.getElem?_range hj]
    have : j % z.size < z.size := Nat.mod_lt _ hz
    simp [this]
  · rw [if_neg hj, List.getElem?_eq_none (by simpa using hj)]; rfl
theorem makeSlice_sim (hs : Sim m base h w) {t : TypeId} {l k l' k' : Value} {x : Value} {c : Nat} {lg : Log} {c2 : Nat} {h2 : Heap} {lg2 : Log} (hr : run (makeSliceT P t l k) c h lg = .ok x c2 h2 lg2) (hc : m c = none) (hl : VRel m l l') (hk : VRel m k k') :
    Leaves1 m base w c c2 h2 x ((Instr.makeSlice t l' k').run P w) := by
  unfold makeSliceT at hr
  split at hr
  · next e l0 k0 he hl0 hk0 =>
    have hu := elemOfSlice_some he
    split at hr
    · next size bytes z hz hby hzz =>
      obtain ⟨hb, e1⟩ := run_whenT_inv hr
      simp only [Bool.and_eq_true, Nat.ble_eq, Nat.beq_eq] at hb
      obtain ⟨⟨⟨⟨b1, b2⟩, b3⟩, b4⟩, b5⟩ := hb
      obtain ⟨⟨it, hi, hz0⟩, hf⟩ := zeroOf_some hzz
      obtain ⟨it', hi', hby'⟩ := bytesOf_some hby
      have hzr := run_zeroValue (w := w) hzz
      have hszr := run_sizeOf (w := w) hz
      obtain ⟨n, c1, h1, lg1, e2, e3⟩ := run_bind_inv e1
      obtain ⟨rfl, rfl, rfl, _⟩ := run_ret_inv e3
      have hlen : z.cells.size = size := by rw [cellsL_eq] at b5; simpa using b5
      have hzf := flat_cells hf m
      rw [cellsL_eq] at hzf e2
      obtain ⟨rfl, rfl, g1, g2⟩ := hs.fresh (ex := []) e2 hc (LRel.rep hzf k0) e
      obtain ⟨kl, rfl⟩ : ∃ kl, l = .int kl (.ofNat l0) := by
        unfold natOf at hl0; split at hl0 <;> simp at hl0; subst hl0; exact ⟨_, rfl⟩
      obtain ⟨kk, rfl⟩ : ∃ kk, k = .int kk (.ofNat k0) := by
        unfold natOf at hk0; split at hk0 <;> simp at hk0; subst hk0; exact ⟨_, rfl⟩
      cases hl; cases hk
      have b2' : k0 * bytes ≤ 1099511627776 := b2
      have b3' : k0 ≤ 1099511627776 := b3
      have w1 : IntKind.i64.wrap (Int.ofNat l0) = (l0 : Int) := by rw [wrap_i64]; simp only [Int.ofNat_eq_natCast]; split <;> omega
      have w2 : IntKind.i64.wrap (Int.ofNat k0) = (k0 : Int) := by rw [wrap_i64]; simp only [Int.ofNat_eq_natCast]; split <;> omega
      refine ⟨.slice (some ⟨w.heap.size, 0, none⟩) l0 k0, _, _, ?_, VRel.sl (n := c) (o := 0) (upd_self m c _) (.inl rfl) b1, g1, g2, upd_names _ _ _⟩
      unfold Instr.makeSlice
      have t1 : ¬ ((bytes : Int) * (k0 : Int) > 2 ^ 48) := by
        have : (bytes : Int) * (k0 : Int) = ((k0 * bytes : Nat) : Int) := by rw [Int.natCast_mul, Int.mul_comm]
        rw [this]; omega
      have t3 : ¬ ((l0 : Int) > (k0 : Int)) := by omega
      have tz : z.cells.size ≠ 0 := by rw [hlen]; omega
      simp only [Sem.run_bind, run_underlying hu, Result.andThen_ok, asInt, asIntOf, Sem.run_pure, run_typeInfo hi', hby', w1, w2]
      rw [if_neg (by simp; omega)]
      simp only [run_askRoom, Result.andThen_ok, hszr, Sem.run_bind, Int.toNat_natCast]
      by_cases hn0 : k0 * size = 0
      · have : k0 = 0 := by rcases Nat.mul_eq_zero.1 hn0 with q | q <;> omega
        subst this
        have hr0 : ∀ f : Nat → Value, (Array.range 0).map f = #[] := fun f => by simp
        simp only [Nat.zero_mul, hr0, if_true, Sem.run_pure, Result.andThen_ok, Sem.run_bind, run_newRow, show rep 0 z.cells.toList = [] from rfl, List.append_nil]
      · simp only [hn0, if_false, hzr, Result.andThen_ok, Sem.run_bind, Sem.run_pure]
        have := rep_zero z.cells (by omega) k0
        rw [hlen] at this
        simp only [hlen, this, run_newRow, Result.andThen_ok, List.append_nil]
    · cases hr
  · cases hr
end
end Go.Ab
