/- Strings' bytes, ranges over a map that leave no choice: simulated. -/
import Derived.Test.YtfleloeadbdbcaaGreatAbO2
import Derived.Lib.ConvBytes
namespace Go.Ab
open Go.RowKit
section
variable {P : Program} {m : Inj} {base : Nat} {h : Heap} {w : World}
theorem Sim.more (hs : Sim m base h w) {w' : World} (ho : ∀ k, k < w.heap.size → w'.heap[k]? = w.heap[k]?) (hz : w.heap.size ≤ w'.heap.size) : Sim m base h w' := by
  refine ⟨fun n b e1 e2 => ?_, hs.sole, fun n x e1 hx => ?_, hs.objOne, fun n i e1 => by have := hs.dom n i e1; omega, by have := hs.room; omega⟩
  · obtain ⟨i, C, e, fz, hk⟩ := hs.lay n b e1 e2
    exact ⟨i, C, e, fz, hk.img, hk.size, hk.esz, hk.tot, by rw [ho _ (heap_lt hk.row)]; exact hk.row, hk.fits, hk.new, hk.old, hk.cell⟩
  · obtain ⟨i, o', g1, g2, g3, g4⟩ := hs.objs n x e1 hx
    exact ⟨i, o', g1, g2, by rw [ho _ (heap_lt g3)]; exact g3, g4⟩
theorem textOf_some {s d : TypeId} {x : Value} {e : TypeId} {bs : List Value} (h : textOf P s d x = some (e, bs)) :
    ∃ b u, x = .string b ∧ P.underlying d = some (.slice e) ∧ P.underlying e = some (.int .u8) ∧ P.underlying s = some u ∧ bs = b.data.toList.map fun x => .int .u8 (.ofNat x.toNat) := by
  unfold textOf at h
  split at h
  · next e' b hd =>
    split at h
    · next u he hs =>
      simp only [Option.some.injEq, Prod.mk.injEq] at h
      obtain ⟨rfl, rfl⟩ := h
      exact ⟨b, u, rfl, hd, he, hs, rfl⟩
    · cases h
  · cases h
theorem text_sim (hs : Sim m base h w) {s d : TypeId} {b : ByteArray} {e : TypeId} {u : TypeDesc} {v : Value} {c : Nat} {lg : Log} {c2 : Nat} {h2 : Heap} {lg2 : Log} (hd : P.underlying d = some (.slice e)) (he : P.underlying e = some (.int .u8)) (hss : P.underlying s = some u)
    (hr : run (textT e (b.data.toList.map fun x => .int .u8 (.ofNat x.toNat))) c h lg = .ok v c2 h2 lg2) (hc : m c = none) : Leaves1 m base w c c2 h2 v ((convert s d (.string b)).run P w) := by
  generalize hbs : (b.data.toList.map fun x => Value.int .u8 (.ofNat x.toNat)) = bs at hr
  have hlen : bs.length = b.size := by subst hbs; simp
  obtain ⟨n, c1, h1, lg1, e1, e2⟩ := run_bind_inv hr
  obtain ⟨rfl, rfl, rfl⟩ := run_fresh_inv e1
  obtain ⟨_, c3, h3, lg3, e3, e4⟩ := run_bind_inv e2
  obtain ⟨rfl, rfl⟩ := run_put_inv e3
  obtain ⟨_, c4, h4, lg4, e5, e6⟩ := run_bind_inv e4
  obtain ⟨rfl, hl⟩ := run_putVals_inv e5
  obtain ⟨rfl, rfl, rfl, _⟩ := run_ret_inv e6
  have hw0 : (Lib.bytesWorld w e b).heap.size = w.heap.size + 1 := Lib.bytesWorld_size w e b
  have hgc : b.size ≤ grownCap w b.size 0 e := Nat.le_add_right _ _
  have hsz : (Lib.bytesCells w e b).size = grownCap w b.size 0 e := by simp [Lib.bytesCells]; omega
  have hadd := (hs.more (w' := Lib.bytesWorld w e b) (fun k hk => Lib.bytesWorld_at_old w e b k hk) (by omega)).add hc (i0 := ⟨w.heap.size, 0, bs.length, 1, (Lib.bytesCells w e b).size⟩) (.inr rfl) (fun q => by cases q) rfl rfl rfl rfl hl (Lib.bytesWorld_at_new w e b) (by simp only; omega) hs.room (fun k v hk => by
      refine ⟨v, ?_, ?_⟩
      · subst hbs
        have hk' : k < b.data.size := by
          rcases Nat.lt_or_ge k b.data.size with q | q
          · exact q
          · rw [List.getElem?_eq_none (by simpa using q)] at hk; cases hk
        rw [← hk]
        have hk2 : k < b.size := hk'
        simp [Lib.bytesCells, Array.getElem?_append, hk2, List.getElem?_map]
      · subst hbs
        rw [List.getElem?_map] at hk
        cases hq : b.data.toList[k]? with
        | none => rw [hq] at hk; cases hk
        | some y => rw [hq] at hk; simp only [Option.map_some, Option.some.injEq] at hk; subst hk; exact .int _ _)
    (fun n2 b2 i2 f1 f2 f3 f4 => by have h6 := hs.dom n2 i2 f3; have h5 : i2.blk = w.heap.size := f4; omega)
  refine ⟨_, _, _, Lib.run_convert_string_bytes w s d e b hss hd he, ?_, hadd, ⟨upd_le hc _, fun n j hn => (upd_inv hn).elim (fun q => .inr (.inl (by rw [q.2]; exact Nat.le_refl _))) fun q => .inl q.2, rfl, rfl, rfl, by omega, fun k hk _ => Lib.bytesWorld_at_old w e b k hk⟩, upd_names _ _ _⟩
  rw [hlen]
  exact VRel.sl (n := c) (o := 0) (upd_self m c _) (.inr ⟨hgc, by simp [hlen], by simp [hsz]⟩) (Nat.le_refl _)
theorem mapRange_sim (hs : Sim m base h w) {t : TypeId} {x x' : Value} {v : Value} {c : Nat} {lg : Log} {c2 : Nat} {h2 : Heap} {lg2 : Log} (hr : run (rangeT P t x) c h lg = .ok v c2 h2 lg2) (hx : VRel m x x') (hc : m c = none) :
    Leaves1 m base w c c2 h2 v ((Instr.range t x').run P w) := by
  unfold rangeT at hr
  split at hr
  · next kt et hu =>
    cases hx
    obtain ⟨n, c1, h1, lg1, e1, e2⟩ := run_bind_inv hr
    obtain ⟨rfl, rfl, rfl⟩ := run_fresh_inv e1
    obtain ⟨_, c3, h3, lg3, e3, e4⟩ := run_bind_inv e2
    obtain ⟨rfl, rfl⟩ := run_put_inv e3
    obtain ⟨rfl, rfl, rfl, _⟩ := run_ret_inv e4
    obtain ⟨g1, g2, g3⟩ := hs.addObj hc (x := .iter none 0 #[] 0) (o := .mapIter none 0 #[] 0) rfl (.iterNil _ _ _)
    refine ⟨_, _, _, ?_, VRel.ptr (o := 0) (upd_self m c ⟨w.heap.size, 0, 0, 0, 0⟩), g1, g2, g3⟩
    unfold Instr.range
    simp only [Sem.run_bind, run_underlying hu, Result.andThen_ok, Sem.run_pure]
    rfl
  · next kt et r hu =>
    cases hx with
    | @map _ i hi =>
    obtain ⟨p, c0, h0, lg0, e0, e1'⟩ := run_bind_inv hr
    obtain ⟨rfl, rfl, hcell, es', hb, hms⟩ := mapAt_sim hs hi e0
    obtain ⟨n, c1, h1, lg1, e1, e2⟩ := run_bind_inv e1'
    obtain ⟨rfl, rfl, rfl⟩ := run_fresh_inv e1
    obtain ⟨_, c3, h3, lg3, e3, e4⟩ := run_bind_inv e2
    obtain ⟨rfl, rfl⟩ := run_put_inv e3
    obtain ⟨rfl, rfl, rfl, _⟩ := run_ret_inv e4
    obtain ⟨g1, g2, g3⟩ := hs.addObj hc (x := .iter (some r) p.2 #[] p.2) (o := .mapIter (some i.blk) p.2 #[] p.2) rfl (.iter hi _ _ _)
    refine ⟨_, _, _, ?_, VRel.ptr (o := 0) (upd_self m c ⟨w.heap.size, 0, 0, 0, 0⟩), g1, g2, g3⟩
    unfold Instr.range
    simp only [Sem.run_bind, run_underlying hu, Result.andThen_ok, Sem.run_pure, run_getMap hb]
    rfl
  · cases hr
theorem hasNat_eq (n : Nat) : ∀ l : List Nat, hasNat n l = l.contains n
  | [] => rfl
  | x :: xs => by
    unfold hasNat
    rw [hasNat_eq n xs]
    by_cases q : x = n
    · subst q; simp
    · have : Nat.beq x n = false := by cases hb : Nat.beq x n with | false => rfl | true => exact absurd (Nat.eq_of_beq_eq_true hb) q
      rw [this]; simp [q, Ne.symm q]
theorem leftOf_rel {seen : List Nat} : ∀ {es es' : List MapEntry}, MsRel m es es' → MsRel m (leftOf seen es) (es'.filter fun e => !seen.contains e.born)
  | _, _, .nil => .nil
  | _, _, .cons (e := e) (e' := e') h hs => by
    unfold leftOf
    rw [List.filter_cons, h.born, ← hasNat_eq e.born seen]
    cases hasNat e.born seen with
    | true => exact leftOf_rel hs
    | false => exact .cons h (leftOf_rel hs)
theorem allOld_mem {since : Nat} : ∀ {es : List MapEntry}, allOld since es = true → ∀ e ∈ es, e.born < since
  | [], _, e, he => by cases he
  | x :: xs, h, e, he => by
    unfold allOld at h
    cases hb : Nat.blt x.born since with
    | false => rw [hb] at h; cases h
    | true =>
      rw [hb] at h
      rcases List.mem_cons.1 he with rfl | he
      · simpa [Nat.blt_eq] using hb
      · exact allOld_mem h e he
theorem MsRel.born_lt {since : Nat} : ∀ {es es' : List MapEntry}, MsRel m es es' → (∀ e ∈ es, e.born < since) → ∀ e ∈ es', e.born < since
  | _, _, .nil, _, e, he => by cases he
  | _, _, .cons h hs, hq, e, he => by
    rcases List.mem_cons.1 he with rfl | he
    · rw [h.born]; exact hq _ List.mem_cons_self
    · exact MsRel.born_lt hs (fun e he => hq e (List.mem_cons_of_mem _ he)) e he
theorem iter_at (hs : Sim m base h w) {r : Nat} {i : Img} (hi : m r = some i) {o : Option Nat} {a : Nat} {b : Array Nat} {d : Nat} (hr : h.at (r, 0) = some (.iter o a b d)) :
    i.del = 0 ∧ ((o = none ∧ w.heap[i.blk]? = some (.mapIter none a b d)) ∨ ∃ n j, o = some n ∧ m n = some j ∧ w.heap[i.blk]? = some (.mapIter (some j.blk) a b d)) := by
  obtain ⟨i', o', g1, g2, g3, g4⟩ := hs.objs r _ hr rfl
  obtain rfl : i' = i := by rw [hi] at g1; injection g1 with g1; exact g1.symm
  cases g4 with
  | iterNil => exact ⟨g2.2, .inl ⟨rfl, g3⟩⟩
  | iter h => exact ⟨g2.2, .inr ⟨_, _, rfl, h, g3⟩⟩
theorem run_getIter {b : Nat} {o : Option Nat} {a : Nat} {s : Array Nat} {d : Nat} (h : w.heap[b]? = some (.mapIter o a s d)) : (getObj b).run P w = .ok (.mapIter o a s d) w := by
  simp [getObj, Sem.run, h]
theorem run_setIter {b : Nat} {o : Option Nat} {a : Nat} {s : Array Nat} {d : Nat} {x : Obj} (h : w.heap[b]? = some (.mapIter o a s d)) : (Go.setObj b x).run P w = .ok () (setO w b x) := by
  simp [Go.setObj, Sem.run, h, setO]
theorem forced1 : (Question.mapNext 1).forced = true := rfl
theorem run_one : (choose (.mapNext 1)).run P w = .ok 0 w := by simp [choose, Sem.run, Question.forced]
theorem next_sim (hs : Sim m base h w) {t : TypeId} {x x' : Value} {st : Bool} {v : Value} {c : Nat} {lg : Log} {c2 : Nat} {h2 : Heap} {lg2 : Log} (hr : run (nextT x st) c h lg = .ok v c2 h2 lg2) (hx : VRel m x x') :
    Leaves1 m base w c c2 h2 v ((Instr.next x' st t).run P w) := by
  unfold nextT at hr
  split at hr
  · next r =>
    cases hx with
    | @ptr _ _ i hi =>
    obtain ⟨y, c1, h1, lg1, e1, e2⟩ := run_bind_inv hr
    obtain ⟨hy, rfl, rfl⟩ := run_get_inv e1
    split at e2
    · obtain ⟨rfl, rfl, rfl, _⟩ := run_ret_inv e2
      rcases iter_at hs hi hy with ⟨hz, ⟨_, hrow⟩ | ⟨n, j, q, _⟩⟩
      · refine ⟨.tuple #[.bool false], m, w, ?_, .tuple (.cons (.bool _) .nil), hs, .refl _ _ _, Names.refl _ _ _⟩
        rw [hz]
        unfold Instr.next
        simp only [Sem.run_bind, run_getIter hrow, Result.andThen_ok, Sem.run_pure]
      · cases q
    · next mm since seen last =>
      rcases iter_at hs hi hy with ⟨hz, ⟨q, _⟩ | ⟨n, j, q, hj, hrow⟩⟩
      · cases q
      injection q with q; subst q
      obtain ⟨p, c3, h3, lg3, e3, e4⟩ := run_bind_inv e2
      obtain ⟨rfl, rfl, hcell, es', hb, hms⟩ := mapAt_sim hs hj e3
      cases hck : (Nat.beq p.2 last && (Nat.beq p.2 since && allOld since p.1.toList)) with
      | false => rw [hck] at e4; cases e4
      | true =>
        rw [hck] at e4
        simp only [Bool.and_eq_true, Nat.beq_eq] at hck
        obtain ⟨k1, k2, k3⟩ := hck
        subst k1; subst k2
        have hold := hms.born_lt (allOld_mem k3)
        have hguard : (!seen.isEmpty && !es'.isEmpty && es'.all (·.born ≥ p.2)) = false := by
          cases hq : es'.toList with
          | nil =>
            have : es' = #[] := by apply Array.ext'; exact hq
            subst this; simp
          | cons e0 er =>
            have h0 := hold e0 (by rw [hq]; exact List.mem_cons_self)
            have : es'.all (fun x => decide (x.born ≥ p.2)) = false := by
              rw [← Array.all_toList, hq]
              simp only [List.all_cons, Bool.and_eq_false_iff, decide_eq_false_iff_not]
              exact .inl (by omega)
            rw [this]; simp
        have hl : (es'.filter fun e => !seen.contains e.born).toList = es'.toList.filter fun e => !seen.toList.contains e.born := by
          simp
        have hrel := leftOf_rel (seen := seen.toList) hms
        rw [← hl] at hrel
        generalize hL : (es'.filter fun e => !seen.contains e.born) = L at hrel
        have hLold : ∀ e ∈ L, e.born < p.2 := fun e he => by
          subst hL
          exact hold e (by simpa using (Array.mem_filter.1 he).1)
        have hf1 : L.filter (fun e => decide (e.born < p.2)) = L := by
          rw [Array.filter_eq_self]; exact fun e he => by simpa using hLold e he
        have hf2 : L.filter (fun e => decide (e.born ≥ p.2)) = #[] := by
          rw [Array.filter_eq_empty_iff]; exact fun e he => by have := hLold e he; simp; omega
        split at e4
        · next hq =>
          obtain ⟨rfl, rfl, rfl, _⟩ := run_ret_inv e4
          rw [hq] at hrel
          have hL0 : L = #[] := by
            apply Array.ext'
            cases hLl : L.toList with
            | nil => rfl
            | cons a b => rw [hLl] at hrel; cases hrel
          refine ⟨.tuple #[.bool false], m, w, ?_, .tuple (.cons (.bool _) .nil), hs, .refl _ _ _, Names.refl _ _ _⟩
          rw [hz]
          unfold Instr.next
          simp only [Sem.run_bind, run_getIter hrow, run_getMap hb, Result.andThen_ok, Sem.run_pure, hguard, hL, hf1, hf2]
          subst hL0
          simp [run_one, forced1]
        · next e hq =>
          obtain ⟨_, c4, h4, lg4, e5, e6⟩ := run_bind_inv e4
          obtain ⟨rfl, rfl⟩ := run_put_inv e5
          obtain ⟨rfl, rfl, rfl, _⟩ := run_ret_inv e6
          rw [hq] at hrel
          obtain ⟨e', hL0, he⟩ : ∃ e', L = #[e'] ∧ MRel m e e' := by
            cases hLl : L.toList with
            | nil => rw [hLl] at hrel; cases hrel
            | cons a b =>
              rw [hLl] at hrel
              cases hrel with
              | cons q1 q2 =>
                cases q2
                exact ⟨a, by apply Array.ext'; exact hLl, q1⟩
          have := hs.setObj (x' := .iter (some mm) p.2 ⟨seen.toList ++ [e.born]⟩ p.2) hy rfl hi rfl (o' := .mapIter (some j.blk) p.2 ⟨seen.toList ++ [e.born]⟩ p.2) (.iter hj _ _ _)
          refine ⟨.tuple #[.bool true, e'.key, e'.val], m, _, ?_, .tuple (.cons (.bool _) (.cons ?_ (.cons he.val .nil))), this.1, this.2, Names.refl _ _ _⟩
          · rw [hz]
            unfold Instr.next
            simp only [Sem.run_bind, run_getIter hrow, run_getMap hb, Result.andThen_ok, Sem.run_pure, hguard, hL, hf1, hf2]
            subst hL0
            have hpush : seen.push e'.born = ⟨seen.toList ++ [e.born]⟩ := by apply Array.ext'; simp [he.born]
            simp [run_one, forced1, run_setIter hrow, hpush]
          · rw [he.key]; exact flat_refl m he.flat
        · cases e4
    · cases e2
  · cases hr
theorem find_born {n : Nat} : ∀ {es es' : List MapEntry} {i k : Nat}, MsRel m es es' → bornAt n es i = some k → ∃ e e', es[k - i]? = some e ∧ i ≤ k ∧ es'.find? (fun e => e.born == n) = some e' ∧ MRel m e e'
  | _, _, i, k, .nil, h => by cases h
  | _, _, i, k, .cons (e := e) (e' := e') hr hs, h => by
    unfold bornAt at h
    cases hb : Nat.beq e.born n with
    | true =>
      rw [hb] at h
      simp only [cond_true, Option.some.injEq] at h
      subst h
      have := Nat.eq_of_beq_eq_true hb
      exact ⟨e, e', by simp, Nat.le_refl _, by simp [List.find?_cons, hr.born, this], hr⟩
    | false =>
      rw [hb] at h
      simp only [cond_false] at h
      obtain ⟨x, x', g1, g2, g3, g4⟩ := find_born hs h
      have hne : e.born ≠ n := Nat.ne_of_beq_eq_false hb
      refine ⟨x, x', ?_, by omega, ?_, g4⟩
      · rw [show k - i = (k - (i + 1)) + 1 by omega]; simpa using g1
      · rw [List.find?_cons, hr.born, show (e.born == n) = false by simpa using hne]; exact g3
theorem entry_sim (hs : Sim m base h w) {x x' : Value} {v : Value} {c : Nat} {lg : Log} {c2 : Nat} {h2 : Heap} {lg2 : Log} (hr : run (entryT x) c h lg = .ok v c2 h2 lg2) (hx : VRel m x x') :
    c = c2 ∧ h = h2 ∧ ∃ v', (Instr.entry x').run P w = .ok v' w ∧ VRel m v v' := by
  unfold entryT at hr
  split at hr
  · next r =>
    cases hx with
    | @ptr _ _ i hi =>
    obtain ⟨y, c1, h1, lg1, e1, e2⟩ := run_bind_inv hr
    obtain ⟨hy, rfl, rfl⟩ := run_get_inv e1
    split at e2
    · next mm since seen last =>
      rcases iter_at hs hi hy with ⟨hz, ⟨q, _⟩ | ⟨n, j, q, hj, hrow⟩⟩
      · cases q
      injection q with q; subst q
      obtain ⟨p, c3, h3, lg3, e3, e4⟩ := run_bind_inv e2
      obtain ⟨rfl, rfl, hcell, es', hb, hms⟩ := mapAt_sim hs hj e3
      split at e4
      · next stamp hst =>
        cases hck : Nat.beq p.2 last with
        | false => rw [hck] at e4; cases e4
        | true =>
          rw [hck] at e4
          have hk := Nat.eq_of_beq_eq_true hck
          subst hk
          simp only [cond_true] at e4
          split at e4
          · next k hk =>
            split at e4
            · next e hke =>
              obtain ⟨rfl, rfl, rfl, _⟩ := run_ret_inv e4
              obtain ⟨e1, e', g1, _, g2, g3⟩ := find_born hms hk
              obtain rfl : e1 = e := by rw [Nat.sub_zero] at g1; rw [g1] at hke; injection hke
              refine ⟨rfl, rfl, .tuple #[e'.key, e'.val], ?_, .tuple (.cons ?_ (.cons g3.val .nil))⟩
              · rw [hz]
                unfold Instr.entry
                have hback : seen.back? = some stamp := by rw [Array.back?_eq_getElem?]; rw [List.getLast?_eq_getElem?] at hst; simpa using hst
                have hfind : es'.find? (fun e => e.born == stamp) = some e' := by rw [← g2, Array.find?_toList]
                simp only [Sem.run_bind, run_getIter hrow, run_getMap hb, Result.andThen_ok, hback, Sem.run_pure, hfind]
                simp
              · rw [g3.key]; exact flat_refl m g3.flat
            · cases e4
          · cases e4
      · cases e4
    · cases e2
  · cases hr
end
end Go.Ab
