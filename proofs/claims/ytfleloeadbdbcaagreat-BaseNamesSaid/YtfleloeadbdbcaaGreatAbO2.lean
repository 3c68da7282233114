/- Maps, simulated. -/
import Derived.Test.YtfleloeadbdbcaaGreatAbO
import Derived.MapKept
namespace Go.Ab
open Go.RowKit
section
variable {P : Program} {m : Inj} {base : Nat} {h : Heap} {w : World}
theorem mapOf_some {t : TypeId} {d : TypeDesc} {e : TypeId} (hm : mapOf P t = some (d, e)) : ∃ k, P.underlying t = some (.map k e) ∧ P.underlying k = some d ∧ keyD d = true := by
  unfold mapOf at hm
  split at hm
  · next k e' hu =>
    cases hk : P.underlying k with
    | none => rw [hk] at hm; cases hm
    | some d' =>
      rw [hk] at hm
      cases hd : keyD d' with
      | false => simp [hd] at hm
      | true => simp [hd] at hm; obtain ⟨rfl, rfl⟩ := hm; exact ⟨k, hu, hk, hd⟩
  · cases hm
theorem run_checkKey {b : Bool} {N : Nat} {t : TypeId} {d : TypeDesc} {v : Value} (ht : P.underlying t = some d) (hd : keyD d = true) : (Instr.checkKey b (N + 1) t v).run P w = .ok () w := by
  unfold Instr.checkKey
  simp only [Sem.run_bind, run_underlying ht, Result.andThen_ok]
  cases d <;> simp [keyD] at hd <;> rfl
theorem MsRel.findNow {d : TypeDesc} {k : Value} : ∀ {es es' : List MapEntry} {i : Nat}, MsRel m es es' →
    (∀ {j v}, Instr.findNow d k es i = some (some (j, v)) → ∃ v', Instr.findNow d k es' i = some (some (j, v')) ∧ VRel m v v') ∧ (Instr.findNow d k es i = some none → Instr.findNow d k es' i = some none)
  | _, _, i, .nil => ⟨fun h => by simp [Instr.findNow] at h, fun h => h⟩
  | _, _, i, .cons (e := e) (e' := e') h hs => by
    obtain ⟨g1, g2⟩ := MsRel.findNow (d := d) (k := k) (i := i + 1) hs
    simp only [Instr.findNow, h.key]
    cases Instr.sameNow d k e.key with
    | none => exact ⟨fun h => (by cases h), fun h => (by cases h)⟩
    | some b =>
      cases b with
      | true => exact ⟨fun {j v} hq => (by simp only [Option.some.injEq, Prod.mk.injEq] at hq; obtain ⟨rfl, rfl⟩ := hq; exact ⟨_, rfl, h.val⟩), fun h => (by cases h)⟩
      | false => exact ⟨g1, g2⟩
theorem findNow_key {d : TypeDesc} {k : Value} : ∀ {es : List MapEntry} {i j : Nat} {v : Value}, Instr.findNow d k es i = some (some (j, v)) → i ≤ j ∧ ∃ e, es[j - i]? = some e ∧ Instr.sameNow d k e.key = some true ∧ e.val = v
  | [], i, j, v, h => by simp [Instr.findNow] at h
  | e :: es, i, j, v, h => by
    simp only [Instr.findNow] at h
    cases hs : Instr.sameNow d k e.key with
    | none => rw [hs] at h; cases h
    | some b =>
      rw [hs] at h
      cases b with
      | true => simp only [Option.some.injEq, Prod.mk.injEq] at h; obtain ⟨rfl, rfl⟩ := h; exact ⟨Nat.le_refl _, e, by simp, hs, rfl⟩
      | false =>
        obtain ⟨g1, e', g2, g3, g4⟩ := findNow_key h
        refine ⟨by omega, e', ?_, g3, g4⟩
        rw [show j - i = (j - (i + 1)) + 1 by omega]; simpa using g2
theorem sameNow_bits {d : TypeDesc} {k k' : Value} (h : Instr.sameNow d k k' = some true) (N : Nat) : Instr.sameBits N k' k = true := by
  unfold Instr.sameNow at h
  split at h
  · split at h
    · next e => subst e; simp at h; subst h; simp [Instr.sameBits]
    · cases h
  · simp only [Option.some.injEq] at h; have h2 := (Go.MapKept.bytes_beq _ _).1 h; subst h2; unfold Instr.sameBits; exact h
  · simp at h; subst h; simp [Instr.sameBits]
  · cases h
theorem mapAt_sim (hs : Sim m base h w) {r : Nat} {i : Img} (hi : m r = some i) {p : Array MapEntry × Nat} {c : Nat} {lg : Log} {c2 : Nat} {h2 : Heap} {lg2 : Log} (hr : run (mapAt r) c h lg = .ok p c2 h2 lg2) :
    c = c2 ∧ h = h2 ∧ h.at (r, 0) = some (.map p.1 p.2) ∧ ∃ es', w.heap[i.blk]? = some (.map es' p.2) ∧ MsRel m p.1.toList es'.toList := by
  obtain ⟨x, c1, h1, lg1, e1, e2⟩ := run_bind_inv hr
  obtain ⟨hx, rfl, rfl⟩ := run_get_inv e1
  cases x with
  | map es k =>
    obtain ⟨rfl, rfl, rfl, _⟩ := run_ret_inv e2
    obtain ⟨i', o, g1, g2, g3, g4⟩ := hs.objs r _ hx rfl
    obtain rfl : i' = i := by rw [hi] at g1; injection g1 with g1; exact g1.symm
    cases g4 with
    | @map _ es' _ g4 => exact ⟨rfl, rfl, hx, es', g3, g4⟩
  | val v => cases e2
  | blk b => cases e2
  | loop l => cases e2
  | iter a b c d => cases e2
theorem run_getMap {b : Nat} {es : Array MapEntry} {k : Nat} (h : w.heap[b]? = some (.map es k)) : (getObj b).run P w = .ok (.map es k) w := by
  simp [getObj, Sem.run, h]
theorem run_setMap {b : Nat} {es : Array MapEntry} {k : Nat} {o : Obj} (h : w.heap[b]? = some (.map es k)) : (Go.setObj b o).run P w = .ok () (setO w b o) := by
  simp [Go.setObj, Sem.run, h, setO]
theorem okBool_rel {b : Bool} {v v' : Value} (hv : VRel m v v') (ok : Bool) : VRel m (okBool b v ok) (if b then .tuple #[v', .bool ok] else v') := by
  cases b with
  | true => exact .tuple (.cons hv (.cons (.bool _) .nil))
  | false => exact hv
theorem run_findKey {kt : TypeId} {d : TypeDesc} {k : Value} {es : List MapEntry} {r : Option (Nat × Value)} (hk : P.underlying kt = some d) (hr : Instr.findNow d k es 0 = some r) : (Instr.findKey kt k es).run P w = .ok r w := by
  unfold Instr.findKey
  simp only [Sem.run_bind, run_underlying hk, Result.andThen_ok, hr, Sem.run_pure]
theorem run_stays {old k : Value} {d : TypeDesc} (h : Instr.sameNow d k old = some true) : (Instr.keyThatStays old k).run P w = .ok k w := by
  unfold Instr.keyThatStays
  rw [if_pos (sameNow_bits h 10000)]
  rfl
theorem entries_sim (hs : Sim m base h w) {x x' : Value} {es : List MapEntry} {c : Nat} {lg : Log} {c2 : Nat} {h2 : Heap} {lg2 : Log} (hr : run (entriesT x) c h lg = .ok es c2 h2 lg2) (hx : VRel m x x') :
    c = c2 ∧ h = h2 ∧ ((x' = .map none ∧ es = []) ∨ ∃ b k, ∃ es' : Array MapEntry, x' = .map (some b) ∧ w.heap[b]? = some (.map es' k) ∧ MsRel m es es'.toList) := by
  unfold entriesT at hr
  split at hr
  · obtain ⟨rfl, rfl, rfl, _⟩ := run_ret_inv hr
    cases hx
    exact ⟨rfl, rfl, .inl ⟨rfl, rfl⟩⟩
  · next r =>
    obtain ⟨p, c3, h3, lg3, e4, e5⟩ := run_bind_inv hr
    obtain ⟨rfl, rfl, rfl, _⟩ := run_ret_inv e5
    cases hx with
    | @map _ i hi =>
      obtain ⟨rfl, rfl, g1, es', g2, g3⟩ := mapAt_sim hs hi e4
      exact ⟨rfl, rfl, .inr ⟨_, _, es', rfl, g2, g3⟩⟩
  · cases hr
theorem lookup_sim (hs : Sim m base h w) {t : TypeId} {x x' k k' : Value} {ok : Bool} {v : Value} {c : Nat} {lg : Log} {c2 : Nat} {h2 : Heap} {lg2 : Log} (hr : run (lookupT P t x k ok) c h lg = .ok v c2 h2 lg2) (hx : VRel m x x') (hk : VRel m k k') :
    c = c2 ∧ h = h2 ∧ ∃ v', (Instr.lookup t x' k' ok).run P w = .ok v' w ∧ VRel m v v' := by
  unfold lookupT at hr
  split at hr
  · next d e hm =>
    obtain ⟨kt, hu, huk, hd⟩ := mapOf_some hm
    obtain ⟨hf, e1⟩ := run_whenT_inv hr
    obtain rfl := flat_eq hf hk
    obtain ⟨es, c1, h1, lg1, e2, e3⟩ := run_bind_inv e1
    obtain ⟨rfl, rfl, hes⟩ := entries_sim hs e2 hx
    have hck : ∀ b, (Instr.checkKey b (9999 + 1) kt k').run P w = .ok () w := fun b => run_checkKey huk hd
    have hck : ∀ b, (Instr.checkKey b 10000 kt k').run P w = .ok () w := hck
    split at e3
    · next j u hfn =>
      obtain ⟨rfl, rfl, rfl, _⟩ := run_ret_inv e3
      rcases hes with ⟨rfl, rfl⟩ | ⟨b, kk, es', rfl, hb, hms⟩
      · simp [Instr.findNow] at hfn
      · obtain ⟨u', g1, g2⟩ := (MsRel.findNow (d := d) (k := k') (i := 0) hms).1 hfn
        refine ⟨rfl, rfl, _, ?_, okBool_rel g2 true⟩
        unfold Instr.lookup
        simp only [Sem.run_bind, run_underlying hu, Result.andThen_ok, run_getMap hb, hck, run_findKey huk g1, Sem.run_pure]
    · next hfn =>
      split at e3
      · next z hz =>
        obtain ⟨rfl, rfl, rfl, _⟩ := run_ret_inv e3
        refine ⟨rfl, rfl, _, ?_, okBool_rel (flat_refl m (zeroOf_some hz).2) false⟩
        rcases hes with ⟨rfl, rfl⟩ | ⟨b, kk, es', rfl, hb, hms⟩
        · unfold Instr.lookup
          have hfe : Instr.findNow d k' (#[] : Array MapEntry).toList 0 = some none := rfl
          simp only [Sem.run_bind, run_underlying hu, Result.andThen_ok, hck, run_findKey huk hfe, Sem.run_pure, run_zeroValue hz]
        · have g1 := (MsRel.findNow (d := d) (k := k') (i := 0) hms).2 hfn
          unfold Instr.lookup
          simp only [Sem.run_bind, run_underlying hu, Result.andThen_ok, run_getMap hb, hck, run_findKey huk g1, Sem.run_pure, run_zeroValue hz]
      · cases e3
    · cases e3
  · cases hr
theorem MsRel.length {es es' : List MapEntry} (h : MsRel m es es') : es.length = es'.length := by
  induction h with
  | nil => rfl
  | cons _ _ ih => simp [ih]
theorem MsRel.modify {f f' : MapEntry → MapEntry} (hf : ∀ e e', MRel m e e' → MRel m (f e) (f' e')) : ∀ {es es' : List MapEntry} {i : Nat}, MsRel m es es' → MsRel m (es.modify i f) (es'.modify i f')
  | _, _, i, .nil => by cases i <;> exact .nil
  | _, _, 0, .cons h hs => .cons (hf _ _ h) hs
  | _, _, i + 1, .cons h hs => .cons h (MsRel.modify hf hs)
theorem MsRel.snoc {e e' : MapEntry} (he : MRel m e e') : ∀ {es es' : List MapEntry}, MsRel m es es' → MsRel m (es ++ [e]) (es' ++ [e'])
  | _, _, .nil => .cons he .nil
  | _, _, .cons h hs => .cons h (MsRel.snoc he hs)
theorem MsRel.erase : ∀ {es es' : List MapEntry} {i : Nat}, MsRel m es es' → MsRel m (es.eraseIdx i) (es'.eraseIdx i)
  | _, _, i, .nil => .nil
  | _, _, 0, .cons h hs => hs
  | _, _, i + 1, .cons h hs => .cons h (MsRel.erase hs)
theorem MsRel.at : ∀ {es es' : List MapEntry} {i : Nat} {e' : MapEntry}, MsRel m es es' → es'[i]? = some e' → ∃ e, es[i]? = some e ∧ MRel m e e'
  | _, _, i, _, .nil, h => by simp at h
  | _, _, 0, _, .cons h hs, q => by simp at q; subst q; exact ⟨_, by simp, h⟩
  | _, _, i + 1, _, .cons h hs, q => by
    have q' := q
    simp at q'
    obtain ⟨e, h1, h2⟩ := MsRel.at hs q'
    exact ⟨e, by simpa using h1, h2⟩
/-- The key that is found stays as it is looked up. -/
theorem found_stays {d : TypeDesc} {k u : Value} {j : Nat} {es : Array MapEntry} (h : Instr.findNow d k es.toList 0 = some (some (j, u))) : (Instr.keyThatStays (((es[j]?).map (·.key)).getD k) k).run P w = .ok k w := by
  obtain ⟨_, e, g1, g2, _⟩ := findNow_key h
  have g1' : es[j]? = some e := by simpa using g1
  rw [g1']
  exact run_stays g2
theorem mapSet_sim (hs : Sim m base h w) {t : TypeId} {x x' k k' u u' : Value} {v : Value} {c : Nat} {lg : Log} {c2 : Nat} {h2 : Heap} {lg2 : Log} (hr : run (mapSetT P t x k u) c h lg = .ok v c2 h2 lg2) (hx : VRel m x x') (hk : VRel m k k') (hu' : VRel m u u') :
    v = undef ∧ ∃ w', (Instr.mapUpdate t x' k' u').run P w = .ok () w' ∧ Sim m base h2 w' ∧ Go1 m base w m w' ∧ Names m m c c2 := by
  unfold mapSetT at hr
  split at hr
  · next d e r hm =>
    obtain ⟨kt, hu, huk, hd⟩ := mapOf_some hm
    obtain ⟨hf, e1⟩ := run_whenT_inv hr
    obtain rfl := flat_eq hf hk
    obtain ⟨p, c1, h1, lg1, e2, e3⟩ := run_bind_inv e1
    cases hx with
    | @map _ i hi =>
    obtain ⟨rfl, rfl, hcell, es', hb, hms⟩ := mapAt_sim hs hi e2
    have hck : ∀ b, (Instr.checkKey b (9999 + 1) kt k').run P w = .ok () w := fun b => run_checkKey huk hd
    have hck : ∀ b, (Instr.checkKey b 10000 kt k').run P w = .ok () w := hck
    split at e3
    · next j u0 hfn =>
      obtain ⟨_, c4, h4, lg4, e4, e5⟩ := run_bind_inv e3
      obtain ⟨rfl, rfl⟩ := run_put_inv e4
      obtain ⟨rfl, rfl, rfl, _⟩ := run_ret_inv e5
      obtain ⟨u0', g1, g2⟩ := (MsRel.findNow (d := d) (k := k') (i := 0) hms).1 hfn
      have := hs.setObj (x' := .map ⟨p.1.toList.modify j fun e => { e with key := k', val := u }⟩ p.2) hcell rfl hi rfl (ObjRel.map (es' := es'.modify j fun e => { e with key := k', val := u' }) (by
        rw [Array.toList_modify]; exact hms.modify (f := fun e => { e with key := k', val := u }) (f' := fun e => { e with key := k', val := u' }) fun e e' q => ⟨rfl, hf, hu', q.born⟩))
      refine ⟨rfl, _, ?_, this.1, this.2, Names.refl _ _ _⟩
      unfold Instr.mapUpdate
      simp only [Sem.run_bind, run_underlying hu, Result.andThen_ok, run_getMap hb, hck, run_findKey huk g1, found_stays g1, run_setMap hb]
    · next hfn =>
      obtain ⟨_, c4, h4, lg4, e4, e5⟩ := run_bind_inv e3
      obtain ⟨rfl, rfl⟩ := run_put_inv e4
      obtain ⟨rfl, rfl, rfl, _⟩ := run_ret_inv e5
      have g1 := (MsRel.findNow (d := d) (k := k') (i := 0) hms).2 hfn
      have := hs.setObj (x' := .map ⟨p.1.toList ++ [{ key := k', val := u, born := p.2 }]⟩ (p.2 + 1)) hcell rfl hi rfl (ObjRel.map (es' := es'.push { key := k', val := u', born := p.2 }) (by
        rw [Array.toList_push]; exact hms.snoc (e := { key := k', val := u, born := p.2 }) (e' := { key := k', val := u', born := p.2 }) ⟨rfl, hf, hu', rfl⟩))
      refine ⟨rfl, _, ?_, this.1, this.2, Names.refl _ _ _⟩
      unfold Instr.mapUpdate
      simp only [Sem.run_bind, run_underlying hu, Result.andThen_ok, run_getMap hb, hck, run_findKey huk g1, run_setMap hb]
    · cases e3
  · cases hr
theorem mapEntry_sim (hs : Sim m base h w) {t : TypeId} {x x' k k' : Value} {v : Value} {c : Nat} {lg : Log} {c2 : Nat} {h2 : Heap} {lg2 : Log} (hr : run (mapEntryT P t x k) c h lg = .ok v c2 h2 lg2) (hx : VRel m x x') (hk : VRel m k k') :
    Leaves1 m base w c c2 h2 v ((Instr.mapEntry t x' k').run P w) := by
  unfold mapEntryT at hr
  split at hr
  · next d e r hm =>
    obtain ⟨kt, hu, huk, hd⟩ := mapOf_some hm
    obtain ⟨hf, e1⟩ := run_whenT_inv hr
    obtain rfl := flat_eq hf hk
    obtain ⟨p, c1, h1, lg1, e2, e3⟩ := run_bind_inv e1
    cases hx with
    | @map _ i hi =>
    obtain ⟨rfl, rfl, hcell, es', hb, hms⟩ := mapAt_sim hs hi e2
    have hck : ∀ b, (Instr.checkKey b (9999 + 1) kt k').run P w = .ok () w := fun b => run_checkKey huk hd
    have hck : ∀ b, (Instr.checkKey b 10000 kt k').run P w = .ok () w := hck
    split at e3
    · next j u0 hfn =>
      obtain ⟨_, c4, h4, lg4, e4, e5⟩ := run_bind_inv e3
      obtain ⟨rfl, rfl⟩ := run_put_inv e4
      obtain ⟨rfl, rfl, rfl, _⟩ := run_ret_inv e5
      obtain ⟨u0', g1, g2⟩ := (MsRel.findNow (d := d) (k := k') (i := 0) hms).1 hfn
      have := hs.setObj (x' := .map ⟨p.1.toList.modify j fun e => { e with key := k' }⟩ p.2) hcell rfl hi rfl (ObjRel.map (es' := es'.modify j fun e => { e with key := k' }) (by
        rw [Array.toList_modify]; exact hms.modify (f := fun e => { e with key := k' }) (f' := fun e => { e with key := k' }) fun e e' q => ⟨rfl, hf, q.val, q.born⟩))
      have hborn : (((es'[j]?).map (fun x => (x.born : Int))).getD 0) = .ofNat (((p.1.toList[j]?).map (·.born)).getD 0) := by
        obtain ⟨_, e', f1, _, _⟩ := findNow_key g1
        have f1' : es'.toList[j]? = some e' := by simpa using f1
        obtain ⟨e, f2, f3⟩ := hms.at f1'
        rw [f2, show es'[j]? = some e' by simpa using f1']
        simp [f3.born]
      refine ⟨.tuple #[u0', goInt (((es'[j]?).map (fun x => (x.born : Int))).getD 0)], m, _, ?_, ?_, this.1, this.2, Names.refl _ _ _⟩
      · unfold Instr.mapEntry
        simp only [Sem.run_bind, run_underlying hu, Result.andThen_ok, run_getMap hb, hck, run_findKey huk g1, found_stays g1, run_setMap hb, Sem.run_pure]
      · rw [hborn]
        exact .tuple (.cons g2 (.cons (.int _ _) .nil))
    · next hfn =>
      split at e3
      · next z hz =>
        obtain ⟨_, c4, h4, lg4, e4, e5⟩ := run_bind_inv e3
        obtain ⟨rfl, rfl⟩ := run_put_inv e4
        obtain ⟨rfl, rfl, rfl, _⟩ := run_ret_inv e5
        have hz' : VRel m z z := flat_refl m (zeroOf_some hz).2
        have g1 := (MsRel.findNow (d := d) (k := k') (i := 0) hms).2 hfn
        have := hs.setObj (x' := .map ⟨p.1.toList ++ [{ key := k', val := z, born := p.2 }]⟩ (p.2 + 1)) hcell rfl hi rfl (ObjRel.map (es' := es'.push { key := k', val := z, born := p.2 }) (by
          rw [Array.toList_push]; exact hms.snoc (e := { key := k', val := z, born := p.2 }) (e' := { key := k', val := z, born := p.2 }) ⟨rfl, hf, hz', rfl⟩))
        refine ⟨.tuple #[z, .int .i64 (.ofNat p.2)], m, _, ?_, ?_, this.1, this.2, Names.refl _ _ _⟩
        · unfold Instr.mapEntry
          simp only [Sem.run_bind, run_underlying hu, Result.andThen_ok, run_getMap hb, hck, run_findKey huk g1, run_zeroValue hz, run_setMap hb, Sem.run_pure, goInt]
          try rfl
        · exact .tuple (.cons hz' (.cons (.int _ _) .nil))
      · cases e3
    · cases e3
  · cases hr
theorem bornAt_some {n : Nat} : ∀ {es : List MapEntry} {i j : Nat}, bornAt n es i = some j → ∃ k, j = i + k ∧ es.findIdx? (fun e => (e.born : Int) == (n : Int)) = some k
  | [], _, _, h => by cases h
  | e :: es, i, j, h => by
    unfold bornAt at h
    cases hb : Nat.beq e.born n with
    | true =>
      rw [hb] at h
      simp only [cond_true, Option.some.injEq] at h
      have := Nat.eq_of_beq_eq_true hb
      exact ⟨0, by omega, by simp [List.findIdx?_cons, this]⟩
    | false =>
      rw [hb] at h
      simp only [cond_false] at h
      obtain ⟨k, g1, g2⟩ := bornAt_some h
      have hne : e.born ≠ n := Nat.ne_of_beq_eq_false hb
      refine ⟨k + 1, by omega, ?_⟩
      rw [List.findIdx?_cons, if_neg (by simpa using fun q => hne (by omega)), g2]
      rfl
theorem MsRel.findIdx {n : Int} : ∀ {es es' : List MapEntry}, MsRel m es es' → es'.findIdx? (fun e => (e.born : Int) == n) = es.findIdx? (fun e => (e.born : Int) == n)
  | _, _, .nil => rfl
  | _, _, .cons h hs => by rw [List.findIdx?_cons, List.findIdx?_cons, h.born, MsRel.findIdx hs]
theorem findIdx_list (p : MapEntry → Bool) (es : Array MapEntry) : es.findIdx? p = es.toList.findIdx? p := by
  obtain ⟨l⟩ := es
  exact List.findIdx?_toArray _ _
theorem entryStore_sim (hs : Sim m base h w) {t : TypeId} {x x' s s' u u' : Value} {v : Value} {c : Nat} {lg : Log} {c2 : Nat} {h2 : Heap} {lg2 : Log} (hr : run (entryStoreT x s u) c h lg = .ok v c2 h2 lg2) (hx : VRel m x x') (hs' : VRel m s s') (hu' : VRel m u u') :
    v = undef ∧ ∃ w', (Instr.entryStore t x' s' u').run P w = .ok () w' ∧ Sim m base h2 w' ∧ Go1 m base w m w' ∧ Names m m c c2 := by
  unfold entryStoreT at hr
  split at hr
  · next r n hn =>
    obtain ⟨ik, rfl⟩ := natOf_some hn
    obtain ⟨p, c1, h1, lg1, e2, e3⟩ := run_bind_inv hr
    cases hx with
    | @map _ i hi =>
    cases hs'
    obtain ⟨rfl, rfl, hcell, es', hb, hms⟩ := mapAt_sim hs hi e2
    split at e3
    · next j hj =>
      obtain ⟨_, c4, h4, lg4, e4, e5⟩ := run_bind_inv e3
      obtain ⟨rfl, rfl⟩ := run_put_inv e4
      obtain ⟨rfl, rfl, rfl, _⟩ := run_ret_inv e5
      obtain ⟨k, hk1, hk2⟩ := bornAt_some hj
      obtain rfl : j = k := by omega
      rw [← MsRel.findIdx hms] at hk2
      have hk3 : es'.findIdx? (fun e => (e.born : Int) == (n : Int)) = some j := by rw [← hk2]; exact findIdx_list _ _
      have := hs.setObj (x' := .map ⟨p.1.toList.modify j fun e => { e with val := u }⟩ p.2) hcell rfl hi rfl (ObjRel.map (es' := es'.modify j fun e => { e with val := u' }) (by
        rw [Array.toList_modify]; exact hms.modify (f := fun e => { e with val := u }) (f' := fun e => { e with val := u' }) fun e e' q => ⟨q.key, q.flat, hu', q.born⟩))
      refine ⟨rfl, _, ?_, this.1, this.2, Names.refl _ _ _⟩
      unfold Instr.entryStore
      simp only [Sem.run_bind, Result.andThen_ok, run_getMap hb, asInt, asIntOf, Sem.run_pure, Int.ofNat_eq_natCast, hk3, run_setMap hb]
    · cases e3
  · cases hr
theorem erase_list (es : Array MapEntry) (i : Nat) : (es.eraseIdxIfInBounds i).toList = es.toList.eraseIdx i := by
  unfold Array.eraseIdxIfInBounds
  split
  · simp
  · next h => rw [List.eraseIdx_of_length_le]; simpa using h
theorem delete_sim (hs : Sim m base h w) {argTypes : Array TypeId} {ty : TypeId} {args : List Value} {args' : Array Value} {v : Value} {c : Nat} {lg : Log} {c2 : Nat} {h2 : Heap} {lg2 : Log} (hr : run (deleteT P argTypes.toList args) c h lg = .ok v c2 h2 lg2) (ha : LRel m args args'.toList) :
    Leaves1 m base w c c2 h2 v ((Builtin.delete_ argTypes ty args').run P w) := by
  unfold deleteT at hr
  split at hr
  · next t ts r k hat =>
    split at hr
    · next d e hm =>
      obtain ⟨kt, hu, huk, hd⟩ := mapOf_some hm
      obtain ⟨hf, e1⟩ := run_whenT_inv hr
      obtain ⟨x', k', rfl, hx, hk⟩ := ha.two
      obtain rfl := flat_eq hf hk
      obtain ⟨p, c1, h1, lg1, e2, e3⟩ := run_bind_inv e1
      cases hx with
      | @map _ i hi =>
      obtain ⟨rfl, rfl, hcell, es', hb, hms⟩ := mapAt_sim hs hi e2
      have hck : ∀ b, (Instr.checkKey b (9999 + 1) kt k').run P w = .ok () w := fun b => run_checkKey huk hd
      have hck : ∀ b, (Instr.checkKey b 10000 kt k').run P w = .ok () w := hck
      have h0 := head_at hat
      split at e3
      · next j u0 hfn =>
        obtain ⟨_, c4, h4, lg4, e4, e5⟩ := run_bind_inv e3
        obtain ⟨rfl, rfl⟩ := run_put_inv e4
        obtain ⟨rfl, rfl, rfl, _⟩ := run_ret_inv e5
        obtain ⟨u0', g1, g2⟩ := (MsRel.findNow (d := d) (k := k') (i := 0) hms).1 hfn
        have := hs.setObj (x' := .map ⟨p.1.toList.eraseIdx j⟩ p.2) hcell rfl hi rfl (ObjRel.map (es' := es'.eraseIdxIfInBounds j) (by rw [erase_list]; exact hms.erase))
        refine ⟨.tuple #[], m, _, ?_, .tuple .nil, this.1, this.2, Names.refl _ _ _⟩
        unfold Builtin.delete_
        simp only [h0, Sem.run_bind, run_underlying hu, Result.andThen_ok, run_getMap hb, hck, run_findKey huk g1, run_setMap hb, Sem.run_pure, List.getElem?_toArray, List.getElem?_cons_zero, List.getElem?_cons_succ]
      · next hfn =>
        obtain ⟨_, c4, h4, lg4, e4, e5⟩ := run_bind_inv e3
        obtain ⟨rfl, rfl⟩ := run_put_inv e4
        obtain ⟨rfl, rfl, rfl, _⟩ := run_ret_inv e5
        have g1 := (MsRel.findNow (d := d) (k := k') (i := 0) hms).2 hfn
        have := hs.setObj (x' := .map ⟨p.1.toList⟩ p.2) hcell rfl hi rfl (ObjRel.map (es' := es') hms)
        refine ⟨.tuple #[], m, _, ?_, .tuple .nil, this.1, this.2, Names.refl _ _ _⟩
        unfold Builtin.delete_
        simp only [h0, Sem.run_bind, run_underlying hu, Result.andThen_ok, run_getMap hb, hck, run_findKey huk g1, run_setMap hb, Sem.run_pure, List.getElem?_toArray, List.getElem?_cons_zero, List.getElem?_cons_succ]
      · cases e3
    · cases hr
  · cases hr
end
end Go.Ab
