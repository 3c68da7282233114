/- The builtins and every operation but a call, simulated. -/
import Derived.Test.YtfleloeadbdbcaaGreatAbN
namespace Go.Ab
open Go.RowKit
section
variable {P : Program} {m : Inj} {base : Nat} {h : Heap} {w : World}
theorem zerosOf_false {xts : List TypeId} (hx : zerosOf P xts = some false) {argTypes : Array TypeId} {st : TypeId} (ha : argTypes.toList = st :: xts) :
    ∀ t, argTypes[1]? = some t → ∃ d, P.underlying t = some d ∧ ∀ k, d ≠ .int k := by
  intro t ht
  have h1 : xts[0]? = some t := by
    have : argTypes.toList[1]? = some t := by simpa using ht
    rw [ha] at this; simpa using this
  cases xts with
  | nil => simp at h1
  | cons x xs =>
    simp at h1; subst h1
    simp only [zerosOf] at hx
    cases hu : P.underlying x with
    | none => rw [hu] at hx; cases hx
    | some d => rw [hu] at hx; refine ⟨d, rfl, fun k e => ?_⟩; subst e; simp at hx
theorem zerosOf_true {xts : List TypeId} (hx : zerosOf P xts = some true) {argTypes : Array TypeId} {st : TypeId} (ha : argTypes.toList = st :: xts) :
    ∃ t k, argTypes[1]? = some t ∧ P.underlying t = some (.int k) := by
  cases xts with
  | nil => simp [zerosOf] at hx
  | cons x xs =>
    refine ⟨x, ?_⟩
    have h1 : argTypes[1]? = some x := by
      have : argTypes.toList[1]? = some x := by rw [ha]; rfl
      simpa using this
    simp only [zerosOf] at hx
    cases hu : P.underlying x with
    | none => rw [hu] at hx; cases hx
    | some d =>
      rw [hu] at hx
      cases d <;> simp at hx
      exact ⟨_, h1, rfl⟩
theorem head_at {argTypes : Array TypeId} {st : TypeId} {xts : List TypeId} (ha : argTypes.toList = st :: xts) : argTypes[0]? = some st := by
  have : argTypes.toList[0]? = some st := by rw [ha]; rfl
  simpa using this
theorem lenOf_rel {x x' : Value} {n : Nat} (hx : VRel m x x') (hn : lenOf' x = some n) : lenOf' x' = some n := by
  unfold lenOf' at hn
  split at hn <;> simp at hn <;> subst hn <;> cases hx <;> rfl
theorem append_sim (hs : Sim m base h w) {argTypes : Array TypeId} {ty : TypeId} {args : List Value} {args' : Array Value} {v : Value} {c : Nat} {lg : Log} {c2 : Nat} {h2 : Heap} {lg2 : Log}
    (hr : run (appendT P argTypes.toList args) c h lg = .ok v c2 h2 lg2) (ha : LRel m args args'.toList) (hc : ∀ k, c ≤ k → k < c2 → m k = none) :
    Leaves1 m base w c c2 h2 v ((Builtin.append_ argTypes ty args').run P w) := by
  generalize hat : argTypes.toList = at0 at hr
  unfold appendT at hr
  split at hr
  · next st xts base0 len cap x =>
    have hst := head_at hat
    obtain ⟨s', x', rfl, hs', hx'⟩ := ha.two
    obtain ⟨b', cap', rfl⟩ : ∃ b' cap', s' = .slice b' len cap' := by cases hs' <;> exact ⟨_, _, rfl⟩
    split at hr
    · next e he =>
      have hu := elemOfSlice_some he
      split at hr
      · next size bytes z hz hby hzz hze =>
        split at hr
        · next n hn =>
          obtain ⟨hb, e1⟩ := run_whenT_inv hr
          simp only [Bool.and_eq_true, Nat.beq_eq, Nat.ble_eq] at hb
          obtain ⟨⟨it, hi, hz0⟩, hf⟩ := zeroOf_some hzz
          obtain ⟨it2, hi2, rfl⟩ := szOf_some hz
          obtain ⟨it3, hi3, rfl⟩ := bytesOf_some hby
          rw [hi] at hi2 hi3; injection hi2 with hi2; injection hi3 with hi3; subst hi2 hi3
          obtain ⟨kx, rfl⟩ := natOf_some hn
          obtain ⟨t, k, ht, hut⟩ := zerosOf_true hze hat
          cases hx'
          have hzs : z.cells.size = it.size := by have := hb.1; rw [cellsL_eq] at this; simpa using this
          have hzf := flat_cells hf m
          rw [cellsL_eq] at hzf e1
          refine append1_sim hs hst hu hi hz0 hzs ⟨fun hrun => ?_⟩ hs' hc e1
          obtain ⟨rfl, rfl, rfl, _⟩ := run_ret_inv hrun
          refine ⟨rfl, rfl, by rw [rep_length]; simp [hzs], (rep n z.cells.toList).toArray, by simpa using LRel.rep hzf n, .zeros t k kx ht hut rfl hb.2 ?_⟩
          by_cases h0 : n * it.size = 0
          · rw [if_pos h0]
            have : (rep n z.cells.toList).length = 0 := by rw [rep_length]; simpa [hzs] using h0
            rw [List.length_eq_zero_iff.1 this]
          · rw [if_neg h0]
            have hp : 0 < z.cells.size := by
              rcases Nat.eq_zero_or_pos z.cells.size with q | q
              · exact absurd (by rw [← hzs, q]; simp) h0
              · exact q
            unfold Builtin.zeroCells
            exact (rep_zero z.cells hp n).symm
        · cases hr
      · next size bytes z hz hby hzz hze =>
        split at hr
        · next n hn =>
          obtain ⟨hb, e1⟩ := run_whenT_inv hr
          simp only [Nat.beq_eq] at hb
          obtain ⟨⟨it, hi, hz0⟩, hf⟩ := zeroOf_some hzz
          obtain ⟨it2, hi2, rfl⟩ := szOf_some hz
          obtain ⟨it3, hi3, rfl⟩ := bytesOf_some hby
          rw [hi] at hi2 hi3; injection hi2 with hi2; injection hi3 with hi3; subst hi2 hi3
          have hzs : z.cells.size = it.size := by rw [cellsL_eq] at hb; simpa using hb
          refine append1_sim hs hst hu hi hz0 hzs ⟨fun hrun => ?_⟩ hs' hc e1
          obtain ⟨rfl, rfl, hl, vs', hv, hf⟩ := first_sim (P := P) hs hrun hx'
          exact ⟨rfl, rfl, hl, vs', hv, .plain (zerosOf_false hze hat) (lenOf_rel hx' hn) hf⟩
        · cases hr
      · cases hr
    · cases hr
  · cases hr
theorem min_eq (a b : Nat) : bite (Nat.ble a b) a b = Nat.min a b := by
  rw [bite_eq]
  by_cases hq : a ≤ b
  · rw [if_pos (Nat.ble_eq_true_of_le hq)]; exact (Nat.min_eq_left hq).symm
  · rw [if_neg (fun e => hq (Nat.le_of_ble_eq_true e))]; exact (Nat.min_eq_right (by omega)).symm
theorem copy_sim (hs : Sim m base h w) {argTypes : Array TypeId} {ty : TypeId} {args : List Value} {args' : Array Value} {v : Value} {c : Nat} {lg : Log} {c2 : Nat} {h2 : Heap} {lg2 : Log}
    (hr : run (copyT P argTypes.toList args) c h lg = .ok v c2 h2 lg2) (ha : LRel m args args'.toList) : Leaves1 m base w c c2 h2 v ((Builtin.copy_ argTypes ty args').run P w) := by
  generalize hat : argTypes.toList = at0 at hr
  unfold copyT at hr
  split at hr
  · next dt xts base0 dlen cap x =>
    have hst := head_at hat
    obtain ⟨s', x', rfl, hs', hx'⟩ := ha.two
    obtain ⟨b', cap', rfl⟩ : ∃ b' cap', s' = .slice b' dlen cap' := by cases hs' <;> exact ⟨_, _, rfl⟩
    split at hr
    · next e n he hn =>
      have hu := elemOfSlice_some he
      split at hr
      · next size hz =>
        obtain ⟨hb, e1⟩ := run_whenT_inv hr
        obtain ⟨vs, c1, h1, lg1, e2, e3⟩ := run_bind_inv e1
        obtain ⟨rfl, rfl, hl, vs', hv, hf⟩ := first_sim (P := P) hs e2 hx'
        rw [min_eq] at hl hf e3
        have hlr := lenOf_run (P := P) (w := w) (lenOf_rel hx' hn)
        have hf := hf w rfl
        have key : ∀ r : Result Value, (match b' with | some a => ((storeCells a vs'.toList).run P w).andThen fun _ w' => .ok (goInt (Nat.min n dlen)) w' | none => .ok (goInt (Nat.min n dlen)) w) = r → (Builtin.copy_ argTypes ty #[.slice b' dlen cap', x']).run P w = r := by
          intro r hr
          rw [← hr]
          cases b' <;> simp [Builtin.copy_, hst, run_underlying hu, run_sizeOf hz, hlr, hf]
        cases hs' with
        | slNil =>
          obtain ⟨rfl, rfl, rfl, _⟩ := run_ret_inv e3
          exact ⟨_, m, w, key _ rfl, .int _ _, hs, .refl _ _ _, Names.refl _ _ _⟩
        | slEnd a a' =>
          have h0 : Nat.min n 0 = 0 := Nat.min_eq_right (Nat.zero_le _)
          have hvs : vs = [] := List.length_eq_zero_iff.1 (by rw [hl, h0]; simp)
          subst hvs
          have hvs' : vs'.toList = [] := by cases vs' with | mk l => cases hv; rfl
          have e3' : c = c2 ∧ h = h2 ∧ v = .int .i64 (.ofNat (Nat.min n 0)) := by
            obtain ⟨bb, o, sp⟩ := a
            cases sp with
            | some _ => cases e3
            | none =>
              obtain ⟨_, c3, h3, lg3, e4, e5⟩ := run_bind_inv e3
              obtain ⟨_, rfl, rfl, _⟩ := run_ret_inv e4
              obtain ⟨rfl, rfl, rfl, _⟩ := run_ret_inv e5
              exact ⟨rfl, rfl, rfl⟩
          obtain ⟨rfl, rfl, rfl⟩ := e3'
          refine ⟨_, m, w, key _ ?_, .int _ _, hs, .refl _ _ _, Names.refl _ _ _⟩
          simp only [hvs']
          rfl
        | @sl bn o i _ _ _ him hcap hl' =>
          obtain ⟨_, c3, h3, lg3, e4, e5⟩ := run_bind_inv e3
          obtain ⟨rfl, rfl, rfl, _⟩ := run_ret_inv e5
          obtain ⟨rfl, w', g1, g2, g3⟩ := storeCells_sim (P := P) hs e4 him hv
          refine ⟨_, m, w', key _ ?_, .int _ _, g2, g3, Names.refl _ _ _⟩
          simp only [g1]
          rfl
      · cases hr
    · cases hr
  · cases hr
theorem clear_sim (hs : Sim m base h w) {argTypes : Array TypeId} {ty : TypeId} {args : List Value} {args' : Array Value} {v : Value} {c : Nat} {lg : Log} {c2 : Nat} {h2 : Heap} {lg2 : Log}
    (hr : run (clearT P argTypes.toList args) c h lg = .ok v c2 h2 lg2) (ha : LRel m args args'.toList) : Leaves1 m base w c c2 h2 v ((Builtin.clear_ argTypes ty args').run P w) := by
  generalize hat : argTypes.toList = at0 at hr
  unfold clearT at hr
  split at hr
  · next t xts x =>
    have hst := head_at hat
    obtain ⟨x', rfl, hx⟩ := ha.one1
    split at hr
    · next e hu =>
      split at hr
      · next b o n cap =>
        split at hr
        · next size z hz hzz =>
          obtain ⟨hb, e1⟩ := run_whenT_inv hr
          simp only [Bool.and_eq_true, Nat.ble_eq, Nat.beq_eq] at hb
          obtain ⟨_, c1, h1, lg1, e2, e3⟩ := run_bind_inv e1
          obtain ⟨rfl, rfl, rfl, _⟩ := run_ret_inv e3
          have hzs : z.cells.size = size := by have := hb.2; rw [cellsL_eq] at this; simpa using this
          have hzf := flat_cells (zeroOf_some hzz).2 m
          rw [cellsL_eq] at hzf e2
          have hzc : Builtin.zeroCells z.cells n = (rep n z.cells.toList).toArray := by unfold Builtin.zeroCells; exact rep_zero z.cells (by omega) n
          have hzr := run_zeroValue (w := w) hzz
          cases hx with
          | slEnd a a' =>
            obtain ⟨_, rfl, rfl, _⟩ := run_ret_inv e2
            refine ⟨.tuple #[], m, w, ?_, .tuple .nil, hs, .refl _ _ _, Names.refl _ _ _⟩
            simp [Builtin.clear_, hst, run_underlying hu]
          | @sl _ _ i _ _ cap' him hcap hl =>
            obtain ⟨rfl, w', g1, g2, g3⟩ := storeCells_sim (P := P) hs e2 him (hzf.rep n)
            refine ⟨.tuple #[], m, w', ?_, .tuple .nil, g2, g3, Names.refl _ _ _⟩
            cases n with
            | zero =>
              have : w' = w := by
                have : (storeCells ⟨i.blk, o + i.del, none⟩ (rep 0 z.cells.toList)).run P w = .ok () w := rfl
                rw [this] at g1; injection g1 with _ g1; exact g1.symm
              subst this
              simp [Builtin.clear_, hst, run_underlying hu]
            | succ n => simp [Builtin.clear_, hst, run_underlying hu, hzr, hzc, g1]
        · cases hr
      · obtain ⟨rfl, rfl, rfl, _⟩ := run_ret_inv hr
        cases hx
        refine ⟨.tuple #[], m, w, ?_, .tuple .nil, hs, .refl _ _ _, Names.refl _ _ _⟩
        simp [Builtin.clear_, hst, run_underlying hu]
      · cases hr
    · cases hr
  · cases hr
theorem len_sim (hs : Sim m base h w) {argTypes : Array TypeId} {ty t : TypeId} {x x' : Value} {v : Value} {c : Nat} {lg : Log} {c2 : Nat} {h2 : Heap} {lg2 : Log}
    (hr : run (lenT P t x) c h lg = .ok v c2 h2 lg2) (hx : VRel m x x') (hst : argTypes[0]? = some t) : Leaves1 m base w c c2 h2 v ((Builtin.len_ argTypes ty #[x']).run P w) := by
  have fin : ∀ n : Nat, (Builtin.len_ argTypes ty #[x']).run P w = .ok (goInt n) w → v = .int .i64 (.ofNat n) → c = c2 → h = h2 → Leaves1 m base w c c2 h2 v ((Builtin.len_ argTypes ty #[x']).run P w) := by
    intro n h1 h2 h3 h4
    subst h2 h3 h4
    exact ⟨_, m, w, h1, .int _ _, hs, .refl _ _ _, Names.refl _ _ _⟩
  unfold lenT at hr
  split at hr
  · next s hu =>
    obtain ⟨rfl, rfl, rfl, _⟩ := run_ret_inv hr
    cases hx
    exact fin _ (by simp [Builtin.len_, hst, run_underlying hu]) rfl rfl rfl
  · next e a n cap hu =>
    obtain ⟨rfl, rfl, rfl, _⟩ := run_ret_inv hr
    obtain ⟨b', cap', rfl⟩ : ∃ b' cap', x' = .slice b' n cap' := by cases hx <;> exact ⟨_, _, rfl⟩
    exact fin _ (by simp [Builtin.len_, hst, run_underlying hu]) rfl rfl rfl
  · next n e x hu =>
    obtain ⟨rfl, rfl, rfl, _⟩ := run_ret_inv hr
    exact fin _ (by simp [Builtin.len_, hst, run_underlying hu]) rfl rfl rfl
  · next k e hu =>
    obtain ⟨rfl, rfl, rfl, _⟩ := run_ret_inv hr
    cases hx
    exact fin 0 (by simp [Builtin.len_, hst, run_underlying hu]) rfl rfl rfl
  · next k e r hu =>
    obtain ⟨x, c1, h1, lg1, e1, e2⟩ := run_bind_inv hr
    obtain ⟨hm, rfl, rfl⟩ := run_get_inv e1
    cases x with
    | map es k =>
      obtain ⟨rfl, rfl, rfl, _⟩ := run_ret_inv e2
      obtain ⟨i, o, g1, g2, g3, g4⟩ := hs.objs r _ hm rfl
      cases g4 with
      | @map _ es' _ g4 =>
      cases hx with
      | @map _ i' hi =>
        rw [hi] at g1; injection g1 with g1; subst g1
        have hlen : ∀ {a b : List MapEntry}, MsRel m a b → b.length = a.length := by
          intro a b hq
          induction hq with
          | nil => rfl
          | cons _ _ ih => simp [ih]
        have := hlen g4
        refine fin es.size ?_ rfl rfl rfl
        have hes : es'.size = es.size := by simpa using this
        simp [Builtin.len_, hst, run_underlying hu, getObj, Sem.run, g3, hes]
    | val v => cases e2
    | blk b => cases e2
    | loop l => cases e2
    | iter a b c d => cases e2
  · cases hr
theorem cap_sim (hs : Sim m base h w) {argTypes : Array TypeId} {ty t : TypeId} {x x' : Value} {v : Value} {c : Nat} {lg : Log} {c2 : Nat} {h2 : Heap} {lg2 : Log}
    (hr : run (capT P t x) c h lg = .ok v c2 h2 lg2) (hx : VRel m x x') (hst : argTypes[0]? = some t) : Leaves1 m base w c c2 h2 v ((Builtin.cap_ argTypes ty #[x']).run P w) := by
  unfold capT at hr
  split at hr
  · next e l n hu =>
    obtain ⟨rfl, rfl, rfl, _⟩ := run_ret_inv hr
    cases hx
    exact ⟨_, m, w, by simp [Builtin.cap_, hst, run_underlying hu]; rfl, .int _ _, hs, .refl _ _ _, Names.refl _ _ _⟩
  · cases hr
theorem makeMap_sim (hs : Sim m base h w) {t : TypeId} {v : Value} {c : Nat} {lg : Log} {c2 : Nat} {h2 : Heap} {lg2 : Log} (hr : run (T.fresh.bind fun n => (T.put (n, 0) (.map #[] 0)).bind fun _ => .ret (.map (some n))) c h lg = .ok v c2 h2 lg2) (hc : m c = none) :
    Leaves1 m base w c c2 h2 v ((Instr.makeMap t none).run P w) := by
  obtain ⟨n, c1, h1, lg1, e1, e2⟩ := run_bind_inv hr
  obtain ⟨rfl, rfl, rfl⟩ := run_fresh_inv e1
  obtain ⟨_, c3, h3, lg3, e3, e4⟩ := run_bind_inv e2
  obtain ⟨rfl, rfl⟩ := run_put_inv e3
  obtain ⟨rfl, rfl, rfl, _⟩ := run_ret_inv e4
  obtain ⟨g1, g2, g3⟩ := hs.addObj hc (x := .map #[] 0) (o := .map #[] 0) rfl (.map .nil)
  exact ⟨.map (some w.heap.size), _, _, rfl, VRel.map (upd_self m c ⟨w.heap.size, 0, 0, 0, 0⟩), g1, g2, g3⟩
end
end Go.Ab
