/- A region whose order is drawn, simulated. -/
import Derived.Test.YtfleloeadbdbcaaGreatAbT
namespace Go.Ab
open Go.RowKit

theorem filter_lt {p p' : Nat → Bool} : ∀ (l : List Nat), (∀ x, p' x = true → p x = true) → (∃ x ∈ l, p x = true ∧ p' x = false) → (l.filter p').length < (l.filter p).length
  | [], _, ⟨x, hx, _⟩ => by cases hx
  | y :: l, hp, ⟨x, hx, h1, h2⟩ => by
    have hle : ∀ (l : List Nat), (l.filter p').length ≤ (l.filter p).length := by
      intro l
      induction l with
      | nil => exact Nat.le_refl _
      | cons z l ih =>
        rw [List.filter_cons, List.filter_cons]
        by_cases hz : p' z = true
        · rw [if_pos hz, if_pos (hp z hz)]; simpa using ih
        · rw [if_neg hz]; split
          · exact Nat.le_succ_of_le ih
          · exact ih
    rw [List.filter_cons, List.filter_cons]
    rcases List.mem_cons.1 hx with rfl | hx
    · rw [if_pos h1, if_neg (by rw [h2]; decide)]; exact Nat.lt_succ_of_le (hle l)
    · have ih := filter_lt l hp ⟨x, hx, h1, h2⟩
      by_cases hz : p' y = true
      · rw [if_pos hz, if_pos (hp y hz)]; simpa using ih
      · rw [if_neg hz]; split
        · exact Nat.lt_succ_of_lt ih
        · exact ih
section
variable {P : Program} {base : Nat} {callF : Tgt → List Value → T Value} {n : Nat} {M : Ms}
/-- A walk in the text's order, of which nothing that is not put in order depends on the order. -/
structure Walk (P : Program) (callF : Tgt → List Value → T Value) (n : Nat) (ops : List Oper) (tr : Nat → Tr) : Prop where
  step : ∀ k o, ops[k]? = some o → StepOK P callF n ops o (tr k) (tr (k + 1))
  pair : ∀ k o k' o', ops[k]? = some o → ops[k']? = some o' → k' < k → Nat.testBit (((Region.before ops.toArray).toList[k]?).getD 0) k' = true ∨ (clash (tr k).lg (tr k').lg = false ∧ Oper.apart ops.toArray o' o = true)
  fwd : ∀ k o, ops[k]? = some o → ∀ e ∈ o.after, Region.binds .any e = true → e.on < k
variable {ops : List Oper} {tr : Nat → Tr}
def Wt (ops : List Oper) (j k : Nat) : Prop := ∃ o, ops[j]? = some o ∧ o.dst = some k
theorem Walk.get (hw : Walk P callF n ops tr) {k a : Nat} : ∀ {b : Nat}, a ≤ b → b ≤ ops.length → (∀ j, a ≤ j → j < b → ¬ Wt ops j k) → (tr b).fr.get k = (tr a).fr.get k := by
  intro b hab
  induction b with
  | zero => intro _ _; rw [Nat.le_zero.1 hab]
  | succ b ih =>
    intro hb hn
    rcases Nat.lt_or_ge a (b + 1) with h | h
    · obtain ⟨o, ho⟩ : ∃ o, ops[b]? = some o := ⟨ops[b], by simp [show b < ops.length by omega]⟩
      rw [← ih (by omega) (by omega) fun j h1 h2 => hn j h1 (by omega), (hw.step b o ho).fr]
      cases hd : o.dst with
      | none => rfl
      | some d =>
        rw [Fr.get_put, if_neg]
        rintro ⟨rfl, _⟩
        exact hn b (by omega) (by omega) ⟨o, ho, hd⟩
    · rw [show a = b + 1 by omega]
theorem Walk.at (hw : Walk P callF n ops tr) {l : Loc} {a : Nat} : ∀ {b : Nat}, a ≤ b → b ≤ ops.length → (∀ j, a ≤ j → j < b → (l, true) ∉ (tr j).lg) → (tr b).h.at l = (tr a).h.at l := by
  intro b hab
  induction b with
  | zero => intro _ _; rw [Nat.le_zero.1 hab]
  | succ b ih =>
    intro hb hn
    rcases Nat.lt_or_ge a (b + 1) with h | h
    · obtain ⟨o, ho⟩ : ∃ o, ops[b]? = some o := ⟨ops[b], by simp [show b < ops.length by omega]⟩
      rw [← ih (by omega) (by omega) fun j h1 h2 => hn j h1 (by omega)]
      rcases (hw.step b o ho).run with ⟨_, _, hr⟩ | ⟨_, _, _, he, _⟩
      · obtain ⟨d, hd, hk⟩ := run_local _ hr
        have hd : (tr b).lg = d := by simpa using hd
        obtain ⟨_, _, _, h3⟩ := hk (tr b).h [] fun _ _ => rfl
        exact (h3 l (by rw [← hd]; exact hn b (by omega) (by omega))).2
      · rw [he]
    · rw [show a = b + 1 by omega]
theorem Walk.ctr (hw : Walk P callF n ops tr) {a : Nat} : ∀ {b : Nat}, a ≤ b → b ≤ ops.length → (tr a).c ≤ (tr b).c := by
  intro b hab
  induction b with
  | zero => intro _; rw [Nat.le_zero.1 hab]; exact Nat.le_refl _
  | succ b ih =>
    intro hb
    rcases Nat.lt_or_ge a (b + 1) with h | h
    · obtain ⟨o, ho⟩ : ∃ o, ops[b]? = some o := ⟨ops[b], by simp [show b < ops.length by omega]⟩
      refine Nat.le_trans (ih (by omega) (by omega)) ?_
      rcases (hw.step b o ho).run with ⟨_, _, hr⟩ | ⟨_, _, he, _, _⟩
      · exact run_ctr _ hr
      · rw [he]; exact Nat.le_refl _
    · rw [show a = b + 1 by omega]; exact Nat.le_refl _
/-- Where we stand when some operations have come up, in whatever order. -/
structure Stand (P : Program) (n : Nat) (M : Ms) (ops : List Oper) (tr : Nat → Tr) (base : Nat) (m0 : Inj) (w0 : World) (listed : Array Bool) (fr : Fr) (h : Heap) (m : Inj) (a : Act) (w : World) : Prop where
  size : listed.size = ops.length
  closed : Closed ops.toArray listed
  tmp : ∀ k i, i ≤ ops.length → (∀ j, listed.getD j false = true → i ≤ j → ¬ Wt ops j k) → (∀ j, j < i → listed.getD j false = false → ¬ Wt ops j k) → fr.get k = (tr i).fr.get k
  mem : ∀ l i, i ≤ ops.length → (∀ j, listed.getD j false = true → i ≤ j → (l, true) ∉ (tr j).lg) → (∀ j, j < i → listed.getD j false = false → (l, true) ∉ (tr j).lg) → h.at l = (tr i).h.at l
  names : ∀ j, j < ops.length → listed.getD j false = false → ∀ x, (tr j).c ≤ x → x < (tr (j + 1)).c → m x = none
  frel : FRel n M m fr a
  sim : Sim m base h w
  go : Go1 m0 base w0 m w
  nms : Names m0 m (tr 0).c (tr ops.length).c
theorem any_sim (hN : NamesOK P) (hC : CallOK P base callF) (hw : Walk P callF n ops tr) {r : Option Nat} {m0 : Inj} {w0 : World} {Qe : Exit → Act → World → Prop}
    (hn : ∀ fr a h m w, (∀ k, fr.get k = (tr ops.length).fr.get k) → (∀ l, h.at l = (tr ops.length).h.at l) → FRel n M m fr a → Sim m base h w → Go1 m0 base w0 m w → Names m0 m (tr 0).c (tr ops.length).c → Qe .normal a w) :
    ∀ (fuel : Nat) (listed : Array Bool) (fr : Fr) (h : Heap) (m : Inj) (a : Act) (w : World), ((List.range ops.length).filter fun i => !listed.getD i false).length ≤ fuel → Stand P n M ops tr base m0 w0 listed fr h m a w →
      wpAnyIn (FW r) 0 P .any ops.toArray Qe fuel listed a w := by
  have done : ∀ (listed : Array Bool) (fr : Fr) (h : Heap) (m : Inj) (a : Act) (w : World), Stand P n M ops tr base m0 w0 listed fr h m a w → (∀ i, i < ops.length → listed.getD i false = true) → Qe .normal a w := by
    intro listed fr h m a w hst hall
    refine hn fr a h m w (fun k => hst.tmp k _ (Nat.le_refl _) (fun j _ hj => ?_) fun j hj hf => ?_) (fun l => hst.mem l _ (Nat.le_refl _) (fun j h1 hj => ?_) fun j hj hf => ?_) hst.frel hst.sim hst.go hst.nms
    · rintro ⟨o, ho, _⟩; rw [List.getElem?_eq_none hj] at ho; cases ho
    · rw [hall j hj] at hf; cases hf
    · have : listed.getD j false = false := by
        have : ¬ j < listed.size := by rw [hst.size]; omega
        simp [this]
      rw [this] at h1; cases h1
    · rw [hall j hj] at hf; cases hf
  have allOf : ∀ (listed : Array Bool), listed.size = ops.length → Region.ready .any ops.toArray listed = [] → ∀ i, i < ops.length → listed.getD i false = true := by
    intro listed hsz hrd i
    induction i using Nat.strongRecOn with
    | _ i ih =>
      intro hi
      cases hl : listed.getD i false with
      | true => rfl
      | false =>
        exfalso
        have ho : ops[i]? = some ops[i] := by simp [hi]
        have hmem : i ∈ Region.ready .any ops.toArray listed := mem_ready.2 ⟨by
          have : i < listed.size := by omega
          simp [this] at hl ⊢; exact hl, ops[i], by simp, fun e he hb => by
          have hlt := hw.fwd i _ ho e he hb
          exact ih e.on hlt (by omega)⟩
        rw [hrd] at hmem; cases hmem
  intro fuel
  induction fuel with
  | zero =>
    intro listed fr h m a w hu hst
    have hall : ∀ i, i < ops.length → listed.getD i false = true := fun i hi => by
      cases hl : listed.getD i false with
      | true => rfl
      | false =>
        have : i ∈ (List.range ops.length).filter fun i => !listed.getD i false := List.mem_filter.2 ⟨List.mem_range.2 hi, by rw [hl]; rfl⟩
        rw [List.length_eq_zero_iff.1 (Nat.le_zero.1 hu)] at this; cases this
    refine ⟨?_, done listed fr h m a w hst hall⟩
    cases hrd : Region.ready .any ops.toArray listed with
    | nil => rfl
    | cons i rs =>
      exfalso
      have hmem : i ∈ Region.ready .any ops.toArray listed := by rw [hrd]; exact List.mem_cons_self
      obtain ⟨h0, o, ho, _⟩ := mem_ready.1 hmem
      have hi : i < ops.length := by
        have : ops[i]? = some o := by simpa using ho
        exact (List.getElem?_eq_some_iff.1 this).1
      have h1 := hall i hi
      have : i < listed.size := by rw [hst.size]; exact hi
      simp [this] at h0 h1; rw [h0] at h1; cases h1
  | succ fuel ih =>
    intro listed fr h m a w hu hst
    refine ⟨fun hrd => done listed fr h m a w hst (allOf listed hst.size hrd), fun i hi => ?_⟩
    obtain ⟨h0, o, hoa, _⟩ := mem_ready.1 hi
    have ho : ops[i]? = some o := by simpa using hoa
    have hil : i < ops.length := (List.getElem?_eq_some_iff.1 ho).1
    have hisz : i < listed.size := by rw [hst.size]; exact hil
    have hif : listed.getD i false = false := by simp [hisz] at h0 ⊢; exact h0
    -- what is not put in order against i
    have hfree : ∀ j oj, ops[j]? = some oj → ((j < i ∧ listed.getD j false = false) ∨ (i < j ∧ listed.getD j false = true)) →
        (∀ d, oj.dst = some d → d ∉ o.looksAt ops.toArray ∧ o.dst ≠ some d) ∧ (∀ l b, (l, true) ∈ (tr j).lg → (l, b) ∉ (tr i).lg) := by
      intro j oj hj hcase
      rcases hcase with ⟨hlt, hf⟩ | ⟨hlt, hf⟩
      · rcases hw.pair i o j oj ho hj hlt with hb | ⟨hcl, hap⟩
        · rw [hst.closed.ready hi j hb] at hf; cases hf
        · obtain ⟨p1, p2, p3⟩ := Oper.apart_spec hap
          refine ⟨fun d hd => ⟨p1 d hd, fun e => p2 d hd e⟩, fun l b h1 h2 => ?_⟩
          have := (clash_spec hcl l b true h2 h1).2; cases this
      · rcases hw.pair j oj i o hj ho hlt with hb | ⟨hcl, hap⟩
        · rw [hst.closed j i hf hb] at hif; cases hif
        · obtain ⟨p1, p2, p3⟩ := Oper.apart_spec hap
          refine ⟨fun d hd => ⟨p3 d hd, fun e => p2 d e hd⟩, fun l b h1 h2 => ?_⟩
          have := (clash_spec hcl l true b h1 h2).1; cases this
    have hcut : ∀ k, (k ∈ o.looksAt ops.toArray ∨ o.dst = some k) → fr.get k = (tr i).fr.get k := by
      intro k hk
      refine hst.tmp k i (by omega) (fun j hj hij => ?_) fun j hj hf => ?_
      · rintro ⟨oj, hoj, hd⟩
        have hne : i ≠ j := fun e => by subst e; rw [hif] at hj; cases hj
        obtain ⟨q1, q2⟩ := (hfree j oj hoj (.inr ⟨by omega, hj⟩)).1 k hd
        exact hk.elim q1 q2
      · rintro ⟨oj, hoj, hd⟩
        obtain ⟨q1, q2⟩ := (hfree j oj hoj (.inl ⟨hj, hf⟩)).1 k hd
        exact hk.elim q1 q2
    have hcutl : ∀ l b, (l, b) ∈ (tr i).lg → h.at l = (tr i).h.at l := by
      intro l b hlb
      refine hst.mem l i (by omega) (fun j hj hij hm => ?_) fun j hj hf hm => ?_
      · have hjl : j < ops.length := by
          rcases Nat.lt_or_ge j ops.length with q | q
          · exact q
          · have : ¬ j < listed.size := by rw [hst.size]; omega
            simp [this] at hj
        have hne : i ≠ j := fun e => by subst e; rw [hif] at hj; cases hj
        exact (hfree j ops[j] (by simp [hjl]) (.inr ⟨by omega, hj⟩)).2 l b hm hlb
      · exact (hfree j ops[j] (by simp [show j < ops.length by omega]) (.inl ⟨hj, hf⟩)).2 l b hm hlb
    have hstep := hw.step i o ho
    have hwant : wantedF ops fr o = wantedF ops (tr i).fr o := by
      unfold wantedF
      cases hg : o.guard with
      | none => rfl
      | some jw =>
        obtain ⟨j, want⟩ := jw
        have : yieldedF ops fr j = yieldedF ops (tr i).fr j := by
          unfold yieldedF
          cases hd : (ops[j]?).bind (·.dst) with
          | none => rfl
          | some t =>
            simp only
            rw [hcut t (.inl (by simp [Oper.looksAt, hg, hd]))]
        simp only [this]
    have hev : ∀ x ∈ o.op.operands, fr.eval x = (tr i).fr.eval x := by
      intro x hx
      cases x with
      | tmp t => exact hcut t (.inl (List.mem_append_left _ (List.mem_filterMap.2 ⟨.tmp t, by simpa using hx, rfl⟩)))
      | const v => rfl
      | global g => rfl
      | func f => rfl
    have hread : (listed.setIfInBounds i true).size = ops.length := by simp [hst.size]
    have hgd := getD_set listed i
    have hset : ∀ j, (listed.setIfInBounds i true).getD j false = false → listed.getD j false = false ∧ j ≠ i := fun j hj => by
      refine ⟨?_, fun e => ?_⟩
      · cases hq : listed.getD j false with
        | false => rfl
        | true => rw [(hgd j).2 (.inl hq)] at hj; cases hj
      · rw [(hgd j).2 (.inr ⟨e, hisz⟩)] at hj; cases hj
    have hcount : ((List.range ops.length).filter fun j => !(listed.setIfInBounds i true).getD j false).length ≤ fuel := by
      have := filter_lt (p := fun j => !listed.getD j false) (p' := fun j => !(listed.setIfInBounds i true).getD j false) (List.range ops.length) (fun j hj => by
        rw [Bool.not_eq_true'] at hj ⊢; exact (hset j hj).1) ⟨i, List.mem_range.2 hil, by simp [hif], by rw [Bool.not_eq_false']; exact (hgd i).2 (.inr ⟨rfl, hisz⟩)⟩
      omega
    have hgo : ∀ (m' : Inj) (h' : Heap) (a' : Act) (w' : World), (∀ l, (l, true) ∈ (tr i).lg → h'.at l = (tr (i + 1)).h.at l) → (∀ l, (l, true) ∉ (tr i).lg → h'.at l = h.at l) →
        FRel n M m' (fr.put n o.dst (tr i).v) a' → Sim m' base h' w' → Go1 m base w m' w' → Names m m' (tr i).c (tr (i + 1)).c →
        wpAnyIn (FW r) 0 P .any ops.toArray Qe fuel (listed.setIfInBounds i true) a' w' := by
      intro m' h' a' w' hin hout hfr hsm hg1 hnm
      refine ih _ _ h' m' a' w' hcount ⟨hread, hst.closed.step hi, fun k i0 hi0 c1 c2 => ?_, fun l i0 hi0 c1 c2 => ?_, fun j hj hf x hx1 hx2 => ?_, hfr, hsm, hst.go.trans hg1, ?_⟩
      · by_cases hwk : o.dst = some k
        · have hlt : i < i0 := by
            rcases Nat.lt_or_ge i i0 with q | q
            · exact q
            · exact absurd ⟨o, ho, hwk⟩ (c1 i ((hgd i).2 (.inr ⟨rfl, hisz⟩)) q)
          have hbet : (tr i0).fr.get k = (tr (i + 1)).fr.get k := hw.get (by omega) hi0 fun j h1 h2 hwj => by
            obtain ⟨oj, hoj, hdj⟩ := hwj
            have hjl : listed.getD j false = true := by
              cases hq : (listed.setIfInBounds i true).getD j false with
              | false => exact absurd ⟨oj, hoj, hdj⟩ (c2 j h2 hq)
              | true => rcases (hgd j).1 hq with q | ⟨q, _⟩
                        · exact q
                        · omega
            exact ((hfree j oj hoj (.inr ⟨by omega, hjl⟩)).1 k hdj).2 hwk
          rw [hbet, hstep.fr, hwk, Fr.get_put, Fr.get_put, hcut k (.inr hwk)]
        · have : (fr.put n o.dst (tr i).v).get k = fr.get k := by
            cases hd : o.dst with
            | none => rfl
            | some d => rw [Fr.get_put, if_neg]; rintro ⟨rfl, _⟩; exact hwk hd
          rw [this]
          refine hst.tmp k i0 hi0 (fun j hj hij => c1 j ((hgd j).2 (.inl hj)) hij) fun j hj hf hwj => ?_
          by_cases hji : j = i
          · subst hji
            obtain ⟨o', ho', hd'⟩ := hwj
            rw [ho] at ho'; injection ho' with ho'; subst ho'
            exact hwk hd'
          · refine c2 j hj ?_ hwj
            cases hq : (listed.setIfInBounds i true).getD j false with
            | false => rfl
            | true => rcases (hgd j).1 hq with q | ⟨q, _⟩
                      · rw [q] at hf; cases hf
                      · exact absurd q hji
      · by_cases hwl : (l, true) ∈ (tr i).lg
        · have hlt : i < i0 := by
            rcases Nat.lt_or_ge i i0 with q | q
            · exact q
            · exact absurd hwl (c1 i ((hgd i).2 (.inr ⟨rfl, hisz⟩)) q)
          have hbet : (tr i0).h.at l = (tr (i + 1)).h.at l := hw.at (by omega) hi0 fun j h1 h2 hwj => by
            have hjl : listed.getD j false = true := by
              cases hq : (listed.setIfInBounds i true).getD j false with
              | false => exact absurd hwj (c2 j h2 hq)
              | true => rcases (hgd j).1 hq with q | ⟨q, _⟩
                        · exact q
                        · omega
            exact (hfree j ops[j] (by simp [show j < ops.length by omega]) (.inr ⟨by omega, hjl⟩)).2 l true hwj hwl
          rw [hbet]; exact hin l hwl
        · rw [hout l hwl]
          refine hst.mem l i0 hi0 (fun j hj hij => c1 j ((hgd j).2 (.inl hj)) hij) fun j hj hf hwj => ?_
          by_cases hji : j = i
          · subst hji; exact hwl hwj
          · refine c2 j hj ?_ hwj
            cases hq : (listed.setIfInBounds i true).getD j false with
            | false => rfl
            | true => rcases (hgd j).1 hq with q | ⟨q, _⟩
                      · rw [q] at hf; cases hf
                      · exact absurd q hji
      · obtain ⟨hf', hji⟩ := hset j hf
        refine hnm x (hst.names j hj hf' x hx1 hx2) ?_
        rcases Nat.lt_or_gt_of_ne hji with q | q
        · left; have := hw.ctr (a := j + 1) (b := i) q (by omega); omega
        · right; have := hw.ctr (a := i + 1) (b := j) q (by omega); omega
      · intro x hx hout
        refine hnm x (hst.nms x hx hout) ?_
        have c1 := hw.ctr (a := 0) (b := i) (Nat.zero_le _) (by omega)
        have c2 := hw.ctr (a := i + 1) (b := ops.length) (by omega) (Nat.le_refl _)
        omega
    unfold wpOpIn
    simp only [hoa]
    have hwr := hst.frel.wanted ops o
    rcases hstep.run with ⟨hwt, hok, hrun⟩ | ⟨hwt, hv, hc, hh, hlg⟩
    · rw [← hwr, hwant, hwt, if_pos rfl]
      rw [← opT_congr o hev] at hrun
      obtain ⟨d, hd, hk⟩ := run_local _ hrun
      have hd : (tr i).lg = d := by simpa using hd
      subst hd
      obtain ⟨h', r1, r2, r3⟩ := hk h [] fun e he => hcutl e.1 e.2 (by simpa using he)
      have hwp : wpt (opT P callF fr.eval o) ⟨(tr i).c, h⟩ (fun v s' => v = (tr i).v ∧ s' = ⟨(tr (i + 1)).c, h'⟩) := wpt_of_run _ _ _ _ _ _ _ _ _ r1 ⟨rfl, rfl⟩
      refine oper_sim hN hC hwp (K := some (tr (i + 1)).c) (fun v s' h => by rw [h.2]; intro k e; injection e with e; exact Nat.le_of_eq e) (fun x h1 h2 => hst.names i hil hif x h1 (h2 _ rfl)) hst.sim hst.frel hok fun v v' s' m' w' h1 h2 h3 => ?_
      obtain ⟨rfl, rfl⟩ := h1
      exact hgo m' h' _ w' r2 (fun l hl => (r3 l hl).1) ((hst.frel.mono h3.go.le).put _ h2) h3.sim h3.go h3.names
    · rw [← hwr, hwant, hwt, if_neg (by simp)]
      refine ⟨fun _ _ => trivial, hgo m h _ w (fun l hl => by rw [hlg] at hl; cases hl) (fun l _ => rfl) ?_ hst.sim (.refl _ _ _) (Names.refl _ _ _)⟩
      rw [hv]; exact hst.frel.put _ (.tuple .nil)
end
end Go.Ab
