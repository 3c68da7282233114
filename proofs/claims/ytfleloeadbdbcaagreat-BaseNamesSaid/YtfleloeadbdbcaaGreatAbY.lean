/- What stands in for a function that hands back the keys of a map of strings, sorted. -/
import Derived.Test.YtfleloeadbdbcaaGreatAbX
import Derived.Sort.KeysCollected
import Derived.WideShapes
namespace Go.Ab
open Go.RowKit Go.Maps
open Go.Proofs (encStr)
open Go.WideElems (Fit rd rg)
def leBy : List UInt8 → List UInt8 → Bool
  | [], _ => true
  | _ :: _, [] => false
  | a :: as, b :: bs => bif Nat.blt a.toNat b.toNat then true else (bif Nat.beq a.toNat b.toNat then leBy as bs else false)
theorem leBy_eq : ∀ x y, leBy x y = leB x y
  | [], y => by simp [leBy, leB]
  | a :: as, [] => by simp [leBy, leB]
  | a :: as, b :: bs => by
    simp only [leBy, leB, List.cons_le_cons_iff, leBy_eq as bs, cond_eq_ite, Bool.ite_eq_true_distrib]
    rw [Bool.eq_iff_iff]
    simp only [decide_eq_true_eq, UInt8.lt_iff_toNat_lt, ← UInt8.toNat_inj]
    by_cases h1 : a.toNat < b.toNat
    · simp [(blt_iff _ _).mpr h1, h1]
    · have h2 : Nat.blt a.toNat b.toNat = false := by rw [← Bool.not_eq_true, blt_iff]; exact h1
      by_cases h3 : a.toNat = b.toNat
      · simp [h3, h2]
      · simp [h1, h2, h3, Nat.beq_eq]
def insB (x : List UInt8) : List (List UInt8) → List (List UInt8)
  | [] => [x]
  | y :: ys => bif leBy x y then x :: y :: ys else y :: insB x ys
def sortB : List (List UInt8) → List (List UInt8)
  | [] => []
  | x :: xs => insB x (sortB xs)
theorem insB_perm (x : List UInt8) : ∀ ys, (insB x ys).Perm (x :: ys)
  | [] => .refl _
  | y :: ys => by
    unfold insB
    cases leBy x y with
    | true => exact .refl _
    | false => exact ((insB_perm x ys).cons y).trans (.swap x y ys)
theorem sortB_perm : ∀ l, (sortB l).Perm l
  | [] => .refl _
  | x :: xs => (insB_perm x _).trans ((sortB_perm xs).cons x)
theorem leB_total (a b : List UInt8) : (leB a b || leB b a) = true := by simp only [leB, Bool.or_eq_true, decide_eq_true_eq]; exact List.le_total a b
theorem leB_trans (a b c : List UInt8) (h1 : leB a b = true) (h2 : leB b c = true) : leB a c = true := by simp only [leB, decide_eq_true_eq] at *; exact List.le_trans h1 h2
theorem insB_sorted (x : List UInt8) : ∀ ys, ys.Pairwise (fun a b => leB a b = true) → (insB x ys).Pairwise (fun a b => leB a b = true)
  | [], _ => by simp [insB]
  | y :: ys, h => by
    unfold insB
    obtain ⟨h1, h2⟩ := List.pairwise_cons.1 h
    rw [leBy_eq]
    cases hxy : leB x y with
    | true => exact List.pairwise_cons.2 ⟨fun z hz => by
        rcases List.mem_cons.1 hz with rfl | hz
        · exact hxy
        · exact leB_trans _ _ _ hxy (h1 z hz), h⟩
    | false =>
      have hyx : leB y x = true := by have := leB_total x y; rw [hxy] at this; simpa using this
      exact List.pairwise_cons.2 ⟨fun z hz => by
        rcases List.mem_cons.1 ((insB_perm x ys).mem_iff.1 hz) with rfl | hz
        · exact hyx
        · exact h1 z hz, insB_sorted x ys h2⟩
theorem sortB_sorted : ∀ l, (sortB l).Pairwise (fun a b => leB a b = true)
  | [] => .nil
  | x :: xs => insB_sorted x _ (sortB_sorted xs)
theorem mergeSort_sortB {l l' : List (List UInt8)} (h : l.Perm l') : l.mergeSort leB = sortB l' := by
  refine List.Perm.eq_of_pairwise (le := fun a b => leB a b = true) (fun a b _ _ h1 h2 => ?_) (List.pairwise_mergeSort leB_trans leB_total l) (sortB_sorted l') (((List.mergeSort_perm l leB).trans h).trans (sortB_perm l').symm)
  simp only [leB, decide_eq_true_eq] at h1 h2
  exact List.le_antisymm h1 h2
def keyB (v : Value) : Option (List UInt8) := match v with
  | .string s => some s.data.toList
  | _ => none
def keysB : List MapEntry → Option (List (List UInt8))
  | [] => some []
  | e :: es => match keyB e.key, keysB es with
    | some k, some ks => some (k :: ks)
    | _, _ => none
def notInB (x : List UInt8) : List (List UInt8) → Bool
  | [] => true
  | y :: ys => !(leBy x y && leBy y x) && notInB x ys
def nodupB : List (List UInt8) → Bool
  | [] => true
  | x :: xs => notInB x xs && (Nat.ble x.length 1000 && nodupB xs)
def bornIn (b : Nat) : List MapEntry → Bool
  | [] => false
  | e :: es => Nat.beq e.born b || bornIn b es
def bornsB (clock : Nat) : List MapEntry → Bool
  | [] => true
  | e :: es => Nat.blt e.born clock && (!bornIn e.born es && bornsB clock es)
theorem notInB_iff {x : List UInt8} : ∀ {l}, notInB x l = true → x ∉ l
  | [], _ => by simp
  | y :: ys, h => by
    simp only [notInB, Bool.and_eq_true, Bool.not_eq_true', leBy_eq] at h
    intro hx
    rcases List.mem_cons.1 hx with rfl | hx
    · have := leB_total x x
      simp only [Bool.or_self] at this
      simp [this] at h
    · exact notInB_iff h.2 hx
theorem nodupB_iff : ∀ {l}, nodupB l = true → l.Nodup ∧ ∀ x ∈ l, x.length ≤ 1000
  | [], _ => ⟨.nil, by simp⟩
  | x :: xs, h => by
    simp only [nodupB, Bool.and_eq_true, Nat.ble_eq] at h
    obtain ⟨h1, h2⟩ := nodupB_iff h.2.2
    exact ⟨List.nodup_cons.2 ⟨notInB_iff h.1, h1⟩, fun y hy => by
      rcases List.mem_cons.1 hy with rfl | hy
      · exact h.2.1
      · exact h2 y hy⟩
theorem bornIn_iff {b : Nat} : ∀ {l : List MapEntry}, bornIn b l = false → b ∉ l.map (·.born)
  | [], _ => by simp
  | e :: es, h => by
    simp only [bornIn, Bool.or_eq_false_iff] at h
    rw [List.map_cons, List.mem_cons]
    rintro (rfl | hx)
    · have := h.1; simp at this
    · exact bornIn_iff h.2 hx
theorem bornsB_iff {clock : Nat} : ∀ {l : List MapEntry}, bornsB clock l = true → (∀ x ∈ l, x.born < clock) ∧ (l.map (·.born)).Nodup
  | [], _ => ⟨by simp, .nil⟩
  | e :: es, h => by
    simp only [bornsB, Bool.and_eq_true, blt_iff, Bool.not_eq_true'] at h
    obtain ⟨h1, h2⟩ := bornsB_iff h.2.2
    exact ⟨fun y hy => by
      rcases List.mem_cons.1 hy with rfl | hy
      · exact h.1
      · exact h1 y hy, List.nodup_cons.2 ⟨bornIn_iff h.2.1, h2⟩⟩
theorem keysB_get : ∀ {es : List MapEntry} {ks : List (List UInt8)}, keysB es = some ks → es.map (·.key) = ks.map encStr
  | [], ks, h => by simp only [keysB, Option.some.injEq] at h; subst h; rfl
  | e :: es, ks, h => by
    simp only [keysB] at h
    cases h1 : keyB e.key with
    | none => rw [h1] at h; cases h
    | some k =>
      cases h2 : keysB es with
      | none => rw [h1, h2] at h; cases h
      | some ks1 =>
        rw [h1, h2] at h
        simp only [Option.some.injEq] at h
        subst h
        have h3 : e.key = encStr k := by
          unfold keyB at h1
          split at h1
          · next s hs => injection h1 with h1; subst h1; rw [hs]
          · cases h1
        rw [List.map_cons, List.map_cons, keysB_get h2, h3]
/-- The new slice of the sorted keys. -/
noncomputable def keysT (sT : Nat) (es : List MapEntry) (clock : Nat) : T Value := whenT (bornsB clock es && Nat.ble es.length 1000) (match keysB es with
  | none => .fail
  | some ks => whenT (nodupB ks) (match sortB ks with
    | [] => .ret (.slice none 0 0)
    | x :: xs => (newBlk sT 1 ((x :: xs).map encStr) []).bind fun n => .ret (.slice (some ⟨n, 0, none⟩) (x :: xs).length (x :: xs).length)))
noncomputable def namesT (sT : Nat) (args : List Value) : T Value := match args with
  | [.pointer none] => .ret (.slice none 0 0)
  | [.pointer (some ⟨n, o, none⟩)] => (load1 n o).bind fun v => match v with
    | .map (some r) => (mapAt r).bind fun p => keysT sT p.1.toList p.2
    | _ => .fail
  | _ => .fail
noncomputable def namesE (f sT : Nat) : Ext := fun g args => bite (Nat.beq f g) (some (namesT sT args)) none
theorem NC.keysT (sT : Nat) (es : List MapEntry) (clock : Nat) : NC (keysT sT es clock) := by
  unfold Ab.keysT
  refine NC.whenT ?_
  split
  · trivial
  · refine NC.whenT ?_
    split
    · trivial
    · exact ⟨NC.newBlk _ _ _ _, fun _ => trivial⟩
theorem NC.namesT (sT : Nat) (args : List Value) : NC (namesT sT args) := by
  unfold Ab.namesT
  split
  · trivial
  · refine ⟨NC.load1 _ _, fun v => ?_⟩
    dsimp only
    split
    · exact ⟨NC.mapAt _, fun p => NC.keysT _ _ _⟩
    · trivial
  · trivial
theorem MsRel.keys {m : Inj} : ∀ {es es' : List MapEntry}, MsRel m es es' → es'.map (·.key) = es.map (·.key) ∧ es'.map (·.born) = es.map (·.born)
  | _, _, .nil => ⟨rfl, rfl⟩
  | _, _, .cons h hs => by simp [h.key, h.born, hs.keys.1, hs.keys.2]
/-- What is asked of the function itself. -/
structure NamesCon (P : Program) (f sT : Nat) : Prop where
  fn : ∃ fn c, P.funcs[f]? = some fn ∧ fn.body = some c
  str : P.underlying sT = some .string
  nil : ∀ w, Calls P f #[.pointer none] w fun e w' => e = .returned (.slice none 0 0) ∧ Below w.heap.size w w'
  con : ∀ (w : World) (b nn o r : Nat) (D0 : DataW Unit) (R : Value → Option (DataW Unit × List MemPlace)), w.cell? ⟨b, o, none⟩ = some (.map (some r)) → w.ownsMap P sT R r nn D0 → Maps.size D0 ≤ 1000 →
    Calls P f #[.pointer (some ⟨b, o, none⟩)] w fun e w' => ∃ (v : Value) (ss : List (List UInt8)), e = .returned v ∧ ss.Perm (strKeys D0) ∧
      w'.ownsRow w.heap.size sT 1 v ss.length ((ss.mergeSort leB).map encStr) ∧ (v = .slice none 0 0 ↔ ss = []) ∧ Below w.heap.size w w'
theorem keys_perm {P : Program} {sT : Nat} (hs : P.underlying sT = some .string) {es : List MapEntry} {ks : List (List UInt8)} (hk : es.map (·.key) = ks.map encStr) (hl : ∀ x ∈ ks, x.length ≤ 1000) {R : Value → Option (DataW Unit × List MemPlace)} (hR : R = fun _ => some (.nil, [])) :
    (∀ x ∈ es, ∃ y, rd P sT R x = some y) ∧ (strKeys (.map ((es.map (rg P sT R)).foldr DataW.insert [])) : List (List UInt8)).Perm ks := by
  have h1 : ∀ {es : List MapEntry} {ks : List (List UInt8)}, es.map (·.key) = ks.map encStr → (∀ x ∈ ks, x.length ≤ 1000) → (∀ x ∈ es, ∃ y, rd P sT R x = some y) ∧ (es.map (rg P sT R)).map (fun p => strOf p.1) = ks := by
    intro es
    induction es with
    | nil => intro ks hk _; cases ks with
      | nil => exact ⟨by simp, rfl⟩
      | cons k ks => cases hk
    | cons e es ih =>
      intro ks hk hl
      cases ks with
      | nil => cases hk
      | cons k ks =>
        simp only [List.map_cons, List.cons.injEq] at hk
        obtain ⟨g1, g2⟩ := ih hk.2 fun x hx => hl x (List.mem_cons_of_mem _ hx)
        have hkk : keyOf P sT e.key = some (.string k) := by
          have := hl k List.mem_cons_self
          rw [hk.1]
          unfold keyOf
          rw [hs]
          simp only [mapKey, hs]
          have h5 : ByteArray.size ⟨k.toArray⟩ = k.length := rfl
          rw [if_pos]
          have h6 : (1000 : Nat) ≤ maxLen := by decide
          exact Nat.le_trans (h5 ▸ this) h6
        have h7 : rd P sT R e = some (.string k, .nil) := by simp [rd, hkk, hR]
        refine ⟨fun x hx => ?_, ?_⟩
        · rcases List.mem_cons.1 hx with rfl | hx
          · exact ⟨_, h7⟩
          · exact g1 x hx
        · simp only [List.map_cons, g2, rg, h7]
          rfl
  obtain ⟨g1, g2⟩ := h1 hk hl
  refine ⟨g1, ?_⟩
  have := ((WideShapes.sorted_perm (es.map (rg P sT R))).map fun p => strOf p.1)
  rw [g2] at this
  exact this
theorem one_arg {m : Inj} {x : Value} {args' : Array Value} (ha : LRel m [x] args'.toList) : ∃ v', args' = #[v'] ∧ VRel m x v' := by
  cases hl : args'.toList with
  | nil => rw [hl] at ha; cases ha
  | cons a b =>
    rw [hl] at ha
    cases ha with
    | cons h hs =>
      cases hs
      exact ⟨a, Array.ext' (by rw [hl]), h⟩
theorem namesE_ok {P : Program} {f sT : Nat} (hc : NamesCon P f sT) : ExtOK P (namesE f sT) := fun base g args t h args' s w m K Q hw hQ hf hs ha => by
  have h : bite (Nat.beq f g) (some (namesT sT args)) none = some t := h
  cases hfg : Nat.beq f g with
  | false => rw [hfg] at h; cases h
  | true =>
  rw [hfg] at h
  have h : some (namesT sT args) = some t := h
  injection h with h
  subst h
  obtain rfl : f = g := Nat.eq_of_beq_eq_true hfg
  refine ⟨hc.fn, ?_⟩
  obtain ⟨v, c2, h2, lg2, hr, hq⟩ := run_of_wpt _ [] (NC.namesT sT args) hw
  unfold namesT at hr
  split at hr
  · obtain ⟨rfl, rfl, rfl, _⟩ := run_ret_inv hr
    obtain ⟨v', rfl, hv'⟩ := one_arg ha
    cases hv'
    refine (hc.nil w).mono fun e w' he => ?_
    obtain ⟨rfl, hb⟩ := he
    exact ⟨_, _, _, m, rfl, hq, .slNil, hs.more (fun k hk => hb.block k hk) hb.size, ⟨m.le_refl, fun _ _ h => .inl h, hb.os, hb.tape, hb.output, hb.size, fun k hk _ => hb.block k hk⟩, Nat.le_refl _, Names.refl _ _ _⟩
  · next n o _ =>
    obtain ⟨v', rfl, hv'⟩ := one_arg ha
    cases hv' with
    | @ptr _ _ i hi =>
    obtain ⟨v1, c1, h1, lg1, e1, e2⟩ := run_bind_inv hr
    obtain ⟨bi, hb, hd, ho, hv, rfl, rfl⟩ := run_load1_inv e1
    obtain ⟨i2, v1', g1, g2, g3⟩ := hs.load hb hd ho hv
    obtain rfl : i2 = i := by rw [hi] at g1; injection g1 with g1; exact g1.symm
    split at e2
    · next r =>
      cases g3 with
      | @map _ i3 hir =>
      obtain ⟨p, c3, h3, lg3, e3, e4⟩ := run_bind_inv e2
      obtain ⟨rfl, rfl, hcell, es', hmap, hms⟩ := mapAt_sim hs hir e3
      unfold keysT at e4
      obtain ⟨q1, e5⟩ := run_whenT_inv e4
      rw [Bool.and_eq_true, Nat.ble_eq] at q1
      split at e5
      · cases e5
      · next ks hks =>
      obtain ⟨q2, e6⟩ := run_whenT_inv e5
      have hk := keysB_get hks
      obtain ⟨hnd, hlen⟩ := nodupB_iff q2
      obtain ⟨b1, b2⟩ := bornsB_iff q1.1
      have hk' : es'.toList.map (·.key) = ks.map encStr := hms.keys.1.trans hk
      obtain ⟨hreads, hperm⟩ := keys_perm (P := P) hc.str hk' hlen (R := fun _ => some (.nil, [])) rfl
      have hsize : es'.toList.length = ks.length := by simpa using congrArg List.length hk'
      have hsize2 : p.1.toList.length = ks.length := by simpa using congrArg List.length hk
      have h1000 : (1000 : Nat) ≤ maxLen := by decide
      have hfit : Fit P sT (fun _ => some (.nil, [])) es' p.2 (H := Unit) := by
        refine ⟨?_, ⟨fun x hx => ?_, ?_, ?_⟩, hreads⟩
        · have : es'.size = ks.length := by simpa using hsize
          omega
        · have : x.born ∈ es'.toList.map (·.born) := List.mem_map_of_mem hx
          rw [hms.keys.2] at this
          obtain ⟨y, hy, he⟩ := List.mem_map.1 this
          rw [← he]
          exact b1 y hy
        · rw [hms.keys.2]; exact b2
        · rw [hk']
          refine List.pairwise_map.2 (hnd.imp fun {a b} hne he => hne (encStr_inj he))
      have hD : Maps.size (H := Unit) (.map ((es'.toList.map (rg P sT fun _ => some (.nil, []))).foldr DataW.insert [])) ≤ 1000 := by
        show List.length _ ≤ 1000
        rw [(WideShapes.sorted_perm _).length_eq, List.length_map]
        omega
      refine (hc.con w i2.blk es'.size (o + i2.del) i3.blk _ _ g2 ⟨es', p.2, hmap, hfit, Nat.le_refl _, rfl⟩ hD).mono fun e w' he => ?_
      obtain ⟨v', ss, rfl, hss, hrow, hnil, hbel⟩ := he
      rw [mergeSort_sortB (hss.trans hperm)] at hrow
      have hssl : ss.length = (sortB ks).length := (hss.trans hperm).length_eq.trans (sortB_perm ks).length_eq.symm
      split at e6
      · next hnl =>
        obtain ⟨rfl, rfl, rfl, _⟩ := run_ret_inv e6
        rw [hnl] at hssl
        obtain rfl := hnil.2 (List.eq_nil_of_length_eq_zero hssl)
        exact ⟨_, _, _, m, rfl, hq, .slNil, hs.more (fun k hk => hbel.block k hk) hbel.size, ⟨m.le_refl, fun _ _ h => .inl h, hbel.os, hbel.tape, hbel.output, hbel.size, fun k hk _ => hbel.block k hk⟩, Nat.le_refl _, Names.refl _ _ _⟩
      · next x xs hx =>
        rw [hx] at hssl hrow
        obtain ⟨n2, c4, h4, lg4, e7, e8⟩ := run_bind_inv e6
        obtain ⟨rfl, rfl, rfl, _⟩ := run_ret_inv e8
        obtain ⟨_, rfl, rfl, hl⟩ := run_newBlk_inv e7
        obtain ⟨hlen2, hcase⟩ := hrow
        rcases hcase with ⟨_, h0⟩ | ⟨g, cap, cur, rfl, hbg, hg, hcap, _, hcur, htake⟩
        · rw [hssl] at h0; simp at h0
        · have hcn : m s.ctr = none := hf _ (Nat.le_refl _) fun k hk => hQ _ _ hq k hk
          have hn : ss.length = ((x :: xs).map encStr).length := by rw [hssl, List.length_map]
          have hsz : cur.size = cap := by rw [hcur, Nat.mul_one]
          have hs1 := (hs.more (w' := w') (fun k hk => hbel.block k hk) hbel.size).add hcn (i0 := ⟨g, 0, ((x :: xs).map encStr).length, 1, cur.size⟩) (.inl rfl) (fun _ => rfl) rfl rfl rfl rfl hl hg (by simp only; omega) (by have := hs.room; simp only; omega) (fun k v hk => by
              have hk2 : (cur.toList.take (ss.length * 1))[k]? = some v := by rw [htake]; exact hk
              rw [List.getElem?_take] at hk2
              split at hk2
              · refine ⟨v, by simpa using hk2, ?_⟩
                rw [List.getElem?_map] at hk
                cases hq : (x :: xs)[k]? with
                | none => rw [hq] at hk; cases hk
                | some y => rw [hq] at hk; simp only [Option.map_some, Option.some.injEq] at hk; subst hk; exact .string _
              · cases hk2)
            (fun n2 b2 i2 f1 f2 f3 f4 => by have h6 := hs.dom n2 i2 f3; have h5 : i2.blk = g := f4; omega)
          refine ⟨_, _, _, _, rfl, hq, ?_, hs1, ⟨upd_le hcn _, fun n j hn => (upd_inv hn).elim (fun q => .inr (.inl (by rw [q.2]; exact hbg))) fun q => .inl q.2, hbel.os, hbel.tape, hbel.output, hbel.size, fun k hk _ => hbel.block k hk⟩, Nat.le_succ _, upd_names _ _ _⟩
          rw [hn, List.length_map]
          exact VRel.sl (n := s.ctr) (o := 0) (upd_self m _ _) (.inr ⟨by rw [← List.length_map (f := encStr), ← hn]; exact hcap, by simp, by simp [hsz]⟩) (Nat.le_refl _)
    · cases e2
  · cases hr
end Go.Ab
