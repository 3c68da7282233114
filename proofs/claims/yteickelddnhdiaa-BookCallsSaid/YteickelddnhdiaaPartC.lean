/- Contract of part.Cut. -/
import Derived.Test.YteickelddnhdiaaBase
import Derived.Test.YteickelddnhdiaaChunk32
import Derived.Test.YteickelddnhdiaaReg
namespace Go.Proofs.Yteickelddnhdiaa.G
open Go.RowKit Go.Shelf Go.Proofs.YteickelddnhdiaaW.PrintWords
set_option linter.unusedVariables false
set_option linter.unusedSimpArgs false

def partE (dim parts : Int) : Int := if dim < 1 ∨ dim > 1024 ∨ parts < 1 ∨ dim % parts ≠ 0 then 2 else 0
def partW (dim parts : Int) : Int := if partE dim parts ≠ 0 then 0 else dim / parts
theorem PCheck_calls (dim parts : Int) (w : World) :
    Calls Try.prog 83 #[.int .i64 dim, .int .i64 parts] w fun e w' => e = .returned (.int .i64 (partE dim parts)) ∧ w = w' := by
  by_cases h1 : dim < 1
  · have HE := Aside0.mk (show partE dim parts = 2 by simp [partE, h1])
    have d1 : decide (dim < 1) = true := by simpa using h1
    go_enter Try.func83, Try.ntmps83
    go_wp2
    go_ret
    exact ⟨by rw [HE.out]; rfl, rfl⟩
  have d1 : decide (dim < 1) = false := by simpa using h1
  by_cases h2 : dim > 1024
  · have HE := Aside0.mk (show partE dim parts = 2 by simp [partE, h2])
    have d2 : decide (dim > 1024) = true := by simpa using h2
    go_enter Try.func83, Try.ntmps83
    go_wp2
    go_ret
    exact ⟨by rw [HE.out]; rfl, rfl⟩
  have d2 : decide (dim > 1024) = false := by simpa using h2
  by_cases h3 : parts < 1
  · have HE := Aside0.mk (show partE dim parts = 2 by simp [partE, h3])
    have d3 : decide (parts < 1) = true := by simpa using h3
    go_enter Try.func83, Try.ntmps83
    go_wp2
    go_ret
    exact ⟨by rw [HE.out]; rfl, rfl⟩
  have d3 : decide (parts < 1) = false := by simpa using h3
  have hp0 : ¬ parts = 0 := by omega
  have hd0 : 0 ≤ dim := by omega
  obtain ⟨r, hr⟩ : ∃ r, dim % parts = r := ⟨_, rfl⟩
  have hrt : dim.tmod parts = r := by rw [Int.tmod_eq_emod_of_nonneg hd0, hr]
  by_cases h4 : r = 0
  · have HE := Aside0.mk (show partE dim parts = 0 by simp [partE, h1, h2, h3, hr, h4])
    have d4 : (r != 0) = false := by simpa using h4
    go_enter Try.func83, Try.ntmps83
    go_wp2
    go_ret
    exact ⟨by rw [HE.out]; rfl, rfl⟩
  · have HE := Aside0.mk (show partE dim parts = 2 by simp [partE, hr, h4])
    have d4 : (r != 0) = true := by simpa using h4
    go_enter Try.func83, Try.ntmps83
    go_wp2
    go_ret
    exact ⟨by rw [HE.out]; rfl, rfl⟩
theorem PWidth_calls (dim parts : Int) (w : World) :
    Calls Try.prog 122 #[.int .i64 dim, .int .i64 parts] w fun e w' => e = .returned (.int .i64 (partW dim parts)) ∧ w = w' := by
  have HC := Aside0.mk (PCheck_calls dim parts w)
  by_cases h : partE dim parts = 0
  · have HE := Aside0.mk (show partW dim parts = dim / parts by simp [partW, h])
    have hd : ¬ parts = 0 ∧ 0 ≤ dim ∧ 1 ≤ parts ∧ dim ≤ 1024 := by
      unfold partE at h
      split at h
      · omega
      · omega
    rw [h] at HC
    obtain ⟨h1, h2, h3, h4⟩ := hd
    have q1 : 0 ≤ dim / parts := Int.ediv_nonneg h2 (by omega)
    have q2 : dim / parts ≤ dim := Int.ediv_le_self _ h2
    have hq : dim.tdiv parts = dim / parts := Int.tdiv_eq_ediv_of_nonneg h2
    generalize dim / parts = q at *
    clear h
    go_enter Try.func122, Try.ntmps122
    go_wp2_with fail
    refine HC.out.mono ?_
    rintro e w1 ⟨rfl, rfl⟩
    go_wp2_with fail
    go_ret
    exact ⟨by rw [HE.out]; rfl, rfl⟩
  · have HE := Aside0.mk (show partW dim parts = 0 by simp [partW, h])
    have d : (partE dim parts != 0) = true := by simpa using h
    generalize partE dim parts = E at *
    clear h
    go_enter Try.func122, Try.ntmps122
    go_wp2_with fail
    refine HC.out.mono ?_
    rintro e w1 ⟨rfl, rfl⟩
    go_wp2_with fail
    go_ret
    exact ⟨by rw [HE.out]; rfl, rfl⟩

set_option maxRecDepth 100000 in
/-- slices.Clone of a slice that is there. -/
theorem Clone_row (ad : Addr) (c0 n : Nat) (l0 : List Int) (w : World) (hr0 : Kd.C (Kd.int .i32) w (some ad) n l0) (hlim : l0.length ≤ 17592186044416) :
    Calls Try.prog 94 #[.slice (some ad) n c0] w fun e w' => ∃ v : Value, e = .returned v ∧
      w'.ownsRow w.heap.size 21 1 v l0.length (nums .i32 l0) ∧ Below w.heap.size w w' := by
  have hn : l0.length = n := hr0.1
  subst hn
  have hlit := own_lit w w.heap.size 21 .i32 [] (Nat.le_refl _) (by simp)
  have hb0 := (Below.refl w.heap.size w).alloc (Nat.le_refl _) (.cells (nums .i32 []).toArray 21)
  have HR := Aside0.mk (C_reads (Kd.C_below hr0 hb0))
  have HO := Aside0.mk hlit
  have HB := Aside0.mk hb0
  have HL := Aside0.mk hlim
  have heq : ∀ W, (binOp .eql 39 (.slice (some ad) l0.length c0) (.slice none 0 0)).run Try.prog W = .ok (.bool false) W := fun W => by kernel_rfl
  clear hr0 hlit hb0 hlim
  go_enter Try.func94, Try.ntmps94
  go_wp2_with (at_builtin; refine print_append_row w.heap.size rfl (.tmp 5) (.tmp 6) 39 21 .i32 4 rfl Try.underlying39 info_i32 (by decide) _ [] l0 _ _ _ rfl rfl HO.out HR.out HB.out HB.out.size (by have := HL.out; simp; omega) ?_; intro v1 w1 ho hb hg hat; have HO2 := Aside0.mk ho; have HB2 := Aside0.mk hb; clear ho hb hg hat)
  go_ret
  exact ⟨_, rfl, HO2.out, HB2.out⟩

end Go.Proofs.Yteickelddnhdiaa.G

namespace Go.Proofs.Yteickelddnhdiaa.G
open Go.RowKit Go.Shelf Go.Proofs.YteickelddnhdiaaW.PrintWords
set_option linter.unusedVariables false
set_option linter.unusedSimpArgs false

theorem R_notCells {α : Type} {d : Kd α} {e : Nat} {X Y : World} {base : Nat} {v : Value} {xs : List α} {row : Option Nat} (h : d.R e X base (fun _ => True) v xs) (hg : X.grownBy Y row) (hrow : ∀ r, row = some r → ∃ o : Obj, X.heap[r]? = some o ∧ o.isCells = false) : d.R e Y base (fun _ => True) v xs := by
  have h2 := Kd.R_bound h
  refine Kd.R_mono (Kd.R_grown h2 hg ?_) (fun _ _ => trivial)
  intro k hk he
  obtain ⟨_, _, _, q, hq, cells', hc⟩ := hk
  obtain ⟨o, ho, hn⟩ := hrow k he.symm
  rw [hc] at ho
  cases ho
  cases hn
theorem holdsR_own {α β : Type} (d : Kd α) (base B : Nat) (t e : TypeId) (f : β → List α) : Own (fun s W => ∃ v, Boxed W B t v ∧ d.R e W base (fun _ => True) v (f s)) := by
  rintro s X Y row ⟨v, hv, hr⟩ hg hrow
  refine ⟨v, hv.kept hg (fun e' => ?_), R_notCells hr hg hrow⟩
  obtain ⟨o, ho, hc⟩ := hrow B e'.symm
  rw [show X.heap[B]? = _ from hv] at ho
  cases ho
  cases hc

/-- append(v, row) of one own row, as an equation. -/
theorem appR_run (base : Nat) (W : World) (v : Value) (xs : List (List Int)) (x : Value) (p : List Int) (hx : (Kd.int .i32).R 21 W base (fun k => some k ≠ v.ownBlock) x p) (HO : (Kd.slice 21 (Kd.int .i32)).R 39 W base (fun _ => True) v xs)
    (hl : (xs.length + 1) * 24 ≤ 140737488355328) (hbase : base ≤ W.heap.size) :
    ∃ v1 w1, (Builtin.append_ #[22, 22] 22 #[v, .slice (some ⟨W.heap.size, 0, none⟩) 1 1]).run Try.prog (W.alloc (.cells #[x] 39)) = .ok v1 w1 ∧ (Kd.slice 21 (Kd.int .i32)).R 39 w1 base (fun _ => True) v1 (xs ++ [p]) ∧ (W.alloc (.cells #[x] 39)).grownBy w1 v.ownBlock ∧ (v1.ownBlock = v.ownBlock ∨ v1.ownBlock = some (W.heap.size + 1)) := by
  have hinfo : (Try.prog.info? 39).map (fun i => (i.zero, i.size, i.bytes)) = some (some (.slice none 0 0), 1, 24) := by kernel_rfl
  obtain ⟨i0, hi, hzz⟩ := Option.map_eq_some_iff.1 hinfo
  simp only [Prod.mk.injEq] at hzz
  obtain ⟨hz0, hz1, hz2⟩ := hzz
  obtain ⟨h0, inner, hown, hr⟩ := HO
  have hone : x.oneCell' = true := by
    obtain ⟨A, c, rfl, _⟩ := Kd.R_reads hx
    rfl
  obtain ⟨v1, w1, hrun, ho, hg, _, hat⟩ := run_append_own_at (P := Try.prog) (W.alloc (.cells #[x] 39)) base 22 22 39 i0 (.slice none 0 0) 1 24 Try.underlying22 hi hz0 hz1 hz2 rfl (by decide) v xs.length inner (hown.alloc _) ⟨W.heap.size, 0, none⟩ 1 1 [x] rfl (cell_one_new _ _ _) (by simpa using hone) (by simp only [maxLen]; omega) hl (by simp; omega)
  have hg2 : W.grownBy w1 v.ownBlock := World.grownBy.trans (World.grownBy_alloc W _ _) hg
  have hat2 : v1.ownBlock = v.ownBlock ∨ ∃ b, v1.ownBlock = some b ∧ W.heap.size ≤ b := by
    rcases hat with h | h
    · exact .inl h
    · exact .inr ⟨_, h, by simp⟩
  exact ⟨v1, w1, hrun, Kd.R_appended h0 hr (okp := fun k => some k ≠ v.ownBlock) ⟨x, rfl, hx⟩ (fun k hk => ⟨trivial, hk⟩) (fun _ _ => trivial) ho hg2 hat2, hg, by simpa using hat⟩

end Go.Proofs.Yteickelddnhdiaa.G

namespace Go.Proofs.Yteickelddnhdiaa.G
open Go.RowKit Go.Shelf Go.Proofs.YteickelddnhdiaaW.PrintWords
attribute [local go_sem] Oper.semAt_some
set_option linter.unusedVariables false
set_option linter.unusedSimpArgs false

/-- Piece k of width wd. -/
def pieceL (l : List Int) (wd k : Nat) : List Int := (l.drop (k * wd)).take wd
def cutE (l : List Int) (parts : Int) : Int := partE l.length parts
def cutL (l : List Int) (parts : Int) : List (List Int) := if cutE l parts = 0 then (List.range parts.toNat).map (pieceL l (l.length / parts.toNat)) else []

theorem pieces_mul (pn wd : Nat) (h : 1 ≤ wd) : C32.pieces (pn * wd) wd = pn := by
  rcases Nat.lt_trichotomy (C32.pieces (pn * wd) wd) pn with h1 | h1 | h1
  · have h2 := (C32.pieces_lt (len := pn * wd) (c := wd) (k := C32.pieces (pn * wd) wd) h).2 (Nat.mul_lt_mul_of_pos_right h1 h)
    omega
  · exact h1
  · have h2 := (C32.pieces_lt (len := pn * wd) (c := wd) (k := pn) h).1 h1
    omega
theorem part_ok {len : Nat} {parts : Int} (h : partE len parts = 0) : ∃ pn wd : Nat, parts = (pn : Int) ∧ 1 ≤ pn ∧ 1 ≤ wd ∧ len = pn * wd ∧ len ≤ 1024 ∧ partW len parts = (wd : Int) ∧ len / pn = wd := by
  have hw : partW len parts = (len : Int) / parts := by simp [partW, h]
  unfold partE at h
  split at h
  · omega
  · rename_i hc
    obtain ⟨pn, rfl⟩ : ∃ pn : Nat, parts = (pn : Int) := ⟨parts.toNat, by omega⟩
    have h1 : 1 ≤ pn := by omega
    have h2 : len % pn = 0 := by
      have h3 : (len : Int) % (pn : Int) = 0 := by
        refine Classical.byContradiction fun h4 => hc (.inr (.inr (.inr h4)))
      omega
    have h5 : len = pn * (len / pn) := (Nat.mul_div_cancel' (Nat.dvd_of_mod_eq_zero h2)).symm
    refine ⟨pn, len / pn, rfl, h1, ?_, h5, by omega, by rw [hw]; simp, rfl⟩
    rcases Nat.eq_zero_or_pos (len / pn) with h6 | h6
    · rw [h6, Nat.mul_zero] at h5
      omega
    · exact h6

/-- What a round does: Clone's row appended, the box written. -/
theorem cut_step {w W w2 : World} {v vc a1 a2 : Value} {xs : List (List Int)} {p : List Int} {t1 t2 : TypeId}
    (hB : Below w.heap.size w W) (hv : Boxed W w.heap.size 22 v) (hrow : (Kd.slice 21 (Kd.int .i32)).R 39 W (w.heap.size + 3) (fun _ => True) v xs)
    (hS1 : Boxed W (w.heap.size + 1) t1 a1) (hC1 : Boxed W (w.heap.size + 1 + 1) t2 a2)
    (hsz : w.heap.size + 3 ≤ W.heap.size)
    (ho : w2.ownsRow W.heap.size 21 1 vc p.length (nums .i32 p)) (hb2 : Below W.heap.size W w2) (hl : (xs.length + 1) * 24 ≤ 140737488355328) :
    ∃ A1 n1 k1 w1, (Builtin.append_ #[22, 22] 22 #[v, .slice (some ⟨w2.heap.size, 0, none⟩) 1 1]).run Try.prog (w2.alloc (.cells #[vc] 39)) = .ok (.slice A1 n1 k1) w1 ∧
      w1.cell? ⟨w.heap.size, 0, none⟩ = some v ∧ w1.frozen? ⟨w.heap.size, 0, none⟩ = false ∧ (w2.alloc (.cells #[vc] 39)).cell? ⟨w.heap.size, 0, none⟩ = some v ∧ w2.cell? ⟨w.heap.size, 0, none⟩ = some v ∧
      (KeepsFrom (w.heap.size + 3) W (w1.setCell ⟨w.heap.size, 0, none⟩ (.slice A1 n1 k1)) ∧ C32.Keep2 (w.heap.size + 1) (w.heap.size + 1 + 1) W (w1.setCell ⟨w.heap.size, 0, none⟩ (.slice A1 n1 k1)) ∧
        ((∃ v, Boxed (w1.setCell ⟨w.heap.size, 0, none⟩ (.slice A1 n1 k1)) w.heap.size 22 v ∧ (Kd.slice 21 (Kd.int .i32)).R 39 (w1.setCell ⟨w.heap.size, 0, none⟩ (.slice A1 n1 k1)) (w.heap.size + 3) (fun _ => True) v (xs ++ [p])) ∧
          (Boxed (w1.setCell ⟨w.heap.size, 0, none⟩ (.slice A1 n1 k1)) (w.heap.size + 1) t1 a1 ∧ Boxed (w1.setCell ⟨w.heap.size, 0, none⟩ (.slice A1 n1 k1)) (w.heap.size + 1 + 1) t2 a2) ∧ Below w.heap.size w (w1.setCell ⟨w.heap.size, 0, none⟩ (.slice A1 n1 k1)))) := by
  have hlt : ∀ {B : Nat} {t : TypeId} {u : Value}, Boxed W B t u → B < W.heap.size := fun h => (Array.getElem?_eq_some_iff.1 h).1
  have hv2 : Boxed w2 w.heap.size 22 v := (hb2.block _ (hlt hv)).trans hv
  have hS2 : Boxed w2 (w.heap.size + 1) t1 a1 := (hb2.block _ (hlt hS1)).trans hS1
  have hC2 : Boxed w2 (w.heap.size + 1 + 1) t2 a2 := (hb2.block _ (hlt hC1)).trans hC1
  have hr2 := Kd.R_below hrow hb2
  obtain ⟨inner, hown⟩ := Kd.R_own hrow
  have hs1 : some (w.heap.size + 1) ≠ v.ownBlock := fun e => by have := own_base hown _ e.symm; omega
  have hs2 : some (w.heap.size + 1 + 1) ≠ v.ownBlock := fun e => by have := own_base hown _ e.symm; omega
  obtain ⟨inner2, hown2⟩ := Kd.R_own hr2
  have hx : (Kd.int .i32).R 21 w2 (w.heap.size + 3) (fun k => some k ≠ v.ownBlock) vc p := by
    refine Kd.R_lower (Kd.R_mono (Kd.R_bound (R_nums ho rfl)) ?_) hsz
    intro k hk e
    have := own_lt hown k e.symm
    omega
  have hB2 := below_then hB hB.size hb2
  obtain ⟨v1, w1, hrun, hR, hg, hat⟩ := appR_run (w.heap.size + 3) w2 v xs vc p hx hr2 hl (Nat.le_trans hsz hb2.size)
  obtain ⟨A1, k1, rfl⟩ := Kd.R_slice hR
  have hnr : some w.heap.size ≠ v.ownBlock := hv2.not_row (by decide) hown2
  have hv3 : Boxed w1 w.heap.size 22 v := (hv2.alloc _).kept hg hnr
  have hS3 : Boxed w1 (w.heap.size + 1) t1 a1 := (hS2.alloc _).kept hg hs1
  have hC3 : Boxed w1 (w.heap.size + 1 + 1) t2 a2 := (hC2.alloc _).kept hg hs2
  have hKO : KeepsOthers W (w1.setCell ⟨w.heap.size, 0, none⟩ (.slice A1 (xs ++ [p]).length k1)) := by
    refine (KeepsOthers.trans ?_ (KeepsOthers.trans (KeepsOthers.alloc w2 _) (KeepsOthers.of_grownBy hg ?_))).trans (KeepsOthers.setCell _ _ _)
    · exact ⟨hb2.size, fun k o hk _ => (hb2.block k (Array.getElem?_eq_some_iff.1 hk).1).trans hk⟩
    · intro j o ej hj
      obtain ⟨cells, hc⟩ := own_typed (hown2.alloc (.cells #[vc] 39)) j ej
      rw [hc] at hj
      cases hj
      rfl
  refine ⟨A1, _, k1, w1, hrun, hv3.cell, hv3.frozen, (hv2.alloc _).cell, hv2.cell, hKO.from _, ⟨?_, ?_⟩, ⟨_, hv3.set _, Kd.R_set hR hv3 (by decide) 0 _⟩, ⟨hS3.other (by omega) _, hC3.other (by omega) _⟩, ?_⟩
  · exact (hS3.other (by omega) _ : _ = _).trans hS1.symm
  · exact (hC3.other (by omega) _ : _ = _).trans hC1.symm
  · exact ((hB2.alloc hB2.size _).grown hg (by simp; have := hB2.size; omega) (fun k e => by have := own_base hown2 k e; omega)).setCell (p := ⟨w.heap.size, 0, none⟩) (Nat.le_refl _) _

set_option maxRecDepth 100000 in
set_option maxHeartbeats 2000000 in
theorem Cut_calls (A0 : Option Addr) (c0 : Nat) (l0 : List Int) (parts : Int) (w : World) (hr0 : Kd.C (Kd.int .i32) w A0 l0.length l0) (hc0 : l0.length ≤ c0) :
    Calls Try.prog 90 #[.slice A0 l0.length c0, .int .i64 parts] w fun e w' => ∃ v : Value, e = .returned (.tuple #[v, .int .i64 (cutE l0 parts)]) ∧ (Kd.slice 21 (Kd.int .i32)).R 39 w' w.heap.size (fun _ => True) v (cutL l0 parts) ∧ Below w.heap.size w w' := by
  by_cases h1 : partE l0.length parts = 0
  · have HE := Aside0.mk (show cutE l0 parts = 0 from h1)
    rw [HE.out]
    obtain ⟨pn, wd, rfl, hp1, hw1, hln, hl2, hWv, hdv⟩ := part_ok h1
    have hN := pieces_mul pn wd hw1
    rw [← hln] at hN
    have HV := Aside0.mk (show cutL l0 (pn : Int) = (List.range pn).map (pieceL l0 wd) by unfold cutL; rw [if_pos HE.out, Int.toNat_natCast, hdv])
    rw [HV.out]
    have hchk := fun W => PCheck_calls l0.length (pn : Int) W
    have hwid := fun W => PWidth_calls l0.length (pn : Int) W
    rw [h1] at hchk
    rw [hWv] at hwid
    have HChk := Aside0.mk hchk
    have HWid := Aside0.mk hwid
    have HR := Aside0.mk hr0
    have HA := Aside0.mk (show 0 < l0.length → ∃ ad, A0 = some ad from fun h => by obtain ⟨ad, e, _⟩ := C_ints hr0 0 h; exact ⟨ad, e⟩)
    have HN := Aside0.mk hN
    have HLn := Aside0.mk hln
    have hwle : wd ≤ 1024 := by
      have := Nat.mul_le_mul_right wd hp1
      omega
    have hfc : Fence.wide.fn 121 := trivial
    have hfk : Fence.wide.fn 83 := trivial
    have hfw : Fence.wide.fn 122 := trivial
    have hfl : Fence.wide.fn 94 := trivial
    clear hr0 h1 hln hN hWv hdv hchk hwid HE HV
    refine (callsIn_wide (n := 4)).1 ?_
    refine callsIn_of_wp_marks Try.func90 rfl trivial ?_ rfl
    simp only [Try.ntmps90, List.size_toArray, List.length_cons, List.length_nil, Nat.reduceAdd, Nat.reduceSub, Array.replicate_succ, Array.replicate_zero, List.push_toArray, List.append_toArray, List.nil_append, List.cons_append]
    gi_wp2_with (first | (gi_at_call 83; refine (callsIn_wide.2 (HChk.out _)).mono ?_; rintro e w' ⟨rfl, rfl⟩) | (gi_at_call 122; refine (callsIn_wide.2 (HWid.out _)).mono ?_; rintro e w' ⟨rfl, rfl⟩) | (gi_at_call 121; refine (C32.chunk_in _ _ _ _ wd hw1 (by omega) _).mono ?_; rintro e w' ⟨rfl, rfl⟩))
    have bO := Boxed.new w 22 (.slice none 0 0)
    have bS := Boxed.new (w.alloc (.cells #[.slice none 0 0] 22)) 39 (.slice A0 l0.length c0)
    have bC := Boxed.new ((w.alloc (.cells #[.slice none 0 0] 22)).alloc (.cells #[.slice A0 l0.length c0] 39)) 3 (.int .i64 wd)
    rw [World.size_alloc] at bS
    rw [World.size_alloc, World.size_alloc] at bC
    have hB0 : Below w.heap.size w (((w.alloc (.cells #[.slice none 0 0] 22)).alloc (.cells #[.slice A0 l0.length c0] 39)).alloc (.cells #[.int .i64 wd] 3)) := (((Below.refl _ w).alloc (Nat.le_refl _) _).alloc (by simp) _).alloc (by simp; omega) _
    refine wpIn_rangeFunc_ownG rfl (by omega) (gf := 140) (lb := #[.pointer (some ⟨w.heap.size + 1, 0, none⟩), .pointer (some ⟨w.heap.size + 1 + 1, 0, none⟩)]) rfl trivial (enters_of Try.func140 (by kernel_rfl) rfl)
      (C32.chunk_stops 3 (by omega) (w.heap.size + 1) (w.heap.size + 1 + 1) A0 l0.length c0 wd HA.out hw1 (by omega) hc0 (by omega) _ (by simp) (by simp) (bS.alloc _).cell bC.cell) C32.Keep2.t (C32.Keep2.b (by simp) (by simp)) (Below.refl _ _) (fun _ => rfl)
      (fun (pre : List (Fin (C32.pieces l0.length wd))) W => (∃ v, Boxed W w.heap.size 22 v ∧ (Kd.slice 21 (Kd.int .i32)).R 39 W (w.heap.size + 3) (fun _ => True) v (pre.map (fun x => pieceL l0 wd x.1))) ∧ (Boxed W (w.heap.size + 1) 39 (.slice A0 l0.length c0) ∧ Boxed W (w.heap.size + 1 + 1) 3 (.int .i64 wd)) ∧ Below w.heap.size w W)
      (fun _ _ _ => False)
      (OwnFrom.and (Own.from (holdsR_own (Kd.slice 21 (Kd.int .i32)) (w.heap.size + 3) w.heap.size 22 39 (fun (pre : List (Fin (C32.pieces l0.length wd))) => pre.map (fun x => pieceL l0 wd x.1))) _) (OwnFrom.and (OwnFrom.and (Own.from (boxed_own _ _ _) _) (Own.from (boxed_own _ _ _) _)) (ownFrom_below (Nat.le_refl _) (by simp; omega))))
      (fun _ _ _ _ _ hs _ _ => hs)
      ⟨⟨_, (bO.alloc _).alloc _, Kd.R_nil _ _ _ _ _⟩, ⟨bS.alloc _, bC⟩, hB0⟩ ?a1 ?assign ?body ?done ?stop
    case assign =>
      intro l x W K hK
      gi_wp2
      exact hK
    case body =>
      rintro l pre x W ⟨⟨v, hv, hrow⟩, ⟨bS1, bC1⟩, hB⟩ hlt
      have hxp : x.1 < pn := by have h := x.2; have e := HN.out; omega
      have hxl : x.1 * wd + wd ≤ l0.length := by
        have h3 := Nat.mul_le_mul_right wd (show x.1 + 1 ≤ pn from hxp)
        rw [Nat.add_mul, Nat.one_mul] at h3
        have := HLn.out
        omega
      have hpl : pre.length ≤ 1024 := by
        have h3 := Nat.mul_le_mul_left pn hw1
        have := HLn.out
        have := HN.out
        omega
      obtain ⟨ad, rfl⟩ := HA.out (by omega)
      have hPV : C32.pieceV ((some ad : Option Addr).getD default) l0.length wd x = .slice (some (ad.add (x.1 * wd))) wd wd := by
        unfold C32.pieceV
        rw [show min wd (l0.length - x.1 * wd) = wd by omega]
        rfl
      rw [hPV]
      have hpc : Kd.C (Kd.int .i32) W (some (ad.add (x.1 * wd))) wd (pieceL l0 wd x.1) := C_piece (Kd.C_below HR.out hB) (x.1 * wd) wd hxl
      have hpl2 : (pieceL l0 wd x.1).length = wd := hpc.1
      have HCl := Aside0.mk (Clone_row (ad.add (x.1 * wd)) wd wd (pieceL l0 wd x.1) W.drew (Kd.C_drew hpc) (by omega))
      have HV := Aside0.mk hv
      have HRow := Aside0.mk hrow
      have HB := Aside0.mk hB
      have HS1 := Aside0.mk bS1
      have HC1 := Aside0.mk bC1
      have hsz : w.heap.size + 3 ≤ W.heap.size := by have := bC1.lt; omega
      have HPre := Aside0.mk (show ((pre.map (fun x : Fin (C32.pieces l0.length wd) => pieceL l0 wd x.1)).length + 1) * 24 ≤ 140737488355328 by rw [List.length_map]; omega)
      have HG := Aside0.mk (show (w.heap.size + 3) = (((w.alloc (.cells #[.slice none 0 0] 22)).alloc (.cells #[.slice (some ad) l0.length c0] 39)).alloc (.cells #[.int .i64 wd] 3)).heap.size by simp)
      have hc := hv.cell
      have hmx : Try.prog.follows .mixedOrders = true := by kernel_rfl
      clear hpc hPV hrow hB bS1 bC1 hv hpl2
      gi_wp2
      refine wpIn_region_any (by assumption) ?_
      change wpAnyIn _ _ _ _ _ _ _ _ _ (World.drew _)
      repeat' (first
        | exact AllReadyIn.nil | refine AllReadyIn.cons rfl (fun K hK => ?_) ?_ | refine wpAnyIn_done (by decide +kernel) ?_ _ | refine wpAnyIn_ready (rs := [0, 1]) (by decide +kernel) (by simp) ?_ | refine wpAnyIn_ready (rs := [1]) (by decide +kernel) (by simp) ?_ | refine wpAnyIn_ready (rs := [0, 2]) (by decide +kernel) (by simp) ?_ | refine wpAnyIn_ready (rs := [2]) (by decide +kernel) (by simp) ?_ | refine wpAnyIn_ready (rs := [0, 3]) (by decide +kernel) (by simp) ?_ | refine wpAnyIn_ready (rs := [3]) (by decide +kernel) (by simp) ?_ | refine wpAnyIn_ready (rs := [0]) (by decide +kernel) (by simp) ?_ | refine wpAnyIn_ready (rs := [4]) (by decide +kernel) (by simp) ?_ | refine wpAnyIn_ready (rs := [5]) (by decide +kernel) (by simp) ?_
        | (refine at_append2 HAP.out rfl rfl rfl rfl rfl ?_; refine hK _ _ ?_; clear hK K)
        | (go_simp; refine hK _ _ ?_; clear hK K)
        | (revert hK; intro hK; go_simp; gi_wp2_with (gi_at_call 94; refine (CallsIn.inRound l (callsIn_wide.2 HCl.out)).mono ?_; rintro e w2 ⟨vc, rfl, ho, hb⟩; obtain ⟨Ac, cc, rfl, _, _⟩ := Kd.R_reads (R_nums (k := .i32) ho rfl); obtain ⟨A1, n1, k1, w1, hap, hc1, hf1, hcA, hcB, hF⟩ := cut_step HB.out HV.out HRow.out HS1.out HC1.out hsz ho (((Below.refl _ W).drew).trans hb) HPre.out; have HAP := Aside0.mk hap; have HF := Aside0.mk hF; clear ho hb hap hF); (try refine hK _ _ ?_); (try clear hK K)))
      all_goals gi_wp2
      all_goals
        have h := HF.out
        rw [← List.map_singleton (f := fun x : Fin (C32.pieces l0.length wd) => pieceL l0 wd x.1), ← List.map_append] at h
        exact ⟨by have h1 := h.1; rw [HG.out] at h1; exact h1, h.2⟩
    case done =>
      rintro D ys W hD rfl ⟨⟨v, hv, hrow⟩, _, hB⟩ hK
      have hc := hv.cell
      gi_wp2
      refine ⟨by simp, .inl ⟨_, _, rfl, run_takeDeferred hK, ?_⟩⟩
      refine ⟨_, results_tmp2 rfl _ _ _, v, rfl, ?_, hB.trans (belowK_b (w := w) (Nat.le_refl _) W D _ _ (by simp at hD; omega) hK rfl rfl)⟩
      have hl2 : (C32.firsts (C32.pieces l0.length wd) (C32.pieces l0.length wd)).map (fun x => pieceL l0 wd x.1) = (List.range pn).map (pieceL l0 wd) := by
        rw [HN.out]
        apply List.ext_getElem
        · simp [C32.firsts]
        · intro i h1 h2
          simp [C32.firsts]
      rw [hl2] at hrow
      exact Kd.R_lower (R_notCells hrow (grownBy_putObj' W D _) (fun r hr => by cases hr; exact ⟨_, hK, rfl⟩)) (by omega)
    case stop =>
      rintro D c pre W _ _ h _
      exact h.elim
  · have HE := Aside0.mk (show cutE l0 parts = partE l0.length parts from rfl)
    have HV := Aside0.mk (show cutL l0 parts = [] by unfold cutL cutE; rw [if_neg h1])
    have hcall := PCheck_calls l0.length parts w
    have d : (partE l0.length parts != 0) = true := by simpa using h1
    rw [HE.out, HV.out]
    clear hr0 h1 HE HV
    generalize partE l0.length parts = E at *
    go_enter Try.func90, Try.ntmps90
    go_wp2_with fail
    refine hcall.mono ?_
    rintro e w1 ⟨rfl, rfl⟩
    go_wp2_with fail
    go_ret2
    exact ⟨_, rfl, Kd.R_nil _ _ _ _ _, Below.refl _ _⟩

end Go.Proofs.Yteickelddnhdiaa.G
