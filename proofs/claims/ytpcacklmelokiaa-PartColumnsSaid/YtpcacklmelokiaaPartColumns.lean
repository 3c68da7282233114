/- The walk of PartColumns, by hand. -/
import Derived.Test.YtpcacklmelokiaaPurePartCalls
import Derived.Test.YtpcacklmelokiaaRowsIn
import Derived.Laws.CopyOwn
namespace Go.Proofs.Ytpcacklmelokiaa.Pure
open Go.RowKit Go.Shelf Go.Proofs.Ytpcacklmelokiaa.Pa Go.Proofs.YtpcacklmelokiaaW.PrintWords Go.Proofs.Ytpcacklmelokiaa.G
set_option linter.unusedVariables false
set_option linter.unusedSimpArgs false

/-- A row copied into one of n zeros. -/
def padL (n : Nat) (v : List Int) : List Int := v.take n ++ (List.replicate n 0).drop (v.take n).length
theorem own_of_block32 {w : World} {base g m : Nat} {e : TypeId} {L : List Int} (hb : base ≤ g) (hg : w.heap[g]? = some (.cells (nums .i32 L).toArray e (0, 0))) (hm : L.length = m) (hx : m ≤ 9223372036854775807) : w.ownsRow base e 1 (.slice (some ⟨g, 0, none⟩) m m) m (nums .i32 L) := by
  refine ⟨by simp [nums, hm], .inr ⟨g, m, _, rfl, hb, hg, Nat.le_refl _, by simpa [maxLen] using hx, by simp [nums, hm], ?_⟩⟩
  rw [Nat.mul_one]
  simp only []
  exact List.take_of_length_le (by simp [nums, hm])
theorem cell_lt {w : World} {p : Addr} {v : Value} (h : w.cell? p = some v) : p.block < w.heap.size := by
  simp only [World.cell?] at h
  refine Classical.byContradiction fun hn => ?_
  rw [Array.getElem?_eq_none (by omega)] at h
  simp at h
theorem cell_of_block {w : World} {g : Nat} {e : TypeId} {L : List Int} (hg : w.heap[g]? = some (.cells (nums .i32 L).toArray e (0, 0))) (j : Nat) (v : Value) (h : (nums .i32 L)[j]? = some v) : w.cell? ⟨g, j, none⟩ = some v := by
  simp [World.cell?, hg, h]
theorem wrapI (x : Int) : IntKind.i64.wrap x = wrap64 x := by rw [IntKind.wrap_i64]; unfold wrap64; rfl
theorem padL_length (n : Nat) (v : List Int) : (padL n v).length = n := by simp [padL]; omega
theorem pads_col {l : List (List Int)} {n k w j : Nat} (hl0 : l ≠ []) (hk : 1 ≤ k) (hn1 : 1 ≤ n) (hn : n ≤ 60) (hd : n % k = 0) (hw : n / k = w) (hj : j < k) :
    colE (l.map (padL n)) (k : Int) (j : Int) = 0 ∧ colL (l.map (padL n)) (k : Int) (j : Int) = (l.map (padL n)).map (fun v => pieceL v w j) := by
  have h0 : ((l.map (padL n)).getD 0 []).length = n := by
    cases l with
    | nil => exact absurd rfl hl0
    | cons x xs => simp [padL_length]
  have hE : colE (l.map (padL n)) (k : Int) (j : Int) = 0 := by
    unfold colE
    rw [if_neg (by omega)]
    by_cases h : (l.map (padL n)).length = 0
    · rw [if_pos h]
    rw [if_neg h, if_neg]
    rintro (h1 | h1)
    · refine h1 ?_
      rw [h0]
      unfold partE
      rw [if_neg]
      rintro (h2 | h2 | h2 | h2)
      · omega
      · omega
      · omega
      · exact h2 (by omega)
    · refine h1 fun v hv => ?_
      obtain ⟨x, _, rfl⟩ := List.mem_map.1 hv
      rw [padL_length, h0]
  refine ⟨hE, ?_⟩
  unfold colL
  rw [if_pos hE, h0, Int.toNat_natCast, Int.toNat_natCast, hw]

set_option maxRecDepth 100000 in
set_option maxHeartbeats 1000000 in
theorem PartColumns_c (A0 : Option Addr) (c0 : Nat) (l : List (List Int)) (a1 : Int) (hw1 : (Lit.int .i64 a1).wf = true) (w : World) (hr : Kd.C (Kd.slice 21 (Kd.int .i32)) w A0 l.length l) (hc0 : l.length ≤ c0) :
    Calls Try.prog 3 #[.slice A0 l.length c0, .int .i64 a1] w fun e w' => e = .returned (.bool true) ∧ Below w.heap.size w w' := by
  have hm := C_max hr
  obtain ⟨k1, h1⟩ := Ev.rounds lives_is
  obtain ⟨k2, h2⟩ := Ev.rounds (Light_is l)
  have HR := Aside0.mk (fun W (hB : Below w.heap.size w W) => Kd.C_below hr hB)
  have HLv := Aside0.mk (fun W => wayfinderlaw14_lives.calls k1 true W h1)
  have HLg := Aside0.mk (fun W (hB : Below w.heap.size w W) => wayfinderkit_Light_int32.calls k2 A0 c0 l 60 60 _ W (HR.out W hB) hc0 h2)
  have HB0 := Aside0.mk (Below.refl w.heap.size w)
  clear hr h1 h2
  by_cases hL : lightL l
  case neg =>
    rw [decide_eq_false hL] at HLg
    go_enter Try.func3, Try.ntmps3
    go_wp2_with (first
      | (go_at_call 11; ((with_reducible refine (HLv.out _).mono ?_); rintro e w1 ⟨rfl, hb⟩; have HB1 := Aside0.mk hb; clear hb))
      | (go_at_call 12; ((with_reducible refine (HLg.out _ HB1.out).mono ?_); rintro e w2 ⟨rfl, ⟨nd, rfl⟩⟩)))
    go_ret
    exact ⟨rfl, pw_below_drewN HB1.out _⟩
  case pos =>
  rw [decide_eq_true hL] at HLg
  by_cases h0 : l.length = 0
  · obtain rfl := List.eq_nil_of_length_eq_zero h0
    simp only [List.length_nil] at HLg hm hc0 ⊢
    clear HR
    go_enter Try.func3, Try.ntmps3
    go_wp2_with (first
      | (go_at_call 11; ((with_reducible refine (HLv.out _).mono ?_); rintro e w1 ⟨rfl, hb⟩; have HB1 := Aside0.mk hb; clear hb))
      | (go_at_call 12; ((with_reducible refine (HLg.out _ HB1.out).mono ?_); rintro e w2 ⟨rfl, ⟨nd, rfl⟩⟩)))
    go_ret
    exact ⟨rfl, pw_below_drewN HB1.out _⟩
  have hd0 : ((l.length : Int) == 0) = false := by simp; intro h; exact h0 (by rw [h]; rfl)
  obtain ⟨ad, A', c', rfl, hxw, hxc, hC⟩ := rows_get (HR.out w HB0.out) 0 (by omega)
  have ha0 : ad.add 0 = ad := by simp [Addr.add]
  rw [ha0] at hxw
  have HX := Aside0.mk (fun W (hW : Below w.heap.size w W) => pw_cell_below hW hxw)
  have hl60 : l.length ≤ 60 := hL.1
  have HRows := Aside0.mk hL.2
  have hn60 : (l.getD 0 []).length ≤ 60 := by
    rw [List.getD_eq_getElem?_getD, List.getElem?_eq_getElem (by omega)]
    exact hL.2 _ (List.getElem_mem _)
  have hg0 : 0 < l.length := by omega
  have hl0 : l ≠ [] := by rintro rfl; exact h0 rfl
  clear hC hxw hL
  generalize (l.getD 0 []).length = n at *
  by_cases hn0 : n = 0
  · subst hn0
    have hd1 : (((0 : Nat) : Int) == 0) = true := rfl
    go_enter Try.func3, Try.ntmps3
    go_wp2_with (first
      | (go_at_call 11; ((with_reducible refine (HLv.out _).mono ?_); rintro e w1 ⟨rfl, hb⟩; have HB1 := Aside0.mk hb; clear hb))
      | (go_at_call 12; ((with_reducible refine (HLg.out _ HB1.out).mono ?_); rintro e w2 ⟨rfl, ⟨nd, rfl⟩⟩; have HB2 := Aside0.mk (pw_below_drewN HB1.out nd); have hx := HX.out _ HB2.out)))
    go_ret
    exact ⟨rfl, HB2.out⟩
  have hd1 : ((n : Int) == 0) = false := by simpa using hn0
  have hinfo : (Try.prog.info? 25).map (fun i => (i.zero, i.size, i.bytes)) = some (some (.slice none 0 0), 1, 24) := by kernel_rfl
  go_enter Try.func3, Try.ntmps3
  go_wp2_with (first
    | (go_at_call 11; ((with_reducible refine (HLv.out _).mono ?_); rintro e w1 ⟨rfl, hb⟩; have HB1 := Aside0.mk hb; clear hb))
    | (go_at_call 12; ((with_reducible refine (HLg.out _ HB1.out).mono ?_); rintro e w2 ⟨rfl, ⟨nd, rfl⟩⟩; have HB2 := Aside0.mk (pw_below_drewN HB1.out nd); have hx := HX.out _ HB2.out)))
  go_loopw [6, 7] (fun u v wr => ∃ i : Nat, i ≤ l.length ∧ v = .int .i64 i ∧ Aside0 ((Kd.slice 21 (Kd.int .i32)).R 25 wr w.heap.size (fun _ => True) u ((l.take i).map (padL n))) ∧ Aside0 (Below w.heap.size w wr)) (fun _ v _ => l.length - (intOf v).toNat)
  case atStart => exact ⟨0, Nat.zero_le _, rfl, ⟨Kd.R_nil _ _ _ _ _⟩, HB2⟩
  case round =>
    obtain ⟨i, hi, rfl, HO, HB⟩ := hrel
    by_cases hlt : i < l.length
    · obtain ⟨ad', A1, c1, e, hx1, hc1, hC1⟩ := rows_get (HR.out _ HB.out) i hlt
      cases e
      obtain ⟨v, hv⟩ : ∃ v, l.getD i [] = v := ⟨_, rfl⟩
      rw [hv] at hx1 hc1 hC1
      have hvl : v.length ≤ 60 := by
        rw [← hv, List.getD_eq_getElem?_getD, List.getElem?_eq_getElem hlt]
        exact HRows.out _ (List.getElem_mem hlt)
      have HTk := Aside0.mk (show (l.take (i + 1)).map (padL n) = (l.take i).map (padL n) ++ [padL n v] by
        rw [List.take_succ_eq_append_getElem hlt, List.map_append, ← hv]
        simp [hlt])
      have HLen := Aside0.mk (show (((l.take i).map (padL n)).length + 1) * 24 ≤ 140737488355328 by rw [List.length_map, List.length_take]; omega)
      have hmk := print_make 25 21 .i32 4 Try.underlying25 (by kernel_rfl) (by decide) n (by omega)
      have HG := Aside0.mk (show ∀ W : World, (W.alloc (.cells (madeCells #[.int .i32 0] n) 21)).heap[W.heap.size]? = some (.cells (nums .i32 (List.replicate n 0)).toArray 21 (0, 0)) from fun W => by
        refine (heap_alloc_new W _).trans ?_
        congr 2
        apply Array.ext'
        simp [madeCells, nums, Nat.mod_one, List.map_const'])
      have HBa := Aside0.mk ((Below.refl wr.heap.size wr).alloc (Nat.le_refl _) (.cells (madeCells #[.int .i32 0] n) 21))
      have HMin := Aside0.mk (show (nums .i32 (v.take n)).length = Nat.min v.length n by rw [nums_length, List.length_take]; exact Nat.min_comm _ _)
      have HSrc := Aside0.mk (show 0 < (nums .i32 (v.take n)).length → ∃ adv, A1 = some adv ∧ ∀ j u, (nums .i32 (v.take n))[j]? = some u → (wr.alloc (.cells (madeCells #[.int .i32 0] n) 21)).cell? (adv.add j) = some u from fun hpos => by
        have hv0 : 0 < v.length := by rw [HMin.out] at hpos; exact Nat.lt_of_lt_of_le hpos (Nat.min_le_left _ _)
        obtain ⟨adv, e, _⟩ := C_ints hC1 0 hv0
        refine ⟨adv, e, fun j u hu => ?_⟩
        simp only [nums, List.getElem?_map, Option.map_eq_some_iff] at hu
        obtain ⟨x, hx, rfl⟩ := hu
        obtain ⟨hj, hx⟩ := List.getElem?_eq_some_iff.1 hx
        rw [List.length_take] at hj
        obtain ⟨ad2, e2, hc2⟩ := C_ints hC1 j (by omega)
        rw [e] at e2
        cases e2
        refine pw_cell_below HBa.out (hc2.trans ?_)
        rw [List.getElem_take] at hx
        rw [List.getD_eq_getElem?_getD, List.getElem?_eq_getElem (by omega), hx]
        rfl)
      have HFit := Aside0.mk (show 0 + (nums .i32 (v.take n)).length ≤ (nums .i32 (List.replicate n 0)).length by simp [nums]; omega)
      have HOne := Aside0.mk (show ∀ u ∈ nums .i32 (v.take n), u.oneCell' = true from fun u hu => by obtain ⟨x, _, rfl⟩ := List.mem_map.1 hu; rfl)
      have HSpl := Aside0.mk (show splice (nums .i32 (List.replicate n 0)) 0 (nums .i32 (v.take n)) = nums .i32 (padL n v) by simp [splice, padL, nums])
      have HPl := Aside0.mk (padL_length n v)
      have HSz := Aside0.mk HB.out.size
      have hx2 := pw_cell_below HBa.out hx1
      generalize nums .i32 (v.take n) = cs at *
      clear hv hC1
      go_wp2_with (first
        | ((with_reducible refine wpList_copy_splice rfl (.tmp 44) (.tmp 48) 25 25 rfl 21 Try.underlying25 (by kernel_rfl) (some ⟨wr.heap.size, 0, none⟩) A1 n n v.length c1 rfl rfl wr.heap.size 0 (nums .i32 (List.replicate n 0)) 21 (HG.out _) cs HMin.out (fun h => ⟨rfl, HSrc.out h⟩) HFit.out HOne.out wr.heap.size wr HBa.out (Nat.le_refl _) ?_); intro w5 hg5 hb5; have HB5 := Aside0.mk (below_then HB.out HSz.out hb5); have HX5 := Aside0.mk (R_nums (own_of_block32 (base := w.heap.size) HSz.out (show w5.heap[wr.heap.size]? = some (.cells (nums .i32 (padL n v)).toArray 21 (0, 0)) by rw [← HSpl.out]; exact hg5) HPl.out (by omega)) HPl.out); have HO5 := Aside0.mk (Kd.R_below HO.out hb5); clear hb5 hg5)
        | (at_builtin; refine Kd.R_append (Kd.slice 21 (Kd.int .i32)) (w0 := w) w.heap.size rfl (.tmp 50) (.tmp 52) 22 25 (.slice none 0 0) 24 rfl Try.underlying22 hinfo rfl (by decide) (by decide) _ ((l.take i).map (padL n)) (padL n v) [.slice (some ⟨wr.heap.size, 0, none⟩) n n] (fun _ => True) (fun k_ => (fun _ => True) k_ ∧ some k_ ≠ Value.ownBlock _) rfl rfl ?aP (fun _ hk => hk) (fun _ _ => trivial) HO5.out HB5.out HB5.out.size HLen.out ?_; (case aP => exact Kd.M_row (Kd.R_mono (Kd.R_apart' HX5.out (Kd.R_typed HO5.out) (by decide)) (fun k_ hk => ⟨trivial, hk.2⟩))); intro v1 w3 ho hb hg hat; have HO3 := Aside0.mk ho; have HB3 := Aside0.mk hb; clear ho hb hg hat))
      go_roundw
      case rel => exact ⟨i + 1, by omega, by go_num, ⟨by rw [HTk.out]; exact HO3.out⟩, HB3⟩
      case measure => simp [intOf]; omega
    · obtain rfl : i = l.length := by omega
      have hd2 : decide ((l.length : Int) < (l.length : Int)) = false := by simp
      obtain ⟨Av, cv, rfl⟩ := Kd.R_slice HO.out
      rw [List.take_length] at HO ⊢
      obtain ⟨hv1, hv2, hv3⟩ := R_C HO.out
      have hvl : (l.map (padL n)).length = l.length := by simp
      have HPad := Aside0.mk (show ∀ v ∈ l.map (padL n), v.length = n from fun v hv => by obtain ⟨x, _, rfl⟩ := List.mem_map.1 hv; exact padL_length n x)
      have HCol := Aside0.mk (fun (k wd j : Nat) (hk : 1 ≤ k) (hd : n % k = 0) (hw : n / k = wd) (hj : j < k) => pads_col (l := l) hl0 hk (by omega) hn60 hd hw hj)
      rw [hvl] at hv1 hv3 ⊢
      clear HO hv2
      generalize l.map (padL n) = vs at *
      generalize wr = wv at *
      have HVs := Aside0.mk (fun W (hW : Below wv.heap.size wv W) => Kd.C_below hv1 hW)
      have HBv := Aside0.mk HB.out
      have HSv := Aside0.mk HB.out.size
      obtain ⟨q, hq⟩ : ∃ q : Nat, a1 % (n : Int) = q := ⟨(a1 % (n : Int)).toNat, by have := Int.emod_nonneg a1 (show (n : Int) ≠ 0 by omega); omega⟩
      have hqn : q < n := by have := Int.emod_lt_of_pos a1 (show (0 : Int) < (n : Int) by omega); omega
      have HPick := Aside0.mk (fun W => wayfinderkit_Pick.calls a1 n q W (by rw [← hq]; exact Pick_is (wf_i64 hw1) (by omega) (by omega)))
      clear hv1 hq
      go_wp2_with (go_at_call 13; ((with_reducible refine (HPick.out _).mono ?_); rintro e w2 ⟨rfl, ⟨nd2, rfl⟩⟩))
      go_loopw [9] (fun v w4 => ∃ k : Nat, 1 ≤ k ∧ k ≤ n ∧ v = .int .i64 k ∧ Aside0 (Below wv.heap.size wv w4)) (fun v _ => (intOf v).toNat)
      case atStart => exact ⟨q + 1, by omega, by omega, by go_num, ⟨pw_below_drewN (Below.refl _ _) _⟩⟩
      case round =>
        obtain ⟨k, hk1, hkn, rfl, HBk⟩ := hrel
        obtain ⟨r, hr⟩ : ∃ r, n % k = r := ⟨_, rfl⟩
        have hk0 : ¬ (k : Int) = 0 := by omega
        have hrem : (n : Int) % (k : Int) = (r : Int) := by omega
        by_cases hr0 : r = 0
        · subst hr0
          obtain ⟨wd, hwd⟩ : ∃ wd, n / k = wd := ⟨_, rfl⟩
          have hmul : k * wd = n := by rw [← hwd]; exact Nat.mul_div_cancel' (Nat.dvd_of_mod_eq_zero hr)
          have hwd1 : 1 ≤ wd := Nat.pos_of_ne_zero fun h => by rw [h] at hmul; omega
          have hdiv : (n : Int) / (k : Int) = (wd : Int) := by omega
          have HColk := Aside0.mk (fun j hj => HCol.out k wd j hk1 hr hwd hj)
          have HIn := Aside0.mk (fun j (hj : j < k) => piece_in hmul hj)
          clear hr hmul hwd HCol
          have hb0 : (((0 : Nat) : Int) != 0) = false := rfl
          go_wp2
          go_loopw [10] (fun v w4 => ∃ j : Nat, j ≤ k ∧ v = .int .i64 j ∧ Aside0 (Below wv.heap.size wv w4)) (fun v _ => k - (intOf v).toNat)
          case atStart => exact ⟨0, Nat.zero_le _, rfl, HBk⟩
          case round =>
            obtain ⟨j, hj, rfl, HBj⟩ := hrel
            generalize wr = wj at *
            by_cases hjk : j < k
            · obtain ⟨hE, hC⟩ := HColk.out j hjk
              have hin := HIn.out j hjk
              have hcl : (colL vs (k : Int) (j : Int)).length = l.length := by rw [hC, List.length_map, hvl]
              have HCc := Aside0.mk (fun W (hW : Below wv.heap.size wv W) => part_Column.calls Av cv vs (k : Int) (j : Int) (colL vs (k : Int) (j : Int)) 0 W (by rw [hvl]; exact HVs.out W hW) (by rw [hvl]; exact hv3) (by unfold part_Column.f; rw [if_pos (by omega), hE]))
              rw [hvl] at HCc
              have HCe := Aside0.mk hC
              clear hE hC
              generalize colL vs (k : Int) (j : Int) = cl at *
              have hneq : ((l.length : Int) != (l.length : Int)) = false := by simp
              go_wp2_with (go_at_call 14; ((with_reducible refine (HCc.out _ HBj.out).mono ?_); rintro e w5 ⟨v5, rfl, ho5, hb5⟩; obtain ⟨Ac, cc, rfl⟩ := Kd.R_slice ho5; obtain ⟨hr5, _, hc5⟩ := R_C ho5; rw [hcl] at hr5 hc5 ⊢; have HC5 := Aside0.mk hr5; have HB5 := Aside0.mk (below_then HBj.out HBj.out.size hb5); clear ho5 hb5 hr5))
              go_loopw [13] (fun v w6 => ∃ i : Nat, i ≤ l.length ∧ v = .int .i64 i ∧ Aside0 (Below w5.heap.size w5 w6)) (fun v _ => l.length - (intOf v).toNat)
              case atStart => exact ⟨0, Nat.zero_le _, rfl, ⟨Below.refl _ _⟩⟩
              case round =>
                obtain ⟨i, hi, rfl, HBi⟩ := hrel
                generalize wr = wi at *
                by_cases hil : i < l.length
                · have HBvi := Aside0.mk (below_then HB5.out HB5.out.size HBi.out)
                  obtain ⟨adc, Ac1, cc1, e1, hxc1, hcc1, hCc1⟩ := rows_get (by have h := Kd.C_below HC5.out HBi.out; rw [← hcl] at h; exact h) i (by rw [hcl]; exact hil)
                  cases e1
                  obtain ⟨adv, Av1, cv1, e2, hxv1, hcv1, hCv1⟩ := rows_get (by have h := HVs.out wi HBvi.out; rw [← hvl] at h; exact h) i (by rw [hvl]; exact hil)
                  cases e2
                  have hxl : (vs.getD i []).length = n := by
                    rw [List.getD_eq_getElem?_getD, List.getElem?_eq_getElem (by rw [hvl]; exact hil)]
                    exact HPad.out _ (List.getElem_mem _)
                  have hce : cl.getD i [] = pieceL (vs.getD i []) wd j := by
                    rw [HCe.out, List.getD_eq_getElem?_getD, List.getD_eq_getElem?_getD, List.getElem?_map, List.getElem?_eq_getElem (by rw [hvl]; exact hil)]
                    rfl
                  rw [hce] at hxc1 hcc1 hCc1
                  generalize vs.getD i [] = x at *
                  have hpl : (pieceL x wd j).length = wd := piece_length (by rw [hxl]; exact hin)
                  have hpc := hCv1
                  obtain ⟨adx, rfl, _⟩ := C_ints hpc 0 (by omega)
                  have hlo : j * wd + wd ≤ n := hin
                  have hpc2 : Kd.C (Kd.int .i32) wi (some (adx.add (j * wd))) wd (pieceL x wd j) := C_piece hCv1 (j * wd) wd (by omega)
                  rw [hxl] at hxv1 hcv1
                  obtain ⟨kS, hS⟩ := Ev.rounds (Same_int32_self (pieceL x wd j) (by rw [hpl]; omega))
                  have HS := Aside0.mk (fun W (hW : Below wi.heap.size wi W) => wayfinderkit_Same_int32.calls kS Ac1 cc1 (pieceL x wd j) (some (adx.add (j * wd))) (cv1 - j * wd) (pieceL x wd j) true W (Kd.C_below hCc1 hW) hcc1 (by rw [hpl]; exact Kd.C_below hpc2 hW) (by rw [hpl]; omega) hS)
                  rw [hpl] at HS hxc1 hcc1
                  have hm1 : (j : Int) * (wd : Int) = ((j * wd : Nat) : Int) := by simp
                  clear hce hpc hpc2 hCv1 hCc1 hS
                  generalize pieceL x wd j = p at *
                  generalize hlo2 : j * wd = lo at *
                  have hsub : lo + wd - lo = wd := by omega
                  have hw64 : lo + wd ≤ 9223372036854775807 := by omega
                  go_wp2
                  have hww : wrap64 (wd : Int) = (wd : Int) := wrap_nat (Nat.le_trans (Nat.le_add_left wd lo) hw64)
                  try simp only [hww]
                  clear hww hdiv hrem
                  obtain ⟨hi2, hhi⟩ : ∃ hi2, lo + wd = hi2 := ⟨_, rfl⟩
                  have hm3 : wrap64 ((j : Int) * (wd : Int)) = (lo : Int) := by rw [hm1, wrap_nat (Nat.le_trans (Nat.le_add_right lo wd) hw64)]
                  have hm4 : wrap64 ((lo : Int) + (wd : Int)) = (hi2 : Int) := by rw [← Int.natCast_add, hhi, wrap_nat (hhi ▸ hw64)]
                  have hq3 : Value.int .i64 (IntKind.i64.wrap ((j : Int) * (wd : Int))) = Value.int .i64 (lo : Int) := by rw [wrapI, hm3]
                  have hq4 : Value.int .i64 (IntKind.i64.wrap ((lo : Int) + (wd : Int))) = Value.int .i64 (hi2 : Int) := by rw [wrapI, hm4]
                  clear hm3 hm4
                  have hsub : hi2 - lo = wd := by rw [← hhi]; exact Nat.add_sub_cancel_left lo wd
                  have hlh : lo < hi2 := by rw [← hhi]; exact Nat.lt_add_of_pos_right hwd1
                  have hhn : hi2 ≤ n := by rw [← hhi]; exact hlo
                  have hhc : hi2 ≤ cv1 := Nat.le_trans hhn hcv1
                  have hne : ¬ cv1 = lo := fun h => absurd (Nat.lt_of_lt_of_le hlh hhc) (by rw [h]; exact Nat.lt_irrefl _)
                  have hlc : lo ≤ cv1 := Nat.le_trans (Nat.le_of_lt hlh) hhc
                  have hlh2 : lo ≤ hi2 := Nat.le_of_lt hlh
                  clear hw64 hm1 hhi hlo
                  go_quiet (first | (go_at_call 15; (with_reducible refine (HS.out _ (pw_below_drewN (Below.refl _ _) _)).mono ?_); rintro e w7 ⟨rfl, ⟨nd7, rfl⟩⟩; (first | exact ⟨rfl, _, World.drewN_drewN _ _ _⟩ | exact ⟨rfl, _, Eq.trans (World.drewN_drewN _ _ _) (congrArg (World.drewN _) (Nat.add_assoc _ _ _))⟩)))
                  go_wp2
                  go_roundw
                  case rel => exact ⟨i + 1, by omega, by go_num, ⟨by first | exact pw_below_drewN HBi.out _ | exact pw_below_drewN (pw_below_drewN HBi.out _) _⟩⟩
                  case measure => simp [intOf]; omega
                · obtain rfl : i = l.length := by omega
                  go_wp2
                  go_roundw
                  case rel =>
                    repeat apply Exists.intro
                    refine ⟨?relx, ?eqx⟩
                    case eqx => rw [hrem]; rfl
                    case relx => exact ⟨j + 1, by omega, by go_num, ⟨below_then HB5.out HB5.out.size HBi.out⟩⟩
                  case measure => simp [intOf]; omega
            · obtain rfl : j = k := by omega
              have hd3 : decide ((j : Int) < (j : Int)) = false := by simp
              go_wp2
              go_ret
              exact ⟨rfl, below_then HBv.out HSv.out HBj.out⟩
        · have hb0 : ((r : Int) != 0) = true := by simpa using hr0
          have hk2 : 2 ≤ k := by
            refine Nat.lt_of_le_of_ne hk1 fun h => hr0 ?_
            rw [← hr, ← h]
            exact Nat.mod_one n
          go_wp2
          go_roundw
          case rel => exact ⟨k - 1, by omega, by omega, by go_num, HBk⟩
          case measure => simp [intOf]; omega

end Go.Proofs.Ytpcacklmelokiaa.Pure
