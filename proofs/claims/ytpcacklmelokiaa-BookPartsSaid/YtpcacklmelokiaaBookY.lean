/- The walk of BookParts: the main way. -/
import Derived.Test.YtpcacklmelokiaaBookV
import Derived.Test.YtpcacklmelokiaaBookU2
import Derived.BigQuiet
import Derived.StillTailTactics
import Derived.Deep.RegionHeld3
import Derived.Laws.CopyOwn
namespace Go.Proofs.Ytpcacklmelokiaa.G
open Go.RowKit Go.Proofs.Ytpcacklmelokiaa.Bk Go.Proofs.YtpcacklmelokiaaW.PrintWords
set_option linter.unusedVariables false
set_option linter.unusedSimpArgs false
set_option maxRecDepth 100000
set_option maxHeartbeats 4000000
theorem wrapI (x : Int) : IntKind.i64.wrap x = wrap64 x := by rw [IntKind.wrap_i64]; unfold wrap64; rfl
theorem Pick_nat (a : Int) (P : Nat) (h1 : 1 ≤ P) (h2 : P ≤ 2000) : ∃ p : Nat, p < P ∧ wayfinderkit_Pick.f a (P : Int) = some (p : Int) := by
  have h3 := tmod_pick (a := a) (m := (P : Int)) (by omega)
  have h4 := Int.emod_nonneg a (show (P : Int) ≠ 0 by omega)
  have h5 := Int.emod_lt_of_pos a (show 0 < (P : Int) by omega)
  refine ⟨(a % (P : Int)).toNat, by omega, ?_⟩
  unfold wayfinderkit_Pick.f
  rw [if_neg (by omega), if_neg (by omega)]
  by_cases h : Int.tmod a P < 0
  · rw [if_pos h] at h3 ⊢
    rw [wrap_in (by omega) (by omega), h3]
    congr 1
    omega
  · rw [if_neg h] at h3 ⊢
    rw [h3]
    congr 1
    omega
theorem own_splice {w : World} {base g n cap off : Nat} {e : TypeId} {L : List Value} {k : IntKind} {v q : List Int} (hb : base ≤ g) (hn : n ≤ cap) (hm : cap ≤ maxLen) (hL : L.length = cap) (ht : L.take n = nums k v) (hv : v.length = n) (hq : off + q.length ≤ n)
    (hg : w.heap[g]? = some (.cells (splice L off (nums k q)).toArray e (0, 0))) : (Kd.int k).R e w base (fun _ => True) (.slice (some ⟨g, 0, none⟩) n cap) (v.take off ++ q ++ v.drop (off + q.length)) := by
  have hl : (v.take off ++ q ++ v.drop (off + q.length)).length = n := by simp; omega
  have hql : (nums k q).length = q.length := by simp [nums]
  refine R_nums ⟨by simp [nums]; omega, .inr ⟨g, cap, _, rfl, hb, hg, hn, hm, ?_, ?_⟩⟩ hl
  · rw [List.size_toArray, length_splice _ _ _ (by rw [hql]; omega), hL, Nat.mul_one]
  · rw [Nat.mul_one]
    simp only []
    unfold splice
    have e1 : nums k (v.take off ++ q ++ v.drop (off + q.length)) = (nums k v).take off ++ (nums k q ++ (nums k v).drop (off + q.length)) := by simp [nums]
    rw [e1, ← ht, hql, List.take_append, List.take_append, List.take_take, List.take_take, List.drop_take, List.length_take, hL, hql]
    rw [List.take_of_length_le (show (nums k q).length ≤ n - min off cap by rw [hql]; omega)]
    have h0 : min n off = off := by omega
    have h1 : min off n = off := by omega
    have h2 : n - min off cap - q.length = n - (off + q.length) := by omega
    rw [h0, h1, h2]
theorem put_int {k : IntKind} {e base g n cap i : Nat} {ok : Nat → Prop} {W : World} {xs : List Int} (h : (Kd.int k).R e W base ok (.slice (some ⟨g, 0, none⟩) n cap) xs) (x : Int) : (Kd.int k).R e (W.setCell ⟨g, i, none⟩ (.int k x)) base ok (.slice (some ⟨g, 0, none⟩) n cap) (xs.set i x) := by
  have := Kd.R_putn (enc := Value.int k) (h1 := fun _ => rfl) h (i : Int) x
  rw [Int.toNat_natCast] at this
  exact this
theorem cell_int {k : IntKind} {e base g n cap i : Nat} {ok : Nat → Prop} {W : World} {xs : List Int} (h : (Kd.int k).R e W base ok (.slice (some ⟨g, 0, none⟩) n cap) xs) (hi : i < n) : W.cell? ⟨g, i, none⟩ = some (.int k (xs.getD i 0)) ∧ W.frozen? ⟨g, i, none⟩ = false := by
  have := Kd.R_celln (enc := Value.int k) (h1 := fun _ => rfl) 0 h (i : Int) (Int.natCast_nonneg _) (Int.ofNat_lt.2 hi)
  unfold rdOf at this
  rw [Int.toNat_natCast] at this
  exact this
theorem parts_main (A0 : Option Addr) (c0 : Nat) (b : List (List (List Int))) (A1 : Option Addr) (c1 : Nat) (v : List Int) (A2 : Option Addr) (c2 : Nat) (w : List Int) (part : Int) (W : World) (h : BPIn A0 c0 b A1 c1 v A2 c2 w W) (h0 : bookE b = 0) (h1 : v.length ≤ 1100) (h2 : w.length ≤ 1100)
    (n m : Nat) (hb : BookOK b n m) (hv0 : checkWide v = 0) (hw0 : checkWide w = 0) (hv : v.length = m * b.length) (hw : w.length = m * b.length) :
    Calls Try.prog 10 #[.agg #[.slice A0 b.length c0], .slice A1 v.length c1, .slice A2 w.length c2, .int .i64 part] W fun e W' => e = .returned (.bool true) ∧ Below W.heap.size W W' := by
  have m1 := C_max h.r1
  have m2 := C_max h.r2
  have hb1 := hb.p1
  have HM1 := Aside0.mk hb.m1
  have hb2 := Nat.le_trans (Nat.le_mul_of_pos_left b.length hb.m1) hb.most
  have HB0 := Aside0.mk ((Below.refl W.heap.size W).alloc (Nat.le_refl _) (.cells #[.slice A0 b.length c0] 50))
  have hc0 : (W.alloc (.cells #[.slice A0 b.length c0] 50)).cell? ⟨W.heap.size, 0, none⟩ = some (.slice A0 b.length c0) := by simp
  obtain ⟨X, hX⟩ : ∃ X, (List.range b.length).map (codeOf b m v) = X := ⟨_, rfl⟩
  obtain ⟨Y, hY⟩ : ∃ Y, (List.range b.length).map (codeOf b m w) = Y := ⟨_, rfl⟩
  have hXl : X.length = b.length := by rw [← hX]; simp
  have hYl : Y.length = b.length := by rw [← hY]; simp
  obtain ⟨p, hp, hpk⟩ := Pick_nat part b.length hb1 (by omega)
  obtain ⟨r, hr⟩ := light_ev b
  cases r with
  | false =>
    obtain ⟨k, hk⟩ := Ev.rounds hr
    have HLv := Aside0.mk (fun X => wayfinderlaw15_lives.calls true X rfl)
    have HLt := Aside0.mk (fun X (hX : Below W.heap.size W X) => wayfinderlaw15_light.calls k A0 c0 b false X (Kd.C_below h.r0 hX) h.c0 hk)
    clear h hr hk
    go_enter Try.func10, Try.ntmps10
    go_wp2_with (first | (go_at_call 32; ((with_reducible refine (HLv.out _).mono ?_); rintro e w1 ⟨rfl, hb⟩; have HB1 := Aside0.mk (below_then HB0.out HB0.out.size hb); have hc1' := pw_cell_below hb hc0; clear hb)) | (go_at_call 33; ((with_reducible refine (HLt.out _ HB1.out).mono ?_); rintro e w2 ⟨rfl, hb⟩; have HB2 := Aside0.mk (below_then HB1.out HB1.out.size hb); have hc2' := pw_cell_below hb hc1'; clear hb)))
    go_ret
    exact ⟨rfl, HB2.out⟩
  | true =>
  obtain ⟨k, hk⟩ := Ev.rounds hr
  obtain ⟨k1, hk1⟩ := Ev.rounds (Encode_is hb h0 hv0 hv)
  obtain ⟨k2, hk2⟩ := Ev.rounds (Encode_is hb h0 hw0 hw)
  rw [hX] at hk1
  rw [hY] at hk2
  obtain ⟨ad, A', c', rfl, hxw, hxc, hC⟩ := rows3_get h.r0 0 (by omega)
  have hn := hb.parts _ (getD_mem (z := []) (show 0 < b.length by omega))
  rw [hn] at hxw hxc hC
  have hn1 := hb.n1
  obtain ⟨ad0, A00, c00, hA', hyw, hyc, hC00⟩ := rows_get hC 0 (by omega)
  subst hA'
  rw [(hb.word (i := 0) (c := 0) (by omega) hn1).1] at hyw hyc
  have ha0 : ad.add 0 = ad := by simp [Addr.add]
  have ha1 : ad0.add 0 = ad0 := by simp [Addr.add]
  rw [ha0] at hxw
  rw [ha1] at hyw
  have HXa := Aside0.mk (fun Z (hZ : Below W.heap.size W Z) => And.intro (pw_cell_below hZ hxw) (pw_cell_below hZ hyw))
  have HLv := Aside0.mk (fun X => wayfinderlaw15_lives.calls true X rfl)
  have HLt := Aside0.mk (fun X (hX : Below W.heap.size W X) => wayfinderlaw15_light.calls k (some ad) c0 b true X (Kd.C_below h.r0 hX) h.c0 hk)
  have HCk := Aside0.mk (fun X (hX : Below W.heap.size W X) => book_Check.calls (some ad) c0 b 0 X (Kd.C_below h.r0 hX) h.c0 (by show some (bookE b) = _; rw [h0]))
  have HE1 := Aside0.mk (fun Z (hZ : Below W.heap.size W Z) => book_Encode.calls k1 (some ad) c0 b A1 c1 v X 0 Z (Kd.C_below h.r0 hZ) h.c0 (Kd.C_below h.r1 hZ) h.c1 hk1)
  have HE2 := Aside0.mk (fun Z (hZ : Below W.heap.size W Z) => book_Encode.calls k2 (some ad) c0 b A2 c2 w Y 0 Z (Kd.C_below h.r0 hZ) h.c0 (Kd.C_below h.r2 hZ) h.c2 hk2)
  have HPk := Aside0.mk (fun Z => wayfinderkit_Pick.calls part (b.length : Int) (p : Int) Z hpk)
  have HOw := Aside0.mk (fun Z (hZ : Below W.heap.size W Z) => wayfinderkit_Own_int32.calls A1 c1 v v Z (Kd.C_below h.r1 hZ) h.c1 (by unfold wayfinderkit_Own_int32.f; simp only [Option.bind]; rw [if_pos (by simp; omega)]; rfl))
  have hd1 : decide ((v.length : Int) > 1100) = false := decide_eq_false (by omega)
  have hd2 : decide ((w.length : Int) > 1100) = false := decide_eq_false (by omega)
  have hd3 : ((b.length : Int) != (b.length : Int)) = false := by simp
  have hd4 : ((X.length : Int) != (b.length : Int)) = false := by simp [hXl]
  have hd5 : ((Y.length : Int) != (b.length : Int)) = false := by simp [hYl]
  have HVl := Aside0.mk hv
  have HWl := Aside0.mk hw
  have HXl := Aside0.mk hXl
  have HYl := Aside0.mk hYl
  obtain ⟨Zs, hZs⟩ : ∃ Zs, spl v w m p = Zs := ⟨_, rfl⟩
  obtain ⟨y, hy⟩ : ∃ y, Y.getD p 0 = y := ⟨_, rfl⟩
  have hZl : Zs.length = m * b.length := by rw [← hZs]; exact spl_length hv hw hp
  have hZw : checkWide Zs = 0 := by rw [← hZs]; exact spl_wide hv0 hw0 hv hw hp
  obtain ⟨X2, hX2⟩ : ∃ X2, X.set p y = X2 := ⟨_, rfl⟩
  have hX2l : X2.length = b.length := by rw [← hX2, List.length_set]; exact hXl
  have hcX : CodeOK b n X := hX ▸ code_ok hb v
  obtain ⟨k3, hk3⟩ := Ev.rounds (Encode_is hb h0 hZw hZl)
  have he3 : (List.range b.length).map (codeOf b m Zs) = X2 := by
    rw [← hX2, ← hy, ← hZs, codes_spl hv hw hp, hX, ← hY]
    simp [hp]
  rw [he3] at hk3
  obtain ⟨k4, hk4⟩ := Ev.rounds (Same_byte_self X2 (by omega))
  obtain ⟨k5, hk5⟩ := loss_whole hb h0 hv0 hv
  rw [hX, ← hXl] at hk5
  have HE3 := Aside0.mk (fun A c Z (hZ : Below W.heap.size W Z) (hC : Kd.C (Kd.int .i32) Z A Zs.length Zs) (hc : Zs.length ≤ c) => book_Encode.calls k3 (some ad) c0 b A c Zs X2 0 Z (Kd.C_below h.r0 hZ) h.c0 hC hc hk3)
  have HOx := Aside0.mk (fun A c Z (hC : Kd.C (Kd.int .u8) Z A X.length X) (hc : X.length ≤ c) => wayfinderkit_Own_byte.calls A c X X Z hC hc (Own_byte_is X (by omega)))
  have HSb := Aside0.mk (show ∀ A c A' c' L Z, L = X2.length → Kd.C (Kd.int .u8) Z A X2.length X2 → X2.length ≤ c → Kd.C (Kd.int .u8) Z A' L X2 → L ≤ c' → Calls Try.prog 41 #[.slice A X2.length c, .slice A' L c'] Z fun e w' => e = .returned (.bool true) ∧ Drawn0 Z w' from fun A c A' c' L Z hL hC hc hC' hc' => by subst hL; exact wayfinderkit_Same_byte.calls k4 A c X2 A' c' X2 true Z hC hc hC' hc' hk4)
  have HLs := Aside0.mk (fun Z (hZ : Below W.heap.size W Z) => book_Loss.calls k5 (some ad) c0 b A1 c1 v _ _ Z (Kd.C_below h.r0 hZ) h.c0 (Kd.C_below h.r1 hZ) h.c1 hk5)
  have HWd := Aside0.mk (fun (i : Nat) (hi : i < b.length) Z (hZ : Below W.heap.size W Z) => book_Word.calls (some ad) c0 b (i : Int) (X.getD i 0) _ _ Z (Kd.C_below h.r0 hZ) h.c0 (Word_at hb h0 hcX hi))
  have HDs := Aside0.mk (fun (i : Nat) (hi : i < b.length) => part_dist hb hv0 hv hcX hi)
  have HLb := Aside0.mk (fun (i : Nat) (hi : i ≤ b.length) => lossTo_bound hb hv0 hv hcX hi)
  have HXs := Aside0.mk (fun (i : Nat) (hi : i < b.length) => code_small hb hcX hi)
  have HWl2 := Aside0.mk (fun (i : Nat) (hi : i < b.length) => (wordOf_ok hb hcX hi).1)
  have HPl := Aside0.mk (fun (i : Nat) (hi : i < b.length) => (piece_ok hb hv0 hv hi).1)
  have HZl := Aside0.mk hZl
  have HX2l := Aside0.mk hX2l
  have HZs := Aside0.mk hZs
  have HX2 := Aside0.mk hX2
  have HY2 := Aside0.mk hy
  have hr1 := h.r1
  have HC1 := Aside0.mk h.c1
  clear hZl hZw hcX hk3 he3 hk4 hk5 hX2l hZs hX2 hy
  have hc22 := h.c2
  have hr2 := h.r2
  clear h hr hk hk1 hk2 h0 hC hC00 hxw hyw hpk hv hw hXl hYl hn hX hY
  go_enter Try.func10, Try.ntmps10
  go_wp2_with (first | (go_at_call 32; ((with_reducible refine (HLv.out _).mono ?_); rintro e w1 ⟨rfl, hb⟩; have HB1 := Aside0.mk (below_then HB0.out HB0.out.size hb); have hc1' := pw_cell_below hb hc0; clear hb)) | (go_at_call 33; ((with_reducible refine (HLt.out _ HB1.out).mono ?_); rintro e w2 ⟨rfl, hb⟩; have HB2 := Aside0.mk (below_then HB1.out HB1.out.size hb); have hc2' := pw_cell_below hb hc1'; clear hb)) | (go_at_call 34; ((with_reducible refine (HCk.out _ HB2.out).mono ?_); rintro e w3 ⟨rfl, hb⟩; have HB3 := Aside0.mk (below_then HB2.out HB2.out.size hb); have hc3' := pw_cell_below hb hc2'; clear hb)) | (go_at_call 35; ((with_reducible refine (HE1.out _ HB3.out).mono ?_); rintro e w4 ⟨x1, rfl, ho, hb⟩; obtain ⟨Ax, cx, rfl⟩ := Kd.R_slice ho; have HX := Aside0.mk ho; have HB4 := Aside0.mk (below_then HB3.out HB3.out.size hb); have hc4' := pw_cell_below hb hc3'; clear hb ho)) | (go_at_call 35; ((with_reducible refine (HE2.out _ HB4.out).mono ?_); rintro e w5 ⟨x2, rfl, ho, hb⟩; obtain ⟨Ay, cy, rfl⟩ := Kd.R_slice ho; have HBy := Aside0.mk hb; have HY := Aside0.mk ho; have HB5 := Aside0.mk (below_then HB4.out HB4.out.size hb); have hc5' := pw_cell_below hb hc4'; clear hb ho)))
  obtain ⟨hx5, hy5⟩ := HXa.out _ HB5.out
  have hpX : (X.length : Int) = (b.length : Int) := by rw [HXl.out]
  rw [hpX.symm] at HPk
  clear hpX
  have hg0 : 0 < b.length := by omega
  go_quiet (first | (go_at_call 13; ((with_reducible refine (HPk.out _).mono ?_); rintro e w' ⟨rfl, ⟨nd, rfl⟩⟩; (first | exact ⟨rfl, _, World.drewN_drewN _ _ _⟩ | exact ⟨rfl, _, Eq.trans (World.drewN_drewN _ _ _) (congrArg (World.drewN _) (Nat.add_assoc _ _ _))⟩))))
  rename_i nq
  have HB6 := Aside0.mk (pw_below_drewN HB5.out nq)
  have hc6' : (w5.drewN nq).cell? ⟨W.heap.size, 0, none⟩ = some (.slice (some ad) b.length c0) := by simpa using hc5'
  go_wp2_with (go_at_call 23; ((with_reducible refine (HOw.out _ HB6.out).mono ?_); rintro e w7 ⟨z, rfl, ho, hb⟩; obtain ⟨Az, cz, rfl⟩ := Kd.R_slice ho; have HZ := Aside0.mk ho; have HBz := Aside0.mk hb; have HB7 := Aside0.mk (below_then HB6.out HB6.out.size hb); have hc7' := pw_cell_below hb hc6'; clear hb ho))
  have hvp : 0 < v.length := by rw [HVl.out]; exact Nat.mul_pos hb.m1 hb1
  rcases (Kd.own_of_R HZ.out).2 with ⟨_, hz0⟩ | ⟨gz, capz, cur, ez, hbz, hgz, hnz, hcmz, hcsz, htz⟩
  · exact absurd hz0 (Nat.ne_of_gt hvp)
  injection ez with ez1 _ ez2
  subst ez1
  subst ez2
  obtain ⟨lo, hlo⟩ : ∃ lo, p * m = lo := ⟨_, rfl⟩
  obtain ⟨hi, hhi⟩ : ∃ hi, lo + m = hi := ⟨_, rfl⟩
  have hhi2 : (p + 1) * m = hi := by rw [Nat.add_mul, Nat.one_mul, hlo, hhi]
  have hhv : hi ≤ v.length := by rw [HVl.out, ← hhi2, Nat.mul_comm m]; exact Nat.mul_le_mul_right m hp
  have hhw : hi ≤ w.length := by rw [HWl.out, ← hhi2, Nat.mul_comm m]; exact Nat.mul_le_mul_right m hp
  have hlh : lo < hi := by rw [← hhi]; exact Nat.lt_add_of_pos_right hb.m1
  have hhi3 : hi ≤ 9223372036854775807 := by omega
  have hp3 : p + 1 ≤ 9223372036854775807 := by omega
  have hq1 : Value.int .i64 (IntKind.i64.wrap ((p : Int) * (m : Int))) = Value.int .i64 (lo : Int) := by rw [wrapI, ← Int.natCast_mul, hlo, wrap_nat (Nat.le_trans (Nat.le_of_lt hlh) hhi3)]
  have hq2 : Value.int .i64 (IntKind.i64.wrap ((p : Int) + 1)) = Value.int .i64 ((p + 1 : Nat) : Int) := by rw [wrapI, wrap_succ hp3]
  have hq3 : Value.int .i64 (IntKind.i64.wrap (((p : Int) + 1) * (m : Int))) = Value.int .i64 (hi : Int) := by rw [wrapI, ← Int.natCast_succ, ← Int.natCast_mul, hhi2, wrap_nat hhi3]
  have hlh2 : lo ≤ hi := Nat.le_of_lt hlh
  have hhz : hi ≤ cz := Nat.le_trans hhv hnz
  have hhc : hi ≤ c2 := Nat.le_trans hhw hc22
  have hne1 : ¬ cz = lo := fun e => absurd (Nat.lt_of_lt_of_le hlh hhz) (by rw [e]; exact Nat.lt_irrefl _)
  have hne2 : ¬ c2 = lo := fun e => absurd (Nat.lt_of_lt_of_le hlh hhc) (by rw [e]; exact Nat.lt_irrefl _)
  have hwC := HB7
  obtain ⟨adw, rfl, _⟩ := C_ints hr2 0 (Nat.lt_of_lt_of_le (Nat.lt_of_le_of_lt (Nat.zero_le _) hlh) hhw)
  go_still_tail 18, (by kernel_rfl)
  have HB8 := Aside0.mk (HB7.out.drew)
  have HBz8 := Aside0.mk (HBz.out.drew)
  change wpList _ _ _ _ _ w7.drew
  have hc8' : w7.drew.cell? ⟨W.heap.size, 0, none⟩ = some (.slice (some ad) b.length c0) := by simpa using hc7'
  have hgz8 : w7.drew.heap[gz]? = some (.cells cur.toList.toArray 21 (0, 0)) := by show w7.heap[gz]? = _; simpa using hgz
  have HPw := Aside0.mk (show (pieceL w m p).length = m by simp [pieceL]; omega)
  have HRw := Aside0.mk (fun Z (hZ : Below W.heap.size W Z) => Kd.C_below hr2 hZ)
  generalize w7.drew = w8 at *
  have HSrc := Aside0.mk (fun j u (hu : (nums .i32 (pieceL w m p))[j]? = some u) => show w8.cell? ((adw.add lo).add j) = some u from by
    simp only [nums, List.getElem?_map, Option.map_eq_some_iff] at hu
    obtain ⟨x, hx, rfl⟩ := hu
    obtain ⟨hj, hx⟩ := List.getElem?_eq_some_iff.1 hx
    rw [HPw.out] at hj
    have hpc : Kd.C (Kd.int .i32) w8 (some (adw.add lo)) m (pieceL w m p) := by
      have h := C_piece (HRw.out w8 HB8.out) lo m (by omega)
      rw [← hlo] at h ⊢
      exact h
    obtain ⟨ad2, e2, hc2⟩ := C_ints hpc j hj
    cases e2
    refine hc2.trans ?_
    rw [List.getD_eq_getElem?_getD, List.getElem?_eq_getElem (by rw [HPw.out]; exact hj), hx]
    rfl)
  have hsub : hi - lo = m := by rw [← hhi]; exact Nat.add_sub_cancel_left lo m
  go_wp2_with (((refine wpList_copy_splice rfl (.tmp 118) (.tmp 127) 25 25 rfl 21 Try.underlying25 (by kernel_rfl) (some ⟨gz, lo, none⟩) (some (adw.add lo)) (hi - lo) (cz - lo) (hi - lo) (c2 - lo) rfl rfl gz lo cur.toList 21 hgz8 (nums .i32 (pieceL w m p)) (by rw [nums_length, HPw.out, hsub]; exact (Nat.min_self m).symm) (fun _ => ⟨rfl, _, rfl, HSrc.out⟩) (by rw [nums_length, HPw.out, Array.length_toList, hcsz, Nat.mul_one, hhi]; exact hhz) (fun u hu => by obtain ⟨x, _, rfl⟩ := List.mem_map.1 hu; rfl) (w5.drewN nq).heap.size (w5.drewN nq) HBz8.out hbz ?_); intro w9 hg9 hb9))
  have HB9 := Aside0.mk (below_then HB6.out HB6.out.size hb9)
  have hc9' := pw_cell_below hb9 (show (w5.drewN nq).cell? ⟨W.heap.size, 0, none⟩ = _ from hc6')
  have hZv : Zs.length = v.length := by rw [HZl.out, HVl.out]
  have HZ9 : Aside0 ((Kd.int .i32).R 21 w9 (w5.drewN nq).heap.size (fun _ => True) (.slice (some ⟨gz, 0, none⟩) v.length cz) Zs) := ⟨by
    have h := own_splice (k := .i32) (n := v.length) hbz hnz hcmz (by rw [Array.length_toList, hcsz, Nat.mul_one]) (by rw [Nat.mul_one] at htz; exact htz) rfl (by rw [HPw.out]; omega) hg9.out
    rw [HPw.out, hhi] at h
    have e := HZs.out
    unfold spl at e
    rw [hlo, hhi2] at e
    rw [← e]
    exact h⟩
  clear hg9 hgz8 hgz
  have HX6 := Aside0.mk (Kd.R_below (Kd.R_below HX.out HBy.out) ((Below.refl w5.heap.size w5).trans (pw_below_drewN (Below.refl w5.heap.size w5) nq)))
  have HY6 := Aside0.mk (Kd.R_below HY.out (pw_below_drewN (Below.refl w5.heap.size w5) nq))
  obtain ⟨hCx, -, hcx⟩ := R_C HX6.out
  obtain ⟨hCy, -, hcy⟩ := R_C HY6.out
  obtain ⟨hCz, -, hcz⟩ := R_C HZ9.out
  have hXp : 0 < X.length := by rw [HXl.out]; omega
  have hpX : p < X.length := by rw [HXl.out]; exact hp
  have hpY : p < Y.length := by rw [HYl.out]; exact hp
  have HE4 := HE3
  have HL2 := Aside0.mk (show X.length = X2.length by rw [HXl.out, HX2l.out])
  rw [hZv] at HE4
  have HB69 := Aside0.mk hb9
  have HCx9 := Aside0.mk (Kd.C_below hCx hb9)
  have HCy9 := Aside0.mk (Kd.C_below hCy hb9)
  have HCz9 := Aside0.mk hCz
  rw [hZv] at HCz9 hcz
  obtain ⟨ady, hady, _⟩ := C_ints hCy p hpY
  subst hady
  obtain ⟨adx, hadx, _⟩ := C_ints hCx 0 hXp
  subst hadx
  obtain ⟨ad1, had1, _⟩ := C_ints hr1 0 hvp
  subst had1
  have HR1 := Aside0.mk (fun Z (hZ : Below W.heap.size W Z) => Kd.C_below hr1 hZ)
  clear hCx hCy hCz hb9 hb hZv hq1 hq2 hq3 hr1 hr2
  go_wp2_with (first
    | (go_at_call 40; (go_loud (with_reducible refine (HOx.out _ _ _ HCx9.out hcx).mono ?_; rintro e w10 ⟨z, rfl, ho, hb⟩; obtain ⟨gq, capq, rfl, hbq, hgq, _⟩ := Kd.R_form ho hXp; have hp10 := put_int (i := p) ho y; have hb11 := hb.setCell (p := ⟨gq, p, none⟩) hbq (Value.int .u8 y); obtain ⟨hcq, hfq⟩ := cell_int ho hpX; have HWq := Aside0.mk hp10; have HB11 := Aside0.mk (below_then HB9.out HB9.out.size hb11); have HB91 := Aside0.mk hb11; have hc11' := pw_cell_below hb11 hc9'; obtain ⟨ady2, hady2, hcy10⟩ := C_ints (Kd.C_below HCy9.out hb) p hpY; cases hady2; rw [HY2.out] at hcy10; clear hb ho hp10 hb11)))
    | (go_at_call 35; ((with_reducible refine (HE4.out _ _ _ HB11.out (Kd.C_below HCz9.out HB91.out) hcz).mono ?_); rintro e w12 ⟨x1, rfl, ho, hb⟩; obtain ⟨As, cs, rfl⟩ := Kd.R_slice ho; have HS := Aside0.mk ho; have HB12 := Aside0.mk (below_then HB11.out HB11.out.size hb); have HBs := Aside0.mk hb; have hc12' := pw_cell_below hb hc11'; obtain ⟨hCq, -, hcq2⟩ := R_C HWq.out; rw [HX2.out] at hCq hcq2; have HCq := Aside0.mk (Kd.C_below hCq HBs.out); obtain ⟨hCs, -, hcs2⟩ := R_C HS.out; have HCs := Aside0.mk hCs; clear hb ho hCq hCs))
    | (go_at_call 41; (go_loud ((with_reducible refine (HSb.out _ _ _ _ _ _ HL2.out HCs.out hcs2 (by rw [HL2.out]; exact HCq.out) (by rw [HL2.out]; exact hcq2)).mono ?_); rintro e w' ⟨rfl, ⟨nd, rfl⟩⟩; have HB13 := Aside0.mk (pw_below_drewN HB12.out nd); have hc13' := (pw_cell_below (pw_below_drewN (Below.refl w12.heap.size w12) nd) hc12'); have HB913 := Aside0.mk (pw_below_drewN (below_then HB91.out HB91.out.size HBs.out) nd))))
    | (go_at_call 36; (go_loud ((with_reducible refine (HLs.out _ HB13.out).mono ?_); rintro e w14 ⟨rfl, hb⟩; have HB14 := Aside0.mk (below_then HB13.out HB13.out.size hb); have hc14' := pw_cell_below hb hc13'; have HB914 := Aside0.mk (below_then HB913.out HB913.out.size hb); clear hb))))
  have HCx14 := Aside0.mk (fun Z (hZ : Below w9.heap.size w9 Z) => Kd.C_below HCx9.out hZ)
  go_loopw [21, 22] (fun s u wr => ∃ i : Nat, i ≤ X.length ∧ u = .int .i64 i ∧ s = .int .i64 (lossTo b m v X i) ∧ Aside0 (wr.cell? ⟨W.heap.size, 0, none⟩ = some (.slice (some ad) b.length c0)) ∧ Aside0 (Below w9.heap.size w9 wr) ∧ Aside0 (Below W.heap.size W wr)) (fun _ u _ => X.length - (intOf u).toNat)
  case atStart => exact ⟨0, Nat.zero_le _, rfl, rfl, ⟨hc14'⟩, HB914, HB14⟩
  case round =>
    obtain ⟨i, hi, rfl, rfl, HBn, HB9r, HB⟩ := hrel
    have hbn := HBn.out
    by_cases hlt : i < X.length
    · have hib : i < b.length := by rw [← HXl.out]; exact hlt
      obtain ⟨adx2, e2, hxi⟩ := C_ints (HCx14.out _ HB9r.out) i hlt
      cases e2
      obtain ⟨x1, x2⟩ := HXs.out i hib
      have HWi := Aside0.mk (HWd.out i hib)
      obtain ⟨kd, hkd⟩ := HDs.out i hib
      have hwl := HWl2.out i hib
      have hpl := HPl.out i hib
      have HPc := Aside0.mk (fun Z (hZ : Below W.heap.size W Z) => show Kd.C (Kd.int .i32) Z (some (ad1.add (i * m))) m (pieceL v m i) from C_piece (HR1.out Z hZ) (i * m) m (by rw [HVl.out, ← Nat.succ_mul, Nat.mul_comm m]; exact Nat.mul_le_mul_right m hib))
      have HD := Aside0.mk (fun A c A' c' Z hC hc hC' hc' => wayfinderref03_Dist.calls kd A c (wordOf b X i) A' c' (pieceL v m i) _ _ Z hC hc hC' hc' hkd)
      rw [hwl, hpl] at HD
      have HLi := Aside0.mk (HLb.out (i + 1) hib)
      have HLs2 := Aside0.mk (show lossTo b m v X (i + 1) = lossTo b m v X i + distV (wordOf b X i) (pieceL v m i) from rfl)
      have hci : Value.int .i64 (IntKind.i64.wrap (X.getD i 0)) = Value.int .i64 (X.getD i 0) := by rw [wrapI, wrap_in (by omega) (by omega)]
      obtain ⟨lo, hlo⟩ : ∃ lo, i * m = lo := ⟨_, rfl⟩
      obtain ⟨hi, hhi⟩ : ∃ hi, lo + m = hi := ⟨_, rfl⟩
      have hhi2 : (i + 1) * m = hi := by rw [Nat.add_mul, Nat.one_mul, hlo, hhi]
      have hhv : hi ≤ v.length := by rw [HVl.out, ← hhi2, Nat.mul_comm m]; exact Nat.mul_le_mul_right m hib
      have hlh : lo < hi := by rw [← hhi]; exact Nat.lt_add_of_pos_right HM1.out
      have hhi3 : hi ≤ 9223372036854775807 := by omega
      have hp3 : i + 1 ≤ 9223372036854775807 := by omega
      have hq1 : Value.int .i64 (IntKind.i64.wrap ((i : Int) * (m : Int))) = Value.int .i64 (lo : Int) := by rw [wrapI, ← Int.natCast_mul, hlo, wrap_nat (Nat.le_trans (Nat.le_of_lt hlh) hhi3)]
      have hq3 : Value.int .i64 (IntKind.i64.wrap (((i : Int) + 1) * (m : Int))) = Value.int .i64 (hi : Int) := by rw [wrapI, ← Int.natCast_succ, ← Int.natCast_mul, hhi2, wrap_nat hhi3]
      have hsub : hi - lo = m := by rw [← hhi]; exact Nat.add_sub_cancel_left lo m
      have hlh2 : lo ≤ hi := Nat.le_of_lt hlh
      have hhc : hi ≤ c1 := Nat.le_trans hhv HC1.out
      have hne : ¬ c1 = lo := fun e => absurd (Nat.lt_of_lt_of_le hlh hhc) (by rw [e]; exact Nat.lt_irrefl _)
      have HMc := Aside0.mk (show m ≤ c1 - lo by omega)
      rw [hlo] at HPc
      generalize X.getD i 0 = x at *
      generalize wordOf b X i = ws at *
      generalize pieceL v m i = pc at *
      generalize distV ws pc = D at *
      obtain ⟨L0, hL0⟩ : ∃ L0, lossTo b m v X i = L0 := ⟨_, rfl⟩
      have HL0 := Aside0.mk hL0
      rw [hL0] at HLs2 ⊢
      clear hL0
      go_wp2
      go_region_held3 (fun Z => Z.cell? ⟨W.heap.size, 0, none⟩ = some (.slice (some ad) b.length c0) ∧ Z.cell? (adx.add i) = some (.int .u8 x) ∧ Aside0 (Below w9.heap.size w9 Z) ∧ Aside0 (Below W.heap.size W Z)) (first | exact ⟨hbn, hxi, HB9r, HB⟩ | exact ⟨by simpa using hbn, by simpa using hxi, ⟨HB9r.out.drew⟩, ⟨HB.out.drew⟩⟩ | exact ⟨hbn16, hxi16, HB916, HB16⟩) (first | (go_at_call 39; (go_loud ((with_reducible refine (HWi.out _ (by first | exact HB.out.drew | exact HB.out)).mono ?_); rintro e w16 ⟨z1, rfl, ho, hb⟩; obtain ⟨Aw, cw, rfl⟩ := Kd.R_slice ho; have HB16 := Aside0.mk (below_then HB.out.drew HB.out.drew.size hb); have HB916 := Aside0.mk (below_then HB9r.out.drew HB9r.out.drew.size hb); have hbn16 := pw_cell_below hb (show wr.drew.cell? _ = _ from by simpa using hbn); have hxi16 := pw_cell_below hb (show wr.drew.cell? _ = _ from by simpa using hxi); obtain ⟨hCw, -, hcw⟩ := R_C ho; have HCw := Aside0.mk hCw; clear hb ho hCw))))
      go_wp2_with (first
        | (go_at_call 20; (go_loud ((with_reducible refine (HD.out _ _ _ _ _ (hwl ▸ HCw.out) (hwl ▸ hcw) (HPc.out _ HB16.out) HMc.out).mono ?_); rintro e w' ⟨rfl, ⟨nd, rfl⟩⟩))))
      go_roundw
      case rel => exact ⟨i + 1, hlt, by go_num, by rw [HLs2.out]; congr 1; exact wrap_in (by have := HLi.out; have := HLs2.out; omega) (by have := HLi.out; have := HLs2.out; omega), ⟨by simpa using hbn16⟩, ⟨pw_below_drewN HB916.out nd⟩, ⟨pw_below_drewN HB16.out nd⟩⟩
      case measure => simp [intOf]; omega
    · obtain rfl : i = X.length := by omega
      generalize lossTo b m v X X.length = L at *
      go_wp2
      go_ret
      exact ⟨rfl, HB.out⟩
end Go.Proofs.Ytpcacklmelokiaa.G
