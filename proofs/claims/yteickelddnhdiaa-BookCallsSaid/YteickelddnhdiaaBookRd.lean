/- Contract: book.Read. -/
import Derived.Test.YteickelddnhdiaaBase
import Derived.Test.YteickelddnhdiaaRowsA
import Derived.Test.YteickelddnhdiaaBookC
import Derived.Test.YteickelddnhdiaaPartC
namespace Go.Proofs.Yteickelddnhdiaa.G
open Go.RowKit Go.Shelf Go.Proofs.YteickelddnhdiaaW.PrintWords
set_option linter.unusedVariables false
set_option linter.unusedSimpArgs false

/-- The number of the first k bytes. -/
def ofTo (l : List Int) : Nat → Int
  | 0 => 0
  | k + 1 => ofTo l k + l.getD k 0 * 2 ^ (8 * k)
def isByte (x : Int) : Prop := 0 ≤ x ∧ x < 256

theorem ofTo_bound (l : List Int) : ∀ k, (∀ j, j < k → isByte (l.getD j 0)) → 0 ≤ ofTo l k ∧ ofTo l k < 2 ^ (8 * k)
  | 0, _ => by simp [ofTo]
  | k + 1, h => by
    obtain ⟨h1, h2⟩ := ofTo_bound l k (fun j hj => h j (by omega))
    obtain ⟨b1, b2⟩ := h k (by omega)
    have e : (2 : Int) ^ (8 * (k + 1)) = 256 * 2 ^ (8 * k) := by
      rw [show 8 * (k + 1) = 8 * k + 8 by omega, Int.pow_add]
      omega
    have hp : (0 : Int) < 2 ^ (8 * k) := Int.pow_pos (by decide)
    simp only [ofTo]
    rw [e]
    have h3 := Int.mul_le_mul_of_nonneg_right (show l.getD k 0 ≤ 255 by omega) (Int.le_of_lt hp)
    have h4 := Int.mul_nonneg b1 (Int.le_of_lt hp)
    omega
theorem of_step (l : List Int) (k : Nat) (hk : k < 8) (h : ∀ j, j < k + 1 → isByte (l.getD j 0)) :
    bits .or .u64 (ofTo l k) (IntKind.u64.wrap (IntKind.u64.wrap (l.getD k 0) * 2 ^ (8 * k))) = ofTo l (k + 1) := by
  obtain ⟨h1, h2⟩ := ofTo_bound l k (fun j hj => h j (by omega))
  obtain ⟨b1, b2⟩ := h k (by omega)
  simp only [ofTo]
  generalize l.getD k 0 = b at *
  obtain ⟨o, ho⟩ : ∃ o : Nat, ofTo l k = o := ⟨(ofTo l k).toNat, by omega⟩
  obtain ⟨c, hc⟩ : ∃ c : Nat, b = c := ⟨b.toNat, by omega⟩
  rw [ho] at h1 h2 ⊢
  rw [hc] at b1 b2 ⊢
  have e1 : IntKind.u64.wrap (c : Int) = (c : Int) := by rw [IntKind.wrap_u64]; omega
  have hpn : ((2 : Int) ^ (8 * k)) = ((2 ^ (8 * k) : Nat) : Int) := by simp
  have hp56 : 2 ^ (8 * k) ≤ 2 ^ 56 := Nat.pow_le_pow_right (by decide) (by omega)
  have hc2 : c * 2 ^ (8 * k) ≤ 255 * 2 ^ 56 := Nat.mul_le_mul (by omega) hp56
  rw [e1, hpn, ← Int.natCast_mul, IntKind.wrap_u64]
  rw [hpn] at h2
  have h2' : o < 2 ^ (8 * k) := Int.ofNat_lt.1 h2
  have e2 : ((c * 2 ^ (8 * k) : Nat) : Int) % 18446744073709551616 = ((c * 2 ^ (8 * k) : Nat) : Int) := Int.emod_eq_of_lt (by omega) (by generalize c * 2 ^ (8 * k) = q at *; omega)
  rw [e2, u64_or_nat o (c * 2 ^ (8 * k)) (by generalize 2 ^ (8 * k) = q at *; omega) (by generalize c * 2 ^ (8 * k) = q at *; omega)]
  rw [Nat.or_comm, Nat.mul_comm c, ← Nat.two_pow_add_eq_or_of_lt h2' c]
  rw [Nat.mul_comm, Nat.add_comm, Int.natCast_add]
theorem Of_calls (A0 : Option Addr) (c0 : Nat) (l0 : List Int) (w : World) (hr0 : Kd.C (Kd.int .u8) w A0 l0.length l0) (hb : ∀ j, j < l0.length → isByte (l0.getD j 0)) :
    Calls Try.prog 138 #[.slice A0 l0.length c0] w fun e w' => e = .returned (.int .u64 (ofTo l0 (min l0.length 8))) ∧ w = w' := by
  have hmax := C_max hr0
  have HC := Aside0.mk (C_ints hr0)
  have HB := Aside0.mk hb
  clear hr0 hb
  obtain ⟨m, hm8, hml, HM, hmn⟩ : ∃ m : Nat, m ≤ 8 ∧ m ≤ l0.length ∧ Aside0 (min l0.length 8 = m) ∧ (∀ ats ty W, (Builtin.min_ ats ty #[.int .i64 (l0.length : Int), .int .i64 8]).run Try.prog W = .ok (.int .i64 (m : Int)) W) :=
    ⟨min l0.length 8, by omega, by omega, ⟨rfl⟩, fun ats ty W => by rw [run_min]; congr 2; omega⟩
  rw [HM.out]
  go_enter Try.func138, Try.ntmps138
  go_wp2
  clear hmn
  go_loopw [2, 3, 7] (fun x _ i wr => ∃ k : Nat, k ≤ m ∧ i = .int .i64 k ∧ x = .int .u64 (ofTo l0 k) ∧ Aside0 (w = wr)) (fun _ _ i _ => m - (intOf i).toNat)
  case atStart => exact ⟨0, by omega, rfl, rfl, ⟨rfl⟩⟩
  case round =>
    obtain ⟨k, hk, rfl, rfl, HW⟩ := hrel
    by_cases hlt : k < m
    · have hk8 : k < 8 := by omega
      have hkl : k < l0.length := by omega
      obtain ⟨ad, rfl, hx⟩ := HC.out k (by omega)
      obtain rfl := HW.out
      have HS := Aside0.mk (of_step l0 k hk8 (fun j hj => HB.out j (by omega)))
      generalize l0.getD k 0 = b at *
      generalize ofTo l0 k = o at *
      go_wp2
      go_roundw
      case rel => exact ⟨k + 1, by omega, by go_num, by rw [HS.out], by first | exact ⟨rfl⟩ | exact ⟨trivial⟩⟩
      case measure => simp [intOf]; omega
    · obtain rfl : k = m := by omega
      go_wp2
      go_ret
      exact ⟨rfl, HW.out⟩

/-- A number's signed reading of its n low bytes (n at least 1). -/
def signedV (x n : Int) : Int := if n < 1 then 0 else (wrap64 (IntKind.u64.wrap (x * 2 ^ (8 * (8 - min n 8)).toNat))) / 2 ^ (8 * (8 - min n 8)).toNat
theorem Signed_calls (x n : Int) (w : World) :
    Calls Try.prog 119 #[.int .u64 x, .int .i64 n] w fun e w' => e = .returned (.int .i64 (signedV x n)) ∧ w = w' := by
  by_cases hn : n < 1
  · have HF := Aside0.mk (show signedV x n = 0 by simp [signedV, hn])
    go_enter Try.func119, Try.ntmps119
    go_wp2
    go_ret
    exact ⟨by rw [HF.out]; rfl, rfl⟩
  · have HF := Aside0.mk (show signedV x n = (wrap64 (IntKind.u64.wrap (x * 2 ^ (8 * (8 - min n 8)).toNat))) / 2 ^ (8 * (8 - min n 8)).toNat by simp [signedV, hn])
    obtain ⟨m, h1, h8, HM, hmn⟩ : ∃ m : Nat, 1 ≤ m ∧ m ≤ 8 ∧ Aside0 (min n 8 = (m : Int)) ∧ (∀ ats ty W, (Builtin.min_ ats ty #[.int .i64 n, .int .i64 8]).run Try.prog W = .ok (.int .i64 (m : Int)) W) :=
      ⟨(min n 8).toNat, by omega, by omega, ⟨by omega⟩, fun ats ty W => by rw [run_min]; congr 2; omega⟩
    rw [HF.out, HM.out, show (8 * (8 - (m : Int))).toNat = 8 * (8 - m) by omega]
    clear HF
    go_enter Try.func119, Try.ntmps119
    go_wp2
    go_ret
    exact ⟨by simp, rfl⟩

end Go.Proofs.Yteickelddnhdiaa.G

namespace Go.Proofs.Yteickelddnhdiaa.G
open Go.RowKit Go.Shelf Go.Proofs.YteickelddnhdiaaW.PrintWords
set_option linter.unusedVariables false
set_option linter.unusedSimpArgs false
theorem own_lit0 (w : World) : (w.alloc (.cells #[] 5)).ownsRow w.heap.size 5 1 (.slice (some ⟨w.heap.size, 0, none⟩) 0 0) ([] : List Int).length (nums .u8 []) :=
  ⟨rfl, .inr ⟨w.heap.size, 0, #[], rfl, Nat.le_refl _, heap_alloc_new w _, Nat.le_refl _, by decide, rfl, rfl⟩⟩
set_option maxRecDepth 100000 in
theorem New_c (A0 : Option Addr) (c0 : Nat) (l : List Int) (w : World) (hr : Kd.C (Kd.int .u8) w A0 l.length l) (hl : l.length ≤ 17592186044416) :
    Calls Try.prog 84 #[.slice A0 l.length c0] w fun e w' => ∃ wb A c, e = .returned (.pointer (some ⟨wb.heap.size, 0, none⟩)) ∧ w' = wb.alloc (.cells #[.slice A l.length c, .int .i64 0] 136) ∧ Aside0 (Below w.heap.size w wb) ∧ Aside0 (Kd.C (Kd.int .u8) wb A l.length l) ∧ l.length ≤ c := by
  have HR := Aside0.mk (fun W (hB : Below w.heap.size w W) => C_reads (Kd.C_below hr hB))
  clear hr
  go_enter Try.func84, Try.ntmps84
  go_wp2_with (at_builtin; refine print_append_row (w0 := w) w.heap.size rfl (.tmp 3) (.tmp 4) 55 5 .u8 1 rfl Try.underlying55 info_u8 (by decide) _ [] l A0 l.length c0 rfl rfl (own_lit0 w) (HR.out _ ((Below.refl _ w).alloc (Nat.le_refl _) _)) ((Below.refl _ w).alloc (Nat.le_refl _) _) (by simp) (by simp; omega) ?_; intro v1 w1 ho hb hg hat; obtain ⟨A1, c1, rfl, hl1, hC1⟩ := Kd.R_reads (R_nums ho rfl); have HO := Aside0.mk hC1; have HB := Aside0.mk hb; clear ho hb hg hat hC1)
  go_ret
  exact ⟨w1, A1, c1, rfl, rfl, HB, HO, hl1⟩
set_option maxRecDepth 100000 in
theorem take_c (W wb : World) (A : Option Addr) (L : List Int) (c : Nat) (hB : Below wb.heap.size wb W) (hx0 : W.cell? ⟨wb.heap.size, 0, none⟩ = some (.slice A L.length c)) (hx1 : W.cell? ⟨wb.heap.size, 1, none⟩ = some (.int .i64 0)) (hz0 : W.frozen? ⟨wb.heap.size, 0, none⟩ = false)
    (hC : Kd.C (Kd.int .u8) wb A L.length L) (h4 : 4 ≤ L.length) (hc : L.length ≤ c) :
    Calls Try.prog 139 #[.pointer (some ⟨wb.heap.size, 0, none⟩), .int .i64 4, .int .i64 8] W fun e w' => ∃ ad A', A = some ad ∧ e = .returned (.slice (some ad) 4 4) ∧ w' = W.setCell ⟨wb.heap.size, 0, none⟩ (.slice A' (L.length - 4) (c - 4)) ∧ Aside0 (Kd.C (Kd.int .u8) wb A' (L.length - 4) (L.drop 4)) := by
  have hm := C_max hC
  obtain ⟨ad, rfl, _⟩ := C_ints hC 0 (by omega)
  have hp := C_piece hC 4 (L.length - 4) (by omega)
  rw [List.take_of_length_le (by simp)] at hp
  have HP := Aside0.mk hp
  have hd1 : decide ((4 : Int) > (L.length : Int)) = false := decide_eq_false (by omega)
  have h4c : 4 ≤ c := by omega
  clear hp hC
  by_cases hc4 : c = 4
  · have hl4 : L.length = 4 := by omega
    go_enter Try.func139, Try.ntmps139
    go_wp2
    go_ret
    exact ⟨ad, some ad, rfl, rfl, by rw [hl4, hc4], ⟨⟨by simp, by omega, fun h => by omega⟩⟩⟩
  · go_enter Try.func139, Try.ntmps139
    go_wp2
    go_ret
    exact ⟨ad, some (ad.add 4), rfl, rfl, rfl, HP⟩
/-- A number of four bytes, signed. -/
def num4 (L : List Int) : Int := signedV (ofTo (L.take 4) 4) 4
set_option maxRecDepth 100000 in
theorem Number_c (W wb : World) (A : Option Addr) (L : List Int) (c : Nat) (hB : Below wb.heap.size wb W) (hx0 : W.cell? ⟨wb.heap.size, 0, none⟩ = some (.slice A L.length c)) (hx1 : W.cell? ⟨wb.heap.size, 1, none⟩ = some (.int .i64 0)) (hz0 : W.frozen? ⟨wb.heap.size, 0, none⟩ = false)
    (hC : Kd.C (Kd.int .u8) wb A L.length L) (h4 : 4 ≤ L.length) (hc : L.length ≤ c) (hb : ∀ x ∈ L, isByte x) :
    Calls Try.prog 120 #[.pointer (some ⟨wb.heap.size, 0, none⟩), .int .i64 4] W fun e w' => ∃ A', e = .returned (.int .u64 (ofTo (L.take 4) 4)) ∧ w' = W.setCell ⟨wb.heap.size, 0, none⟩ (.slice A' (L.length - 4) (c - 4)) ∧ Aside0 (Kd.C (Kd.int .u8) wb A' (L.length - 4) (L.drop 4)) := by
  have HT := Aside0.mk (take_c W wb A L c hB hx0 hx1 hz0 hC h4 hc)
  have HL := Aside0.mk (show (L.take 4).length = 4 by simp; omega)
  have HOf := Aside0.mk (fun (ad : Addr) (A' : Option Addr) (h : A = some ad) => by
    have hC' : Kd.C (Kd.int .u8) wb (some ad) L.length L := by rw [← h]; exact hC
    have hp := C_piece hC' 0 4 (by omega)
    rw [show ad.add 0 = ad by simp [Addr.add], List.drop_zero] at hp
    have hp2 := Kd.C_below hp (hB.setCell (p := ⟨wb.heap.size, 0, none⟩) (Nat.le_refl _) (.slice A' (L.length - 4) (c - 4)))
    have := Of_calls (some ad) 4 (L.take 4) (W.setCell ⟨wb.heap.size, 0, none⟩ (.slice A' (L.length - 4) (c - 4))) (by rw [HL.out]; exact hp2) (fun j hj => hb _ (List.mem_of_mem_take (by rw [List.getD_eq_getElem?_getD, List.getElem?_eq_getElem hj]; exact List.getElem_mem hj)))
    rw [HL.out] at this
    exact this)
  clear hx0 hx1 hz0 hC hb hB
  go_enter Try.func120, Try.ntmps120
  go_wp2_with (first
    | (go_at_call 139; (((with_reducible refine HT.out.mono ?_); rintro e w1 ⟨ad, A', hA, rfl, rfl, hC⟩; have HA := Aside0.mk hA; clear hA)))
    | (go_at_call 138; (((with_reducible refine (HOf.out _ _ HA.out).mono ?_); rintro e w2 ⟨rfl, rfl⟩))))
  go_ret
  exact ⟨A', rfl, rfl, hC⟩
set_option maxRecDepth 100000 in
theorem Signed4_c (W wb : World) (A : Option Addr) (L : List Int) (c : Nat) (hB : Below wb.heap.size wb W) (hx0 : W.cell? ⟨wb.heap.size, 0, none⟩ = some (.slice A L.length c)) (hx1 : W.cell? ⟨wb.heap.size, 1, none⟩ = some (.int .i64 0)) (hz0 : W.frozen? ⟨wb.heap.size, 0, none⟩ = false)
    (hC : Kd.C (Kd.int .u8) wb A L.length L) (h4 : 4 ≤ L.length) (hc : L.length ≤ c) (hb : ∀ x ∈ L, isByte x) :
    Calls Try.prog 85 #[.pointer (some ⟨wb.heap.size, 0, none⟩), .int .i64 4] W fun e w' => ∃ A', e = .returned (.int .i64 (num4 L)) ∧ w' = W.setCell ⟨wb.heap.size, 0, none⟩ (.slice A' (L.length - 4) (c - 4)) ∧ Aside0 (Kd.C (Kd.int .u8) wb A' (L.length - 4) (L.drop 4)) := by
  have HT := Aside0.mk (Number_c W wb A L c hB hx0 hx1 hz0 hC h4 hc hb)
  have HS := Aside0.mk (fun X => Signed_calls (ofTo (L.take 4) 4) 4 X)
  have HN := Aside0.mk (show signedV (ofTo (L.take 4) 4) 4 = num4 L from rfl)
  rw [HN.out] at HS
  clear hx0 hx1 hz0 hC hb hB HN
  generalize ofTo (L.take 4) 4 = q at *
  generalize num4 L = z at *
  go_enter Try.func85, Try.ntmps85
  go_wp2_with (first
    | (go_at_call 120; (((with_reducible refine HT.out.mono ?_); rintro e w1 ⟨A', rfl, rfl, hC⟩)))
    | (go_at_call 119; (((with_reducible refine (HS.out _).mono ?_); rintro e w2 ⟨rfl, rfl⟩))))
  go_ret
  exact ⟨A', rfl, rfl, hC⟩
end Go.Proofs.Yteickelddnhdiaa.G

namespace Go.Proofs.Yteickelddnhdiaa.G
open Go.RowKit Go.Shelf Go.Proofs.YteickelddnhdiaaW.PrintWords
set_option linter.unusedVariables false
set_option linter.unusedSimpArgs false
def posR (n m i k j : Nat) : Nat := (i * n + k) * m + j
def numR (x : List Int) (n m i k j : Nat) : Int := wrap32 (num4 (x.drop (4 * posR n m i k j)))
def rowR (x : List Int) (n m i k : Nat) : List Int := (List.range m).map (numR x n m i k)
def partR (x : List Int) (n m i : Nat) : List (List Int) := (List.range n).map (rowR x n m i)
/-- What is read. -/
def readB (x : List Int) (P n m : Nat) : List (List (List Int)) := (List.range P).map (partR x n m)
theorem posR_lt {P n m i k j : Nat} (hi : i < P) (hk : k < n) (hj : j < m) : posR n m i k j < P * n * m := by
  unfold posR
  have h1 := Nat.mul_le_mul_right n (show i + 1 ≤ P from hi)
  have h2 : (i + 1) * n = i * n + n := by rw [Nat.add_mul, Nat.one_mul]
  have h3 := Nat.mul_le_mul_right m (show i * n + k + 1 ≤ P * n by omega)
  have h4 : (i * n + k + 1) * m = (i * n + k) * m + m := by rw [Nat.add_mul, Nat.one_mul]
  omega
theorem posR_row (n m i k : Nat) : posR n m i k m = posR n m i (k + 1) 0 := by
  unfold posR
  rw [← Nat.add_assoc, Nat.add_mul (i * n + k) 1, Nat.one_mul]
  rfl
theorem posR_part (n m i : Nat) : posR n m i n 0 = posR n m (i + 1) 0 0 := by
  unfold posR
  rw [Nat.add_mul i 1, Nat.one_mul]
  rfl
theorem posR_succ (n m i k j : Nat) : posR n m i k (j + 1) = posR n m i k j + 1 := by unfold posR; omega
structure RdSt (wb : World) (g0 gb : Nat) (L : List Int) (wr : World) (u : Value) : Prop where
  below : Below wb.heap.size wb wr
  rdr : ∃ A c, wr.heap[wb.heap.size]? = some (.cells #[.slice A L.length c, .int .i64 0] 136 (0, 0)) ∧ Kd.C (Kd.int .u8) wb A L.length L ∧ L.length ≤ c
  var : wr.heap[gb]? = some (.cells #[u] 53 (0, 0))
  res : wr.heap[g0]? = some (.cells #[.slice none 0 0] 53 (0, 0))
theorem R_rd {α : Type} {d : Kd α} {e base g t : Nat} {ok : Nat → Prop} {W : World} {v : Value} {xs : List α} {cells : Array Value} (h : d.R e W base ok v xs) (hb : W.heap[g]? = some (.cells cells t (0, 0))) (ht : ∀ q, q ∈ e :: d.E → q ≠ t) (u : Value) : d.R e (W.setCell ⟨g, 0, none⟩ u) base ok v xs :=
  Kd.R_mono (Kd.R_far (p := ⟨g, 0, none⟩) (Kd.R_types h hb ht) (fun _ hk => hk.2) u) (fun _ hk => hk.1)
theorem RdSt.signed {wb wr : World} {g0 gb : Nat} {L : List Int} {u : Value} (h : RdSt wb g0 gb L wr u) {A' : Option Addr} {c : Nat} (h4 : 4 ≤ L.length) (hc : L.length ≤ c) (hC : Kd.C (Kd.int .u8) wb A' (L.length - 4) (L.drop 4)) : RdSt wb g0 gb (L.drop 4) (wr.setCell ⟨wb.heap.size, 0, none⟩ (.slice A' (L.length - 4) (c - 4))) u := by
  obtain ⟨A, c1, hr, _⟩ := h.rdr
  have hl : (L.drop 4).length = L.length - 4 := by simp
  exact ⟨h.below.setCell (Nat.le_refl _) _, ⟨A', c - 4, by rw [hl]; exact blk_put hr 0 _ rfl, by rw [hl]; exact hC, by rw [hl]; omega⟩,
    blk_far h.var (p := ⟨wb.heap.size, 0, none⟩) (blk_ne h.var hr (by decide)) _, blk_far h.res (p := ⟨wb.heap.size, 0, none⟩) (blk_ne h.res hr (by decide)) _⟩
theorem RdSt.grown {wb wr w1 : World} {g0 gb : Nat} {L : List Int} {u v : Value} (h : RdSt wb g0 gb L wr u) (hb : Below wb.heap.size wb w1) (hg : wr.grownBy w1 v.ownBlock) (n1 : some wb.heap.size ≠ v.ownBlock) (n2 : some gb ≠ v.ownBlock) (n3 : some g0 ≠ v.ownBlock) : RdSt wb g0 gb L w1 u := by
  obtain ⟨A, c1, hr, h2⟩ := h.rdr
  exact ⟨hb, ⟨A, c1, blk_grown hr hg n1, h2⟩, blk_grown h.var hg n2, blk_grown h.res hg n3⟩
theorem RdSt.put {wb wr : World} {g0 gb : Nat} {L : List Int} {u : Value} (h : RdSt wb g0 gb L wr u) (hgb : wb.heap.size ≤ gb) (hne : g0 ≠ gb) (u' : Value) : RdSt wb g0 gb L (wr.setCell ⟨gb, 0, none⟩ u') u' := by
  obtain ⟨A, c1, hr, h2⟩ := h.rdr
  exact ⟨h.below.setCell hgb _, ⟨A, c1, blk_far hr (p := ⟨gb, 0, none⟩) (Ne.symm (blk_ne h.var hr (by decide))) _, h2⟩, blk_put h.var 0 _ rfl, blk_far h.res (p := ⟨gb, 0, none⟩) hne _⟩
theorem info_sl1 : (Try.prog.info? 39).map (fun i => (i.zero, i.size, i.bytes)) = some (some (.slice none 0 0), 1, 24) := by kernel_rfl
theorem info_sl2 : (Try.prog.info? 22).map (fun i => (i.zero, i.size, i.bytes)) = some (some (.slice none 0 0), 1, 24) := by kernel_rfl
set_option maxRecDepth 100000 in
set_option maxHeartbeats 4000000 in
theorem Read_main (A0 : Option Addr) (c0 : Nat) (x : List Int) (P n m D : Nat) (hD : m * P = D) (w : World) (hr : Kd.C (Kd.int .u8) w A0 x.length x) (hP : 1 ≤ P) (hm1 : 1 ≤ m) (hmost : D ≤ 1024) (hn1 : 1 ≤ n) (hn2 : n ≤ 256) (hx : x.length = 4 * D * n) (hby : ∀ t ∈ x, isByte t)
    (r1 : List (List (List Int))) (r2 : Int) (hres : Aside0 ((if bookE (readB x P n m) = 0 then (readB x P n m, (0 : Int)) else ([], 4)) = (r1, r2))) :
    Calls Try.prog 39 #[.slice A0 x.length c0, .int .i64 D, .int .i64 P, .int .i64 n] w fun e w' => ∃ v, e = .returned (.tuple #[.agg #[v], .int .i64 r2]) ∧
      (Kd.slice 39 (Kd.slice 21 (Kd.int .i32))).R 22 w' w.heap.size (fun _ => True) v r1 ∧ Below w.heap.size w w' := by
  have hmP : P ≤ D := by rw [← hD]; exact Nat.le_mul_of_pos_left P hm1
  have hmm : m ≤ D := by rw [← hD]; exact Nat.le_mul_of_pos_right m hP
  have hqn := Nat.mul_le_mul (show 4 * D ≤ 4096 by omega) hn2
  have HChk := Aside0.mk (fun W => PCheck_calls (D : Int) (P : Int) W)
  have hpe : partE (D : Int) (P : Int) = 0 := by
    unfold partE
    have h1 : ((D : Int) % (P : Int)) = ((D % P : Nat) : Int) := rfl
    have h2 : D % P = 0 := by rw [← hD]; exact Nat.mul_mod_left m P
    rw [h1, h2, if_neg (by omega)]
  rw [hpe] at HChk
  have HNw := Aside0.mk (fun W (hW : Below w.heap.size w W) => New_c A0 c0 x W (Kd.C_below hr hW) (by omega))
  have hw1 : IntKind.i64.wrap (4 * (D : Int)) = ((4 * D : Nat) : Int) := by rw [IntKind.wrap_i64]; omega
  have hw2 : IntKind.i64.wrap (4 * (D : Int) * (n : Int)) = (x.length : Int) := by
    rw [show (4 : Int) * (D : Int) * (n : Int) = ((4 * D * n : Nat) : Int) by simp, ← hx, IntKind.wrap_i64]
    omega
  have hd1 : ((x.length : Int) != (x.length : Int)) = false := by simp
  have HB0 := Aside0.mk ((Below.refl w.heap.size w).alloc (Nat.le_refl _) (.cells #[.slice none 0 0] 53))
  have HX := Aside0.mk hx
  clear hr hpe hqn hx
  go_enter Try.func39, Try.ntmps39
  go_wp2_with (first
    | (go_at_call 83; ((with_reducible refine (HChk.out _).mono ?_); rintro e w1 ⟨rfl, rfl⟩))
    | (go_at_call 84; (((with_reducible refine (HNw.out _ HB0.out).mono ?_); rintro e w1 ⟨wb, A, c, rfl, rfl, HB1, HC1, hc1⟩))))
  have hB1s := HB1.out.size
  have hsz0 : (w.alloc (.cells #[.slice none 0 0] 53)).heap.size = w.heap.size + 1 := by simp
  have hg0 : w.heap.size < wb.heap.size := by rw [hsz0] at hB1s; omega
  have HG0 := Aside0.mk hg0
  obtain ⟨w2, hw2e⟩ : ∃ w2, (wb.alloc (.cells #[.slice A x.length c, .int .i64 0] 136)).alloc (.cells #[.slice none 0 0] 53) = w2 := ⟨_, rfl⟩
  have HS0 : Aside0 (RdSt wb w.heap.size (wb.heap.size + 1) (x.drop (4 * posR n m 0 0 0)) w2 (.slice none 0 0)) := ⟨by
    have e0 : x.drop (4 * posR n m 0 0 0) = x := by simp [posR]
    rw [e0, ← hw2e]
    have hs1 : (wb.alloc (.cells #[.slice A x.length c, .int .i64 0] 136)).heap.size = wb.heap.size + 1 := by simp
    refine ⟨((Below.refl wb.heap.size wb).alloc (Nat.le_refl _) _).alloc (by rw [hs1]; omega) _, ⟨A, c, blk_alloc (blk_new wb _) _, HC1.out, hc1⟩, ?_, ?_⟩
    · rw [← hs1]
      exact blk_new _ _
    · refine blk_alloc (blk_alloc ?_ _) _
      exact (HB1.out.block w.heap.size (by rw [hsz0]; omega)).trans (blk_new w _)⟩
  rw [hw2e]
  have hmx : x.length = 4 * (P * n * m) := by rw [HX.out, ← hD, Nat.mul_assoc, Nat.mul_comm m P, Nat.mul_assoc P m n, Nat.mul_comm m n, Nat.mul_assoc]
  have HL4 := Aside0.mk (fun (i k j : Nat) (hi : i < P) (hk : k < n) (hj : j < m) => show 4 ≤ (x.drop (4 * posR n m i k j)).length by
    have := posR_lt hi hk hj
    rw [List.length_drop]
    omega)
  have HMX := Aside0.mk hmx
  have hne : ¬ (P : Int) = 0 := by omega
  have htd : Int.tdiv (D : Int) (P : Int) = (m : Int) := by
    rw [← hD, Int.natCast_mul]
    exact Int.mul_tdiv_cancel _ hne
  have hnc : Value.int .i64 (IntKind.i64.wrap (m : Int)) = Value.int .i64 (m : Int) := by
    have : IntKind.i64.wrap (m : Int) = (m : Int) := by rw [IntKind.wrap_i64]; omega
    rw [this]
  have HBy := Aside0.mk (fun a => fun t (ht : t ∈ x.drop a) => hby t (List.mem_of_mem_drop ht))
  have HB1w := Aside0.mk (show Below w.heap.size w wb from below_then ((Below.refl w.heap.size w).alloc (Nat.le_refl _) _) (by rw [hsz0]; omega) HB1.out)
  have HCk := Aside0.mk (fun A c l W => Bk.book_Check.calls A c l (bookE l) W)
  clear hw2e HB1 HC1 hc1 hB1s hsz0 hg0 hmx hby HChk HNw HB0 hw1 hw2 hd1
  go_loopw [40] (fun v wr => ∃ (i : Nat) (u : Value), i ≤ P ∧ v = .int .i64 i ∧ Aside0 (RdSt wb w.heap.size (wb.heap.size + 1) (x.drop (4 * posR n m i 0 0)) wr u) ∧ Aside0 ((Kd.slice 39 (Kd.slice 21 (Kd.int .i32))).R 22 wr wb.heap.size (fun _ => True) u ((List.range i).map (partR x n m)))) (fun v _ => P - (intOf v).toNat)
  case atStart => exact ⟨0, .slice none 0 0, Nat.zero_le _, rfl, HS0, ⟨Kd.R_nil _ _ _ _ _⟩⟩
  case round =>
    clear HS0
    obtain ⟨i, u, hi, rfl, HS, HO⟩ := hrel
    by_cases hlt : i < P
    · go_wp2
      go_loopw [12, 43] (fun v12 v43 w3 => ∃ (k : Nat), k ≤ n ∧ v43 = .int .i64 k ∧ Aside0 (RdSt wb w.heap.size (wb.heap.size + 1) (x.drop (4 * posR n m i k 0)) w3 u) ∧ Aside0 ((Kd.slice 21 (Kd.int .i32)).R 39 w3 wb.heap.size (fun _ => True) v12 ((List.range k).map (rowR x n m i))) ∧ Aside0 ((Kd.slice 39 (Kd.slice 21 (Kd.int .i32))).R 22 w3 wb.heap.size (fun q => some q ≠ v12.ownBlock) u ((List.range i).map (partR x n m)))) (fun _ v _ => n - (intOf v).toNat)
      case atStart => exact ⟨0, Nat.zero_le _, rfl, HS, ⟨Kd.R_nil _ _ _ _ _⟩, ⟨Kd.R_mono HO.out (fun _ _ => by simp [Value.ownBlock])⟩⟩
      case round =>
        clear HS HO
        rename_i w3
        obtain ⟨k, hk, rfl, HS, HO1, HO2⟩ := hrel
        by_cases hltk : k < n
        · go_wp2
          go_loopw [13, 48] (fun v13 v48 w4 => ∃ (j : Nat), j ≤ m ∧ v48 = .int .i64 j ∧ Aside0 (RdSt wb w.heap.size (wb.heap.size + 1) (x.drop (4 * posR n m i k j)) w4 u) ∧ Aside0 ((Kd.int .i32).R 21 w4 wb.heap.size (fun _ => True) v13 ((List.range j).map (numR x n m i k))) ∧ Aside0 ((Kd.slice 21 (Kd.int .i32)).R 39 w4 wb.heap.size (fun q => some q ≠ v13.ownBlock) u12 ((List.range k).map (rowR x n m i))) ∧ Aside0 ((Kd.slice 39 (Kd.slice 21 (Kd.int .i32))).R 22 w4 wb.heap.size (fun q => some q ≠ u12.ownBlock ∧ some q ≠ v13.ownBlock) u ((List.range i).map (partR x n m)))) (fun _ v _ => m - (intOf v).toNat)
          case atStart => exact ⟨0, Nat.zero_le _, rfl, HS, ⟨Kd.R_nil _ _ _ _ _⟩, ⟨Kd.R_mono HO1.out (fun _ _ => by simp [Value.ownBlock])⟩, ⟨Kd.R_mono HO2.out (fun _ hq => ⟨hq, by simp [Value.ownBlock]⟩)⟩⟩
          case round =>
            clear HS HO1 HO2
            obtain ⟨j, hj, rfl, HS, HO0, HO1, HO2⟩ := hrel
            by_cases hltj : j < m
            · obtain ⟨A', c', hrd, hCr, hcr⟩ := HS.out.rdr
              have h4 := HL4.out i k j hlt hltk hltj
              have HSg := Aside0.mk (Signed4_c wr wb A' _ c' HS.out.below ((blk_cell hrd 0).trans rfl) ((blk_cell hrd 1).trans rfl) (blk_frozen hrd 0) hCr h4 hcr (HBy.out _))
              have HN := Aside0.mk (show wrap32 (num4 (x.drop (4 * posR n m i k j))) = numR x n m i k j from rfl)
              have HSn := Aside0.mk (fun A2 (hC : Kd.C (Kd.int .u8) wb A2 ((x.drop (4 * posR n m i k j)).length - 4) ((x.drop (4 * posR n m i k j)).drop 4)) => HS.out.signed h4 hcr hC)
              have HR0 := Aside0.mk (fun u => R_rd HO0.out hrd (by decide) u)
              have HR1 := Aside0.mk (fun u => R_rd HO1.out hrd (by decide) u)
              have HR2 := Aside0.mk (fun u => R_rd HO2.out hrd (by decide) u)
              have hdr : (x.drop (4 * posR n m i k j)).drop 4 = x.drop (4 * posR n m i k (j + 1)) := by rw [List.drop_drop, posR_succ, Nat.mul_add]
              have HLj := Aside0.mk (show ((List.range j).map (numR x n m i k)).length = j by simp)
              have HSu := Aside0.mk (show (List.range (j + 1)).map (numR x n m i k) = (List.range j).map (numR x n m i k) ++ [numR x n m i k j] by simp [List.range_succ])
              rw [hdr] at HSn HSg
              clear hrd hCr hdr h4
              generalize (x.drop (4 * posR n m i k j)).length = ll at *
              generalize num4 (x.drop (4 * posR n m i k j)) = z at *
              go_wp2_with (first
                | (go_at_call 85; (((with_reducible refine HSg.out.mono ?_); rintro e w5 ⟨A2, rfl, hw5, hC2⟩; have hs5 := HSn.out A2 hC2.out; have hq0 := HR0.out (.slice A2 (ll - 4) (c' - 4)); have hq1 := HR1.out (.slice A2 (ll - 4) (c' - 4)); have hq2 := HR2.out (.slice A2 (ll - 4) (c' - 4)); rw [← hw5] at hs5 hq0 hq1 hq2; have HS5 := Aside0.mk hs5; have HB5 := Aside0.mk HS5.out.below; have HQ0 := Aside0.mk hq0; have HQ1 := Aside0.mk hq1; have HQ2 := Aside0.mk hq2; clear hC2 hw5 hs5 hq0 hq1 hq2)))
                | (at_builtin; ((refine Kd.R_append (Kd.int .i32) (w0 := wb) wb.heap.size rfl (.tmp 50) (.tmp 54) 39 21 (.int .i32 0) 4 rfl Try.underlying39 info_i32 rfl (by decide) (by omega) u13 ((List.range j).map (numR x n m i k)) (wrap32 z) [.int .i32 (wrap32 z)] (fun _ => True) (fun _ => False) rfl rfl rfl (fun _ hk => hk.elim) (fun _ _ => trivial) HQ0.out HB5.out HB5.out.size (by rw [HLj.out]; omega) ?_; intro v1 w6 ho hb hg hat; have HP0 := Aside0.mk ho; have HS6 := Aside0.mk (HS5.out.grown (v := u13) hb hg (by obtain ⟨_, _, hh, _⟩ := HS5.out.rdr; exact Kd.R_ne HQ0.out hh (by decide)) (Kd.R_ne HQ0.out HS5.out.var (by decide)) (Kd.R_ne HQ0.out HS5.out.res (by decide))); have HP1 := Aside0.mk (Kd.R_after (ok := fun _ => True) (Kd.R_mono HQ1.out (fun _ hk => ⟨trivial, hk⟩)) hg hat); have HP2 := Aside0.mk (Kd.R_after (ok := fun q => some q ≠ u12.ownBlock) HQ2.out hg hat); clear ho hb hg hat))))
              go_roundw
              case rel => exact ⟨j + 1, by omega, by go_num, HS6, ⟨by rw [HSu.out, ← HN.out]; exact HP0.out⟩, ⟨Kd.R_mono HP1.out (fun _ hk => hk.2)⟩, HP2⟩
              case measure => simp [intOf]; omega
            · obtain rfl : j = m := by omega
              have HSu := Aside0.mk (show (List.range (k + 1)).map (rowR x n j i) = (List.range k).map (rowR x n j i) ++ [(List.range j).map (numR x n j i k)] by simp [List.range_succ, rowR])
              have HLk := Aside0.mk (show ((List.range k).map (rowR x n j i)).length = k by simp)
              have HPs := Aside0.mk (posR_row n j i k)
              obtain ⟨A7, c7, rfl⟩ := Kd.R_slice HO0.out
              generalize (List.range j).map (numR x n j i k) = row at *
              go_wp2_with (at_builtin; ((refine Kd.R_append (Kd.slice 21 (Kd.int .i32)) (w0 := wb) wb.heap.size rfl (.tmp 57) (.tmp 59) 22 39 (.slice none 0 0) 24 rfl Try.underlying22 info_sl1 rfl (by decide) (by omega) u12 ((List.range k).map (rowR x n j i)) row [.slice A7 row.length c7] (fun _ => True) (fun q => True ∧ some q ≠ u12.ownBlock) rfl rfl (Kd.M_row (Kd.R_mono (Kd.R_apart' HO0.out (Kd.R_typed HO1.out) (by decide)) (fun _ hk => hk))) (fun _ hk => hk) (fun _ _ => trivial) (Kd.R_mono HO1.out (fun _ _ => trivial)) HS.out.below HS.out.below.size (by rw [HLk.out]; omega) ?_; intro v1 w6 ho hb hg hat; have HP1 := Aside0.mk ho; have HS6 := Aside0.mk (HS.out.grown (v := u12) hb hg (by obtain ⟨_, _, hh, _⟩ := HS.out.rdr; exact Kd.R_ne HO1.out hh (by decide)) (Kd.R_ne HO1.out HS.out.var (by decide)) (Kd.R_ne HO1.out HS.out.res (by decide))); have HP2 := Aside0.mk (Kd.R_after (ok := fun _ => True) (Kd.R_mono HO2.out (fun _ hk => ⟨trivial, hk.1⟩)) hg hat); clear ho hb hg hat)))
              go_roundw
              case rel => exact ⟨k + 1, by omega, by go_num, by rw [← HPs.out]; exact HS6, ⟨by rw [HSu.out]; exact HP1.out⟩, ⟨Kd.R_mono HP2.out (fun _ hk => hk.2)⟩⟩
              case measure => simp [intOf]; omega
        · obtain rfl : k = n := by omega
          have HSu := Aside0.mk (show (List.range (i + 1)).map (partR x k m) = (List.range i).map (partR x k m) ++ [(List.range k).map (rowR x k m i)] by simp [List.range_succ, partR])
          have HLi := Aside0.mk (show ((List.range i).map (partR x k m)).length = i by simp)
          have HPs := Aside0.mk (posR_part k m i)
          obtain ⟨A7, c7, rfl⟩ := Kd.R_slice HO1.out
          obtain ⟨A8, c8, rfl⟩ := Kd.R_slice HO2.out
          have hcz : wr.cell? ⟨wb.heap.size + 1, 0, none⟩ = some (.slice A8 ((List.range i).map (partR x k m)).length c8) := (blk_cell HS.out.var 0).trans rfl
          generalize (List.range k).map (rowR x k m i) = rows at *
          generalize (List.range i).map (partR x k m) = parts at *
          go_wp2_with (at_builtin; ((refine Kd.R_append (Kd.slice 39 (Kd.slice 21 (Kd.int .i32))) (w0 := wb) wb.heap.size rfl (.tmp 63) (.tmp 65) 51 22 (.slice none 0 0) 24 rfl Try.underlying51 info_sl2 rfl (by decide) (by omega) (.slice A8 parts.length c8) parts rows [.slice A7 rows.length c7] (fun _ => True) (fun q => True ∧ some q ≠ (Value.slice A8 parts.length c8).ownBlock) rfl rfl (Kd.M_row (Kd.R_mono (Kd.R_apart' HO1.out (Kd.R_typed HO2.out) (by decide)) (fun _ hk => hk))) (fun _ hk => hk) (fun _ _ => trivial) (Kd.R_mono HO2.out (fun _ _ => trivial)) HS.out.below HS.out.below.size (by rw [HLi.out]; omega) ?_; intro v1 w6 ho hb hg hat; obtain ⟨np, hnp⟩ : ∃ np, np = parts ++ [rows] := ⟨_, rfl⟩; rw [← hnp] at ho; have HNp := Aside0.mk hnp; clear hnp; obtain ⟨A9, c9, rfl⟩ := Kd.R_slice ho; have HP1 := Aside0.mk ho; have HS6 := Aside0.mk (HS.out.grown (v := .slice A8 parts.length c8) hb hg (by obtain ⟨_, _, hh, _⟩ := HS.out.rdr; exact Kd.R_ne HO2.out hh (by decide)) (Kd.R_ne HO2.out HS.out.var (by decide)) (Kd.R_ne HO2.out HS.out.res (by decide))); clear ho hb hg hat; have hcz6 : w6.cell? ⟨wb.heap.size + 1, 0, none⟩ = some (.slice A8 parts.length c8) := (blk_cell HS6.out.var 0).trans rfl; have hfz6 := blk_frozen HS6.out.var 0)))
          go_roundw
          case rel => exact ⟨i + 1, .slice A9 np.length c9, by omega, by go_num, by rw [← HPs.out]; exact ⟨HS6.out.put (by omega) (by have := HG0.out; omega) _⟩, ⟨by rw [HSu.out, ← HNp.out]; exact R_rd HP1.out HS6.out.var (by decide) _⟩⟩
          case measure => simp [intOf]; omega
    · obtain rfl : i = P := by omega
      obtain ⟨A8, c8, rfl⟩ := Kd.R_slice HO.out
      have HE := Aside0.mk (show readB x i n m = (List.range i).map (partR x n m) from rfl)
      obtain ⟨hn8, hc8, hC8⟩ := Kd.R_reads' HO.out
      have HCk2 := Aside0.mk (HCk.out A8 c8 _ wr hC8 hc8 rfl)
      have hcz : wr.cell? ⟨wb.heap.size + 1, 0, none⟩ = some (.slice A8 ((List.range i).map (partR x n m)).length c8) := (blk_cell HS.out.var 0).trans rfl
      have HBk := Aside0.mk (fun W (hW : Below wr.heap.size wr W) => And.intro (blk_below HS.out.var hW) (And.intro (blk_below HS.out.res hW) (Kd.R_below HO.out hW)))
      have HBw := Aside0.mk (below_then HB1w.out HB1w.out.size HS.out.below)
      have HSz := Aside0.mk HS.out.below.size
      clear hC8 hn8 hc8
      clear HCk
      generalize (List.range i).map (partR x n m) = parts at *
      by_cases h0 : bookE parts = 0
      · rw [h0] at HCk2
        have HIf := Aside0.mk (show parts = r1 ∧ (0 : Int) = r2 by have h := hres.out; rw [HE.out, if_pos h0] at h; exact Prod.mk.inj h)
        clear h0
        go_wp2_with (go_at_call 37; (((with_reducible refine HCk2.out.mono ?_); rintro e w7 ⟨rfl, hb⟩; obtain ⟨hv7, hr7, ho7⟩ := HBk.out _ hb; have HV7 := Aside0.mk hv7; have HR7 := Aside0.mk hr7; have HO7 := Aside0.mk ho7; have HB7 := Aside0.mk (below_then HBw.out HBw.out.size hb); have hcz7 : w7.cell? ⟨wb.heap.size + 1, 0, none⟩ = some (.slice A8 parts.length c8) := (blk_cell HV7.out 0).trans rfl; have hcr7 : w7.cell? ⟨w.heap.size, 0, none⟩ = some (.slice none 0 0) := (blk_cell HR7.out 0).trans rfl; have hfr7 := blk_frozen HR7.out 0; clear hb hv7 hr7 ho7)))
        refine bodyPost_ret (results_ct rfl _ _ w.heap.size 53 #[.slice A8 parts.length c8] (0, 0) _ rfl (blk_put (cs := #[.slice none 0 0]) HR7.out 0 _ rfl) Try.underlying53 rfl (by kernel_rfl)) rfl ?_
        refine ⟨_, by rw [← HIf.out.2]; rfl, ?_, HB7.out.setCell (Nat.le_refl _) _⟩
        rw [← HIf.out.1]
        exact Kd.R_lower (R_rd HO7.out HR7.out (by decide) _) (Nat.le_of_lt HG0.out)
      · have hd : (bookE parts != 0) = true := by simpa using h0
        have HIf := Aside0.mk (show ([] : List (List (List Int))) = r1 ∧ (4 : Int) = r2 by have h := hres.out; rw [HE.out, if_neg h0] at h; exact Prod.mk.inj h)
        clear h0
        go_wp2_with (go_at_call 37; (((with_reducible refine HCk2.out.mono ?_); rintro e w7 ⟨rfl, hb⟩; obtain ⟨hv7, hr7, ho7⟩ := HBk.out _ hb; have HR7 := Aside0.mk hr7; have HB7 := Aside0.mk (below_then HBw.out HBw.out.size hb); have hcr7 : w7.cell? ⟨w.heap.size, 0, none⟩ = some (.slice none 0 0) := (blk_cell HR7.out 0).trans rfl; have hfr7 := blk_frozen HR7.out 0; clear hb hv7 hr7 ho7)))
        refine bodyPost_ret (results_ct rfl _ _ w.heap.size 53 #[.slice none 0 0] (0, 0) _ rfl (blk_put (cs := #[.slice none 0 0]) HR7.out 0 _ rfl) Try.underlying53 rfl (by kernel_rfl)) rfl ?_
        refine ⟨_, by rw [← HIf.out.2]; rfl, ?_, HB7.out.setCell (Nat.le_refl _) _⟩
        rw [← HIf.out.1]
        exact Kd.R_nil _ _ _ _ _
set_option maxRecDepth 100000 in
theorem Read_arg (A0 : Option Addr) (c0 : Nat) (x : List Int) (dim parts words : Int) (w : World) (h : partE dim parts ≠ 0 ∨ words < 1 ∨ words > 256) :
    Calls Try.prog 39 #[.slice A0 x.length c0, .int .i64 dim, .int .i64 parts, .int .i64 words] w fun e w' => ∃ v, e = .returned (.tuple #[.agg #[v], .int .i64 2]) ∧
      (Kd.slice 39 (Kd.slice 21 (Kd.int .i32))).R 22 w' w.heap.size (fun _ => True) v [] ∧ Below w.heap.size w w' := by
  have HChk := Aside0.mk (fun W => PCheck_calls dim parts W)
  have HB0 := Aside0.mk ((Below.refl w.heap.size w).alloc (Nat.le_refl _) (.cells #[.slice none 0 0] 53))
  by_cases h0 : partE dim parts ≠ 0
  · have hd : (partE dim parts != 0) = true := by simpa using h0
    clear h h0
    generalize partE dim parts = q at *
    go_enter Try.func39, Try.ntmps39
    go_wp2_with (go_at_call 83; ((with_reducible refine (HChk.out _).mono ?_); rintro e w1 ⟨rfl, rfl⟩))
    refine bodyPost_ret (results_ct rfl _ _ w.heap.size 53 #[.slice none 0 0] (0, 0) _ rfl (blk_new w _) Try.underlying53 rfl (by kernel_rfl)) rfl ?_
    exact ⟨_, rfl, Kd.R_nil _ _ _ _ _, HB0.out⟩
  have h0 : partE dim parts = 0 := by omega
  rw [h0] at HChk
  by_cases h1 : words < 1
  · have hd1 : decide (words < 1) = true := decide_eq_true h1
    clear h h0 h1
    go_enter Try.func39, Try.ntmps39
    go_wp2_with (go_at_call 83; ((with_reducible refine (HChk.out _).mono ?_); rintro e w1 ⟨rfl, rfl⟩))
    refine bodyPost_ret (results_ct rfl _ _ w.heap.size 53 #[.slice none 0 0] (0, 0) _ rfl (blk_new w _) Try.underlying53 rfl (by kernel_rfl)) rfl ?_
    exact ⟨_, rfl, Kd.R_nil _ _ _ _ _, HB0.out⟩
  · have hd1 : decide (words < 1) = false := decide_eq_false h1
    have hd2 : decide (words > 256) = true := decide_eq_true (by omega)
    clear h h0 h1
    go_enter Try.func39, Try.ntmps39
    go_wp2_with (go_at_call 83; ((with_reducible refine (HChk.out _).mono ?_); rintro e w1 ⟨rfl, rfl⟩))
    refine bodyPost_ret (results_ct rfl _ _ w.heap.size 53 #[.slice none 0 0] (0, 0) _ rfl (blk_new w _) Try.underlying53 rfl (by kernel_rfl)) rfl ?_
    exact ⟨_, rfl, Kd.R_nil _ _ _ _ _, HB0.out⟩
set_option maxRecDepth 100000 in
theorem Read_long (A0 : Option Addr) (c0 : Nat) (x : List Int) (dim parts words : Int) (w : World) (h0 : partE dim parts = 0) (h1 : 1 ≤ words) (h2 : words ≤ 256) (hl : (x.length : Int) ≠ 4 * dim * words) :
    Calls Try.prog 39 #[.slice A0 x.length c0, .int .i64 dim, .int .i64 parts, .int .i64 words] w fun e w' => ∃ v, e = .returned (.tuple #[.agg #[v], .int .i64 4]) ∧
      (Kd.slice 39 (Kd.slice 21 (Kd.int .i32))).R 22 w' w.heap.size (fun _ => True) v [] ∧ Below w.heap.size w w' := by
    have HChk := Aside0.mk (fun W => PCheck_calls dim parts W)
    rw [h0] at HChk
    have hdm : 1 ≤ dim ∧ dim ≤ 1024 := by unfold partE at h0; split at h0 <;> omega
    have HB0 := Aside0.mk ((Below.refl w.heap.size w).alloc (Nat.le_refl _) (.cells #[.slice none 0 0] 53))
    have hq1 := Int.mul_le_mul (show 4 * dim ≤ 4096 by omega) h2 (by omega) (by omega)
    have hq0 := Int.mul_nonneg (show 0 ≤ 4 * dim by omega) (show 0 ≤ words by omega)
    have hw1 : IntKind.i64.wrap (4 * dim) = 4 * dim := by rw [IntKind.wrap_i64]; omega
    have hw2 : IntKind.i64.wrap (4 * dim * words) = 4 * dim * words := by rw [IntKind.wrap_i64]; generalize 4 * dim * words = q at *; omega
    have hw3 : wrap64 (4 * dim) = 4 * dim := by unfold wrap64; omega
    have hw4 : wrap64 (4 * dim * words) = 4 * dim * words := by unfold wrap64; generalize 4 * dim * words = q at *; omega
    have hd1 : decide (words < 1) = false := decide_eq_false (by omega)
    have hd2 : decide (words > 256) = false := decide_eq_false (by omega)
    have hd3 : ((x.length : Int) != 4 * dim * words) = true := by simpa using hl
    clear hl hq1 hq0 h0
    go_enter Try.func39, Try.ntmps39
    go_wp2_with (go_at_call 83; ((with_reducible refine (HChk.out _).mono ?_); rintro e w1 ⟨rfl, rfl⟩))
    refine bodyPost_ret (results_ct rfl _ _ w.heap.size 53 #[.slice none 0 0] (0, 0) _ rfl (blk_new w _) Try.underlying53 rfl (by kernel_rfl)) rfl ?_
    exact ⟨_, rfl, Kd.R_nil _ _ _ _ _, HB0.out⟩
def readF (x : List Int) (dim parts words : Int) : List (List (List Int)) × Int :=
  if partE dim parts ≠ 0 ∨ words < 1 ∨ words > 256 then ([], 2) else if (x.length : Int) ≠ 4 * dim * words then ([], 4) else
  if bookE (readB x parts.toNat words.toNat (dim / parts).toNat) = 0 then (readB x parts.toNat words.toNat (dim / parts).toNat, 0) else ([], 4)
theorem Read_c (A0 : Option Addr) (c0 : Nat) (x : List Int) (dim parts words : Int) (w : World) (hr : Kd.C (Kd.int .u8) w A0 x.length x) (hby : ∀ t ∈ x, isByte t) (r1 : List (List (List Int))) (r2 : Int) (hres : readF x dim parts words = (r1, r2)) :
    Calls Try.prog 39 #[.slice A0 x.length c0, .int .i64 dim, .int .i64 parts, .int .i64 words] w fun e w' => ∃ v, e = .returned (.tuple #[.agg #[v], .int .i64 r2]) ∧
      (Kd.slice 39 (Kd.slice 21 (Kd.int .i32))).R 22 w' w.heap.size (fun _ => True) v r1 ∧ Below w.heap.size w w' := by
  unfold readF at hres
  by_cases h1 : partE dim parts ≠ 0 ∨ words < 1 ∨ words > 256
  · rw [if_pos h1] at hres
    cases hres
    exact Read_arg A0 c0 x dim parts words w h1
  rw [if_neg h1] at hres
  by_cases h2 : (x.length : Int) ≠ 4 * dim * words
  · rw [if_pos h2] at hres
    cases hres
    exact Read_long A0 c0 x dim parts words w (by omega) (by omega) (by omega) h2
  rw [if_neg h2] at hres
  have h0 : partE dim parts = 0 := by omega
  have hdm : 1 ≤ dim ∧ dim ≤ 1024 ∧ 1 ≤ parts ∧ dim % parts = 0 := by unfold partE at h0; split at h0 <;> omega
  obtain ⟨d1, d2, d3, d4⟩ := hdm
  obtain ⟨D, rfl⟩ : ∃ D : Nat, dim = D := ⟨dim.toNat, by omega⟩
  obtain ⟨P, rfl⟩ : ∃ P : Nat, parts = P := ⟨parts.toNat, by omega⟩
  obtain ⟨n, rfl⟩ : ∃ n : Nat, words = n := ⟨words.toNat, by omega⟩
  have e1 : ((D : Int) / (P : Int)).toNat = D / P := rfl
  have e2 : ((P : Nat) : Int).toNat = P := rfl
  have e3 : ((n : Nat) : Int).toNat = n := rfl
  rw [e1, e2, e3] at hres
  have hdv : D % P = 0 := by have : ((D : Int) % (P : Int)) = ((D % P : Nat) : Int) := rfl; omega
  have hD : D / P * P = D := Nat.div_mul_cancel (Nat.dvd_of_mod_eq_zero hdv)
  have hm1 : 1 ≤ D / P := by
    rcases Nat.eq_zero_or_pos (D / P) with h | h
    · rw [h] at hD; omega
    · exact h
  refine Read_main A0 c0 x P n (D / P) D hD w hr (by omega) hm1 (by omega) (by omega) (by omega) ?_ hby r1 r2 ⟨hres⟩
  have : (x.length : Int) = ((4 * D * n : Nat) : Int) := by simpa using h2
  omega
end Go.Proofs.Yteickelddnhdiaa.G
namespace Go.Proofs.Yteickelddnhdiaa.Bk
open Go.RowKit Go.Proofs.YteickelddnhdiaaW.PrintWords Go.Proofs.Yteickelddnhdiaa.G
set_option linter.unusedVariables false
instance (x : Int) : Decidable (isByte x) := by unfold isByte; infer_instance
def book_Read.f (l0 : List Int) (a1 a2 a3 : Int) : Option (List (List (List Int)) × Int) := if ∀ t ∈ l0, isByte t then some (readF l0 a1 a2 a3) else none
theorem book_Read.calls (A0 : Option Addr) (c0 : Nat) (l0 : List Int) (a1 : Int) (a2 : Int) (a3 : Int) (r1 : List (List (List Int))) (r2 : Int) (w : World) (hr0 : Kd.C (Kd.int .u8) w A0 l0.length l0) (hc0 : l0.length ≤ c0) (h : book_Read.f l0 a1 a2 a3 = some (r1, r2)) :
    Calls Try.prog 39 #[.slice A0 l0.length c0, .int .i64 a1, .int .i64 a2, .int .i64 a3] w fun e w' => ∃ v0_ : Value, e = .returned (.tuple #[.agg #[v0_], .int .i64 r2]) ∧ Kd.R (Kd.slice 39 (Kd.slice 21 (Kd.int .i32))) 22 w' w.heap.size (fun _ => True) v0_ r1 ∧ Below w.heap.size w w' := by
  unfold book_Read.f at h
  split at h
  · next hb => exact Read_c A0 c0 l0 a1 a2 a3 w hr0 hb r1 r2 (Option.some.inj h)
  · cases h
end Go.Proofs.Yteickelddnhdiaa.Bk
