/- Contracts for part.Column: its two closures, part.mapped. -/
import Derived.Test.YtpcacklmelokiaaPartC
import Derived.Test.YtpcacklmelokiaaRowsA
namespace Go.Proofs.Ytpcacklmelokiaa.G
open Go.RowKit Go.Shelf Go.Proofs.YtpcacklmelokiaaW.PrintWords
set_option linter.unusedVariables false
set_option linter.unusedSimpArgs false

theorem Column1_c (A : Option Addr) (n c B m : Nat) (b : Bool) (hne : ((n : Int) != (m : Int)) = b) (W : World) (hb : W.cell? ⟨B, 0, none⟩ = some (.int .i64 m)) :
    Calls Try.prog 43 #[.slice A n c, .pointer (some ⟨B, 0, none⟩)] W fun e W' => e = .returned (.bool b) ∧ W = W' := by
  go_enter Try.func43, Try.ntmps43
  go_wp2
  go_ret
  exact ⟨rfl, rfl⟩
set_option maxRecDepth 100000 in
theorem Column2_c (A : Option Addr) (c B1 B2 n wd len : Nat) (row : List Int) (W : World) (hn : W.cell? ⟨B1, 0, none⟩ = some (.int .i64 n)) (hw : W.cell? ⟨B2, 0, none⟩ = some (.int .i64 wd)) (hin : n * wd + wd ≤ len) (hlen : len ≤ 1024) (hwd : 1 ≤ wd) (hc : len ≤ c) (hr : Kd.C (Kd.int .i32) W A len row) :
    Calls Try.prog 45 #[.slice A len c, .pointer (some ⟨B1, 0, none⟩), .pointer (some ⟨B2, 0, none⟩)] W fun e W' => ∃ v, e = .returned v ∧ (Kd.int .i32).R 21 W' W.heap.size (fun _ => True) v (pieceL row wd n) ∧ Below W.heap.size W W' := by
  have hl : row.length = len := hr.1
  subst hl
  obtain ⟨lo, hlo⟩ : ∃ lo, n * wd = lo := ⟨_, rfl⟩
  have hn1 : n ≤ 1024 := by have := Nat.le_mul_of_pos_right n hwd; omega
  have hhi : (n + 1) * wd = lo + wd := by rw [Nat.add_mul, Nat.one_mul, hlo]
  have hm1 : wrap64 ((n : Int) * (wd : Int)) = (lo : Int) := by rw [← Int.natCast_mul, hlo]; unfold wrap64; omega
  have hm2 : wrap64 (((n : Int) + 1) * (wd : Int)) = ((lo + wd : Nat) : Int) := by
    rw [show ((n : Int) + 1) * (wd : Int) = (((n + 1) * wd : Nat) : Int) by simp, hhi]
    unfold wrap64
    omega
  rw [hlo] at hin
  obtain ⟨ad, rfl, _⟩ := C_ints hr 0 (by omega)
  have hp : Kd.C (Kd.int .i32) W (some (ad.add lo)) wd (pieceL row wd n) := by
    have h := C_piece hr lo wd hin
    rw [← hlo] at h
    rw [← hlo]
    exact h
  have hpl : (pieceL row wd n).length = wd := hp.1
  have HCl := Aside0.mk (Clone_row (ad.add lo) (c - lo) wd (pieceL row wd n) W hp (by omega))
  have hsub : lo + wd - lo = wd := by omega
  clear hp hr hlo hhi
  generalize pieceL row wd n = p at *
  go_enter Try.func45, Try.ntmps45
  go_wp2_with (go_at_call 46; ((with_reducible refine HCl.out.mono ?_); rintro e w2 ⟨v, rfl, ho, hb⟩; have HO := Aside0.mk ho; have HB2 := Aside0.mk hb; clear ho hb))
  go_ret
  exact ⟨_, rfl, R_nums HO.out rfl, HB2.out⟩

/-- The elements of a row, and what a function value makes of each. -/
def ElemMap (A0 : Option Addr) (n : Nat) (g : Nat) (lb : Array Value) (f : Nat → List Int) (w : World) : Prop :=
  ∀ j, j < n → ∃ ad v, A0 = some ad ∧ w.cell? (ad.add j) = some v ∧ ∀ W, Below w.heap.size w W → Calls Try.prog g (#[v] ++ lb) W fun e W' => ∃ r, e = .returned r ∧ (Kd.int .i32).R 21 W' W.heap.size (fun _ => True) r (f j) ∧ Below W.heap.size W W'
set_option maxRecDepth 100000 in
theorem mapped_rows (A0 : Option Addr) (n c0 : Nat) (g : Nat) (lb : Array Value) (f : Nat → List Int) (w : World) (eg : Enters Try.prog g)
    (hn : n ≤ 5864062014805) (hp : ElemMap A0 n g lb f w) :
    Calls Try.prog 44 #[.slice A0 n c0, .func (.func g) #[] lb] w fun e w' => ∃ v, e = .returned v ∧ (Kd.slice 21 (Kd.int .i32)).R 25 w' w.heap.size (fun _ => True) v ((List.range n).map f) ∧ Below w.heap.size w w' := by
  have HP := Aside0.mk hp
  clear hp
  unfold Enters at eg
  have hinfo : (Try.prog.info? 25).map (fun i => (i.zero, i.size, i.bytes)) = some (some (.slice none 0 0), 1, 24) := by kernel_rfl
  go_enter Try.func44, Try.ntmps44
  go_wp2
  go_loopw [4, 9] (fun u v wr => ∃ k : Nat, k ≤ n ∧ v = .int .i64 k ∧ Aside0 ((Kd.slice 21 (Kd.int .i32)).R 25 wr w.heap.size (fun _ => True) u ((List.range k).map f)) ∧ Aside0 (Below w.heap.size w wr)) (fun _ v _ => n - (intOf v).toNat)
  case atStart => exact ⟨0, Nat.zero_le _, rfl, ⟨Kd.R_nil _ _ _ _ _⟩, ⟨Below.refl _ _⟩⟩
  case round =>
    obtain ⟨k, hk, rfl, HO, HB⟩ := hrel
    by_cases hlt : k < n
    · obtain ⟨ad, v, rfl, hx, hcall⟩ := HP.out k hlt
      have hcall := hcall wr HB.out
      have hx := pw_cell_below HB.out hx
      have HLen := Aside0.mk (show (((List.range k).map f).length + 1) * 24 ≤ 140737488355328 by rw [List.length_map, List.length_range]; omega)
      have HSz := Aside0.mk HB.out.size
      go_wp2_with (first
        | (go_at_fn g; refine hcall.mono ?_; rintro e w' ⟨r, rfl, hr, hb'⟩; obtain ⟨A1, k1, rfl⟩ := Kd.R_slice hr; have HB' := Aside0.mk (below_then HB.out HSz.out hb'); have HO' := Aside0.mk (Kd.R_below HO.out hb'); have HR' := Aside0.mk (Kd.R_lower hr HSz.out); clear hr hb')
        | (at_builtin; refine Kd.R_append (Kd.slice 21 (Kd.int .i32)) (w0 := w) w.heap.size rfl (.tmp 13) (.tmp 17) 22 25 (.slice none 0 0) 24 rfl Try.underlying22 hinfo rfl (by decide) (by decide) _ ((List.range k).map f) (f k) [.slice A1 (f k).length k1] (fun _ => True) (fun k_ => (fun _ => True) k_ ∧ some k_ ≠ Value.ownBlock _) rfl rfl ?aP (fun _ hk => hk) (fun _ _ => trivial) HO'.out HB'.out HB'.out.size HLen.out ?_; (case aP => exact Kd.M_row (Kd.R_mono (Kd.R_apart' HR'.out (Kd.R_typed HO'.out) (by decide)) (fun k_ hk => ⟨trivial, hk.2⟩))); intro v1 w3 ho hb hg hat; have HO3 := Aside0.mk ho; have HB3 := Aside0.mk hb; clear ho hb hg hat))
      go_roundw
      case rel => exact ⟨k + 1, by omega, by go_num, ⟨by have h := HO3.out; rw [← List.map_singleton (f := f), ← List.map_append, ← List.range_succ] at h; exact h⟩, HB3⟩
      case measure => simp [intOf]; omega
    · obtain rfl : k = n := by omega
      go_wp2
      go_ret
      exact ⟨_, rfl, HO.out, HB.out⟩

end Go.Proofs.Ytpcacklmelokiaa.G
