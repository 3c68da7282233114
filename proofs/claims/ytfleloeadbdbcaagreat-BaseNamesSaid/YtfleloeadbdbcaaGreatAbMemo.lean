/- A closed function's result, known once and for all: sum.table. -/
import Derived.Test.YtfleloeadbdbcaaGreatRows
import Derived.Test.YtfleloeadbdbcaaGreatAbW
import Derived.WalkKit
import Derived.ProofKit
namespace Go.Proofs.YtfleloeadbdbcaaGreat.M
open Go.RowKit
theorem names : Tryz.prog.funcs.toList.all (fun fn => !fn.body.isSome || !(fn.name == "runtime.NumGoroutine")) = true := by decide +kernel
theorem namesOK : Ab.NamesOK Tryz.prog := fun f fn hf hb => by
  have := List.all_eq_true.1 names fn (by rw [Array.mem_toList_iff]; exact Array.mem_of_getElem? hf)
  simpa [hb] using this
def words : List Nat := [0, 4067132163, 3778769143, 324072436, 3348797215, 904991772, 648144872, 3570033899, 2329499855, 2024987596, 1809983544, 2575936315, 1296289744, 3207089363, 2893594407, 1578318884, 274646895, 3795141740, 4049975192, 51262619, 3619967088, 632279923, 922689671, 3298075524, 2592579488, 1760304291, 2075979607, 2312596564, 1562183871, 2943781820, 3156637768, 1313733451, 549293790, 3537243613, 3246849577, 871202090, 3878099393, 357341890, 102525238, 4101499445, 2858735121, 1477399826, 1264559846, 3107202533, 1845379342, 2677391885, 2361733625, 2125378298, 820201905, 3263744690, 3520608582, 598981189, 4151959214, 85089709, 373468761, 3827903834, 3124367742, 1213305469, 1526817161, 2842354314, 2107672161, 2412447074, 2627466902, 1861252501, 1098587580, 3004210879, 2688576843, 1378610760, 2262928035, 1955203488, 1742404180, 2511436119, 3416409459, 969524848, 714683780, 3639785095, 205050476, 4266873199, 3976438427, 526918040, 1361435347, 2739821008, 2954799652, 1114974503, 2529119692, 1691668175, 2005155131, 2247081528, 3690758684, 697762079, 986182379, 3366744552, 476452099, 3993867776, 4250756596, 255256311, 1640403810, 2477592673, 2164122517, 1922457750, 2791048317, 1412925310, 1197962378, 3037525897, 3944729517, 427051182, 170179418, 4165941337, 746937522, 3740196785, 3451792453, 1070968646, 1905808397, 2213795598, 2426610938, 1657317369, 3053634322, 1147748369, 1463399397, 2773627110, 4215344322, 153784257, 444234805, 3893493558, 1021025245, 3467647198, 3722505002, 797665321, 2197175160, 1889384571, 1674398607, 2443626636, 1164749927, 3070701412, 2757221520, 1446797203, 137323447, 4198817972, 3910406976, 461344835, 3484808360, 1037989803, 781091935, 3705997148, 2460548119, 1623424788, 1939049696, 2180517859, 1429367560, 2807687179, 3020495871, 1180866812, 410100952, 3927582683, 4182430767, 186734380, 3756733383, 763408580, 1053836080, 3434856499, 2722870694, 1344288421, 1131464017, 2971354706, 1708204729, 2545590714, 2229949006, 1988219213, 680717673, 3673779818, 3383336350, 1002577565, 4010310262, 493091189, 238226049, 4233660802, 2987750089, 1082061258, 1395524158, 2705686845, 1972364758, 2279892693, 2494862625, 1725896226, 952904198, 3399985413, 3656866545, 731699698, 4283874585, 222117402, 510512622, 3959836397, 3280807620, 837199303, 582374963, 3504198960, 68661723, 4135334616, 3844915500, 390545967, 1230274059, 3141532936, 2825850620, 1510247935, 2395924756, 2091215383, 1878366691, 2644384480, 3553878443, 565732008, 854102364, 3229815391, 340358836, 3861050807, 4117890627, 119113024, 1493875044, 2875275879, 3090270611, 1247431312, 2660249211, 1828433272, 2141937292, 2378227087, 3811616794, 291187481, 34330861, 4032846830, 615137029, 3603020806, 3314634738, 939183345, 1776939221, 2609017814, 2295496738, 2058945313, 2926798794, 1545135305, 1330124605, 3173225534, 4084100981, 17165430, 307568514, 3762199681, 888469610, 3332340585, 3587147933, 665062302, 2042050490, 2346497209, 2559330125, 1793573966, 3190661285, 1279665062, 1595330642, 2910671697]
def val (l : List Nat) : List Value := l.map fun n => .int .u32 (.ofNat n)
def u32Of (v : Value) : Option Nat := match v with
  | .int .u32 (.ofNat a) => some a
  | _ => none
theorem u32Of_some {v : Value} {a : Nat} (h : u32Of v = some a) : v = .int .u32 (.ofNat a) := by
  unfold u32Of at h
  split at h
  · injection h with h; subst h; rfl
  · cases h
def eqs : List Value → List Nat → Bool
  | [], [] => true
  | v :: vs, n :: ns => (match u32Of v with
    | some a => bif Nat.beq a n then eqs vs ns else false
    | none => false)
  | _, _ => false
theorem eqs_val : ∀ {vs : List Value} {ns : List Nat}, eqs vs ns = true → vs = val ns
  | [], [], _ => rfl
  | v :: vs, [], h => by simp [eqs] at h
  | [], n :: ns, h => by simp [eqs] at h
  | v :: vs, n :: ns, h => by
    simp only [eqs] at h
    cases hv : u32Of v with
    | none => rw [hv] at h; cases h
    | some a =>
      rw [hv] at h
      simp only at h
      cases hb : Nat.beq a n with
      | false => rw [hb] at h; cases h
      | true =>
        rw [hb] at h
        rw [u32Of_some hv, eqs_val h, Nat.eq_of_beq_eq_true hb]
        rfl
def isTab (ns : List Nat) (r : Ab.R Value) : Bool := match r with
  | .ok (.agg a) _ _ _ => eqs a.toList ns
  | _ => false
theorem isTab_ok {ns : List Nat} {r : Ab.R Value} (h : isTab ns r = true) : ∃ c h' lg, r = .ok (.agg ⟨val ns⟩) c h' lg := by
  unfold isTab at h
  split at h
  · next a c h' lg => exact ⟨c, h', lg, by rw [← eqs_val h]⟩
  · cases h
theorem calls_of {P : Program} (hM : P.follows .mixedOrders = true) (hN : Ab.NamesOK P) {f : Nat} {ns : List Nat} {k c : Nat} (h : isTab ns (Ab.run (Ab.callN P Ab.noExt k (.fn f) []) c .leaf []) = true) (hv : Ab.flat (.agg ⟨val ns⟩) = true) (w : World) :
    Calls P f #[] w fun e w' => e = .returned (.agg ⟨val ns⟩) ∧ Below w.heap.size w w' := by
  obtain ⟨c, h', lg, hr⟩ := isTab_ok h
  exact Ab.run_calls hM hN Ab.memoNil hr hv rfl w
theorem memo1 {P : Program} {f : Nat} {v : Value} (hv : Ab.flat v = true) (hf : ∃ fn c, P.funcs[f]? = some fn ∧ fn.body = some c) (hc : ∀ w, Calls P f #[] w fun e w' => e = .returned v ∧ Below w.heap.size w w') : Ab.MemoOK P [(f, v)] := fun g u hg => by
  have hg : Ab.bite (Nat.beq f g) (some v) none = some u := hg
  cases hb : Nat.beq f g with
  | false => rw [hb] at hg; cases hg
  | true =>
    rw [hb] at hg
    have hvu : v = u := Option.some.inj hg
    have hfg := Nat.eq_of_beq_eq_true hb
    rw [← hvu, ← hfg]
    exact ⟨hv, hf, hc⟩
set_option maxRecDepth 100000 in
theorem runs : isTab words (Ab.run (Ab.callN Tryz.prog Ab.noExt 1000 (.fn 177) []) 1000 .leaf []) = true := by decide +kernel
theorem flatV : Ab.flat (.agg ⟨val words⟩) = true := by kernel_rfl
def tab : List (Nat × Value) := [(177, .agg ⟨val words⟩)]
noncomputable def memo : Ab.Ext := Ab.memoE tab
theorem tabOK : Ab.MemoOK Tryz.prog tab := memo1 flatV ⟨_, _, Tryz.func177, rfl⟩ (calls_of (by kernel_rfl) namesOK runs flatV)
theorem memoOK : Ab.ExtOK Tryz.prog memo := Ab.memoE_ok tabOK
end Go.Proofs.YtfleloeadbdbcaaGreat.M
