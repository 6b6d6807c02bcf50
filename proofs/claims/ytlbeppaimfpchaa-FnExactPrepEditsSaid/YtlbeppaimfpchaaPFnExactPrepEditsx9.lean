/- Printed by a program of this session (a patched copy of the kit's print): for each Go function one Lean function, and the proof that the call comes to just its answer. -/
import Derived.Test.YtlbeppaimfpchaaPFnExactPrepEditsx0
import Derived.Test.YtlbeppaimfpchaaPFnExactPrepEditsx6
import Derived.Test.YtlbeppaimfpchaaPFnExactPrepEditsx7
import Derived.Test.YtlbeppaimfpchaaPFnExactPrepEditsx8
namespace Go.Proofs.Ytlbeppaimfpchaa.PFnExactPrepEdits
open Go.RowKit Go.Proofs.YtlbeppaimfpchaaW.PrintWords Go.Proofs.YtlbeppaimfpchaaW.PrintLast Go.Proofs.YtlbeppaimfpchaaW.PrintMore
attribute [local go_sem] max2_int min2_int max_two min_two max_three min_three max_four min_four   -- for this text's walks alone
set_option linter.unusedVariables false
set_option linter.unusedSimpArgs false

/-! ### impl_PrepEdits: function 18 -/
def impl_PrepEdits.l0 : Nat → List (S117) → List (S113) → Int → Int → Int → Int → Int → List (S113) → Option ((List (S117)))
 | 0, _, _, _, _, _, _, _, _ => none
 | k + 1, x3, x12, x13, x14, x298000, x298001, x298002, x298003 => if x14 < x13 then (if 0 ≤ x14 then (if x14 < (x12.length : Int) then ((impl_TxText.f k x298000 x298001 x298002).bind fun t304 => (if 1 + t304.size ≤ 9223372036854775807 then (if ((⟨#[112]⟩ : ByteArray) ++ t304).size + 1 ≤ 9223372036854775807 then ((impl_NumText.f k x14).bind fun t305 => (if (((⟨#[112]⟩ : ByteArray) ++ t304) ++ (⟨#[46]⟩ : ByteArray)).size + t305.size ≤ 9223372036854775807 then ((impl_RecText.f k ((rd_T113 x12 x14).f0) ((rd_T113 x12 x14).f1) ((rd_T113 x12 x14).f2) ((rd_T113 x12 x14).f3.f0) ((rd_T113 x12 x14).f3.f1)).bind fun t306 => (if x3.length < 3518437208883 then (impl_PrepEdits.l0 k (x3 ++ [(⟨(((⟨#[112]⟩ : ByteArray) ++ t304) ++ (⟨#[46]⟩ : ByteArray)) ++ t305, t306, false⟩ : S117)]) x12 x13 (wrap64 (x14 + 1)) x298000 x298001 x298002 x298003) else (none))) else (none))) else (none)) else (none))) else (none)) else (none)) else ((impl_NumText.f k x298000).bind fun t310 => (if 1 + t310.size ≤ 9223372036854775807 then ((impl_TxText.f k x298000 x298001 x298002).bind fun t311 => (if x3.length < 3518437208883 then (some (x3 ++ [(⟨(⟨#[104]⟩ : ByteArray) ++ t310, t311, false⟩ : S117)])) else (none))) else (none)))
def impl_PrepEdits.f (k : Nat) (a0_0 : Int) (a0_1 : Int) (a0_2 : Int) (l0_3 : List (S113)) : Option ((List (S117))) := (some (([] : List (S117)) : List (S117))).bind fun y298 => ((impl_PrepOk.f a0_0 a0_1 a0_2 l0_3).bind fun t301 => (if t301 = true then (impl_PrepEdits.l0 k y298 l0_3 (l0_3.length : Int) 0 a0_0 a0_1 a0_2 l0_3) else (some y298)))
theorem impl_PrepEdits.mono_l : ∀ k, (∀ y0 y1 y2 y3 y4 y5 y6 y7, LeO (impl_PrepEdits.l0 k y0 y1 y2 y3 y4 y5 y6 y7) (impl_PrepEdits.l0 (k + 1) y0 y1 y2 y3 y4 y5 y6 y7))
 | 0 => fun _ _ _ _ _ _ _ _ r h => by simp [impl_PrepEdits.l0] at h
 | k + 1 => by
  have ih0 := impl_PrepEdits.mono_l k
  ·intro y0 y1 y2 y3 y4 y5 y6 y7
   unfold impl_PrepEdits.l0
   repeat' first
   | (with_reducible exact ih0 _ _ _ _ _ _ _ _)
   | (with_reducible exact impl_NumText.mono _ _)
   | (with_reducible exact impl_RecText.mono _ _ _ _ _ _)
   | (with_reducible exact impl_TxText.mono _ _ _ _)
   | (with_reducible exact LeO.refl _)
   | (with_reducible exact LeO.none _)
   | (with_reducible refine LeO.ite ?_ ?_)
   | (with_reducible refine LeO.bind ?_ (fun _ => ?_))
   | exact ih0 _ _ _ _ _ _ _ _
   | exact impl_NumText.mono _ _
   | exact impl_RecText.mono _ _ _ _ _ _
   | exact impl_TxText.mono _ _ _ _
   | exact LeO.none _
   | refine LeO.ite ?_ ?_
   | refine LeO.bind ?_ (fun _ => ?_)
theorem impl_PrepEdits.mono : ∀ a0 a1 a2 a3 k, LeO (impl_PrepEdits.f k a0 a1 a2 a3) (impl_PrepEdits.f (k + 1) a0 a1 a2 a3) := by
 intro a0 a1 a2 a3 k
 have ih0 := impl_PrepEdits.mono_l k
 unfold impl_PrepEdits.f
 repeat' first
   | (with_reducible exact ih0 _ _ _ _ _ _ _ _)
   | (with_reducible exact impl_NumText.mono _ _)
   | (with_reducible exact impl_RecText.mono _ _ _ _ _ _)
   | (with_reducible exact impl_TxText.mono _ _ _ _)
   | (with_reducible exact LeO.refl _)
   | (with_reducible exact LeO.none _)
   | (with_reducible refine LeO.ite ?_ ?_)
   | (with_reducible refine LeO.bind ?_ (fun _ => ?_))
   | exact ih0 _ _ _ _ _ _ _ _
   | exact impl_NumText.mono _ _
   | exact impl_RecText.mono _ _ _ _ _ _
   | exact impl_TxText.mono _ _ _ _
   | exact LeO.none _
   | refine LeO.ite ?_ ?_
   | refine LeO.bind ?_ (fun _ => ?_)
def impl_PrepEdits.T7 : Bool × List (List Nat × List Nat) := (true, [([], []), ([], []), ([1], [1]), ([2], [2]), ([3], [3]), ([4], [4]), ([], []), ([6, 3], [6]), ([5, 7], [5, 7]), ([], []), ([9, 7], [9]), ([8, 10], [8, 10]), ([11], [11]), ([0, 12, 10], [0, 12]), ([13, 13, 0, 1, 2, 3, 4, 5, 6, 7, 8, 9, 10, 11, 12, 13], [0, 13])])
def impl_PrepEdits.B7 : List Nat := [0, 0, 2, 6, 14, 30, 0, 78, 254, 0, 718, 2046, 4094, 8191, 16383]
theorem impl_PrepEdits.tab7 : rtab .any (opsOf Try.f18 7) = impl_PrepEdits.T7 := by kernel_rfl
theorem impl_PrepEdits.bits7 : waitsOk impl_PrepEdits.T7.2 impl_PrepEdits.B7 = true := by kernel_rfl
def impl_PrepEdits.T9 : Bool × List (List Nat × List Nat) := (true, [([], []), ([], []), ([1], [1]), ([2], [2]), ([3], [3]), ([4], [4]), ([], []), ([6], [6]), ([7, 4], [7]), ([5, 8], [5, 8]), ([9], [9]), ([0, 10, 8], [0, 10]), ([11, 11, 0, 1, 2, 3, 4, 5, 6, 7, 8, 9, 10, 11], [11])])
def impl_PrepEdits.B9 : List Nat := [0, 0, 2, 6, 14, 30, 0, 64, 222, 510, 1022, 2047, 4095]
theorem impl_PrepEdits.tab9 : rtab .any (opsOf Try.f18 9) = impl_PrepEdits.T9 := by kernel_rfl
theorem impl_PrepEdits.bits9 : waitsOk impl_PrepEdits.T9.2 impl_PrepEdits.B9 = true := by kernel_rfl
set_option maxHeartbeats 8000000 in
set_option maxRecDepth 100000 in
theorem impl_PrepEdits.calls (k : Nat) (a0_0 : Int) (a0_1 : Int) (a0_2 : Int) (A0_3 : Option Addr) (c0_3 : Nat) (l0_3 : List (S113)) (r : List (S117)) (w : World) (hr0_3 : Kd.C k113 w A0_3 l0_3.length l0_3) (hc0_3 : l0_3.length ≤ c0_3) (h : impl_PrepEdits.f k a0_0 a0_1 a0_2 l0_3 = some r) :
  Calls Try.prog 18 #[.agg #[.int .i64 a0_0, .int .i64 a0_1, .int .i64 a0_2, .slice A0_3 l0_3.length c0_3]] w fun e w' => ∃ v0_ : Value, e = .returned (v0_) ∧ Kd.R k117 117 w' w.heap.size (fun _ => True) v0_ r ∧ Below w.heap.size w w' := by
 have hu33 := Try.underlying33
 have hu113 := Try.underlying113
 have hu30 := Try.underlying30
 have hu117 := Try.underlying117
 have HR0_3 := AM hr0_3
 have HC0_3 := AM hc0_3
 clear hr0_3 hc0_3
 have HB := AM (Below.refl w.heap.size w)
 have H : ((some (([] : List (S117)) : List (S117))).bind fun y298 => ((impl_PrepOk.f a0_0 a0_1 a0_2 l0_3).bind fun t301 => (if t301 = true then (impl_PrepEdits.l0 k y298 l0_3 (l0_3.length : Int) 0 a0_0 a0_1 a0_2 l0_3) else (some y298)))) = some r := h
 clear h
 obtain ⟨y298, hy298⟩ : ∃ y_ : List (S117), y_ = (([] : List (S117))) := ⟨_, rfl⟩
 replace H : ((impl_PrepOk.f a0_0 a0_1 a0_2 l0_3).bind fun t301 => (if t301 = true then (impl_PrepEdits.l0 k y298 l0_3 (l0_3.length : Int) 0 a0_0 a0_1 a0_2 l0_3) else (some y298))) = some r := by first | (rw [hy298]; with_reducible exact H) | (have H2_ := (Option.bind_some _ _).symm.trans H; rw [hy298]; with_reducible exact H2_) | (have H2_ := (Option.bind_some _ _).symm.trans H; with_reducible exact H2_) | with_reducible exact H | (rw [hy298]; exact H) | exact H
 have Ny298 := AM hy298
 clear hy298
 replace H := Option.bind_eq_some_iff.mp H
 obtain ⟨t301, A20, H⟩ := H
 replace H : (if t301 = true then (impl_PrepEdits.l0 k y298 l0_3 (l0_3.length : Int) 0 a0_0 a0_1 a0_2 l0_3) else (some y298)) = some r := H
 have A2 := AM A20
 clear A20
 by_cases c3 : t301 = true
 ·subst c3
  have H1 : (impl_PrepEdits.l0 k y298 l0_3 (l0_3.length : Int) 0 a0_0 a0_1 a0_2 l0_3) = some r := by rw [if_pos rfl] at H; exact H
  clear H
  have H := H1
  clear H1
  have H' := AM H
  clear H
  go_enter Try.func18, Try.ntmps18
  go_wp2_with (first | ((with_reducible refine gate_dst (N := 1) rfl ?_); refine box_event ?hg (N := 1) ?hd (cs := #[.int .i64 a0_0, .int .i64 a0_1, .int .i64 a0_2, .slice A0_3 l0_3.length c0_3]) (t := 33) ?hr ?_; (case hd => rfl); (case hg => rfl); (case hr => first | (go_simp; done) | (go_simp; rfl)); intro gb297 hg w4 hbox hb; have n0_ := AM (bP (by repeat (first | (with_reducible first | exact HB.out | apply bA | apply bN | apply b1) | exact HB.out)) hb); have n1_ := AM (hbox); have n2_ := AM ((by rw [hg]; exact (below_size (by repeat (first | (with_reducible first | exact HB.out | apply bA | apply bN | apply b1) | exact HB.out))) : w.heap.size ≤ gb297)); have n3_ := AM ((by rw [hg]; exact (below_size (by repeat (first | (with_reducible first | exact HB.out | apply bA | apply bN | apply b1) | exact HB.out))) : w.heap.size ≤ gb297)); clear HB; have HB := n0_; have BK297 := n1_; have GW297 := n2_; have GE297 := n3_; clear n0_ n1_ n2_ n3_; clear hb hbox hg) | ((with_reducible refine gate_dst (N := 6) rfl ?_); refine Kd.R_lit k117 _ 117 ?hg (N := 6) ?hd (xs := ([] : List (S117))) (inner := []) (ok := fun _ => True) (okp := fun _ => True) ?hr ?hp (fun _ hk => hk) trivial (Below.refl _ _) (Nat.le_refl _) (by simp) ?_; (case hd => rfl); (case hg => rfl); (case hr => first | (go_simp; done) | (go_simp; rfl)); (case hp => exact (Reps.none _ _)); intro v299 w5 ho6 hb hg_ hnew_; clear hg_ hnew_; (first | rw [← Ny298.out] at ho6 | (simp only [Int.reduceToNat] at ho6; rw [← Ny298.out] at ho6)); have n0_ := AM (Kd.R_lower ho6 (below_size (by repeat (first | (with_reducible first | exact HB.out | apply bA | apply bN | apply b1 | refine bS ?_ GE297.out) | exact HB.out)))); have n1_ := AM (kB (g := gb297) (o := .cells #[.int .i64 a0_0, .int .i64 a0_1, .int .i64 a0_2, .slice A0_3 l0_3.length c0_3] 33 (0, 0)) (by (with_reducible repeat (first | refine kN ?_ _ | refine blk_drew ?_ | refine kA ?_ _)); exact BK297.out) hb); have n2_ := AM (bP (by repeat (first | (with_reducible first | exact HB.out | apply bA | apply bN | apply b1 | refine bS ?_ GE297.out) | exact HB.out)) hb); clear BK297; clear HB; have HO300 := n0_; have BK297 := n1_; have HB := n2_; clear n0_ n1_ n2_; clear hb ho6; have hcz7_0 : w5.cell? ⟨gb297, 0, none⟩ = some (.int .i64 a0_0) := (kC BK297.out 0).trans rfl; have hcz7_1 : w5.cell? ⟨gb297, 1, none⟩ = some (.int .i64 a0_1) := (kC BK297.out 1).trans rfl; have hcz7_2 : w5.cell? ⟨gb297, 2, none⟩ = some (.int .i64 a0_2) := (kC BK297.out 2).trans rfl; have hcz7_3 : w5.cell? ⟨gb297, 3, none⟩ = some (.slice A0_3 l0_3.length c0_3) := (kC BK297.out 3).trans rfl; have hfz7_0 := kF BK297.out 0; have hfz7_1 := kF BK297.out 1; have hfz7_2 := kF BK297.out 2; have hfz7_3 := kF BK297.out 3) | ((with_reducible refine gate_callee (f := 82) rfl ?_); refine goesL_ (some 8) rfl rfl Try.func82 (by kernel_rfl) rfl #[.agg #[.int .i64 a0_0, .int .i64 a0_1, .int .i64 a0_2, .slice A0_3 l0_3.length c0_3]] rfl (by (try simp only [mA, mC, mN]); first | done | rfl | (simp only [List.length_drop, List.length_take]; rfl)) ?_; (with_reducible refine (impl_PrepOk.calls a0_0 a0_1 a0_2 _ _ l0_3 true _ ?side1 ?side2 A2.out).mono ?_); (case side1 => repeat (first | exact (Kd.C_below HR0_3.out HB.out) | (with_reducible refine Kd.C_alloc ?_ _) | (with_reducible refine Kd.C_drewN ?_ _) | (with_reducible refine Kd.C_drew ?_))); (case side2 => exact HC0_3.out); rintro e w8 ⟨rfl, hb⟩; refine ⟨_, rfl, ?_⟩; have n0_ := AM (Kd.R_below (by (with_reducible repeat (first | apply Kd.R_alloc | apply Kd.R_drewN | apply Kd.R_drew)); exact HO300.out) hb); have n1_ := AM (kB (g := gb297) (o := .cells #[.int .i64 a0_0, .int .i64 a0_1, .int .i64 a0_2, .slice A0_3 l0_3.length c0_3] 33 (0, 0)) (by (with_reducible repeat (first | refine kN ?_ _ | refine blk_drew ?_ | refine kA ?_ _)); exact BK297.out) hb); have n2_ := AM (bP (by repeat (first | (with_reducible first | exact HB.out | apply bA | apply bN | apply b1 | refine bS ?_ GE297.out) | exact HB.out)) hb); clear HO300; clear BK297; clear HB; have HO300 := n0_; have BK297 := n1_; have HB := n2_; clear n0_ n1_ n2_; (try clear hb); (try clear hb2); (try clear hk); (try clear hi); have hcz9_0 : w8.cell? ⟨gb297, 0, none⟩ = some (.int .i64 a0_0) := (kC BK297.out 0).trans rfl; have hcz9_1 : w8.cell? ⟨gb297, 1, none⟩ = some (.int .i64 a0_1) := (kC BK297.out 1).trans rfl; have hcz9_2 : w8.cell? ⟨gb297, 2, none⟩ = some (.int .i64 a0_2) := (kC BK297.out 2).trans rfl; have hcz9_3 : w8.cell? ⟨gb297, 3, none⟩ = some (.slice A0_3 l0_3.length c0_3) := (kC BK297.out 3).trans rfl; have hfz9_0 := kF BK297.out 0; have hfz9_1 := kF BK297.out 1; have hfz9_2 := kF BK297.out 2; have hfz9_3 := kF BK297.out 3))
  go_loopg [3, 14] k (fun kq v3 v14 w' => ∃ (x3_1 : List (S117)) (x14_1 : Int), v14 = .int .i64 x14_1 ∧ Aside0 (impl_PrepEdits.l0 kq x3_1 l0_3 (l0_3.length : Int) x14_1 a0_0 a0_1 a0_2 l0_3 = some r) ∧ Aside0 (kq ≤ k) ∧ Aside0 (Kd.R k117 117 w' w.heap.size (fun _ => True) v3 x3_1) ∧ Aside0 (w'.heap[gb297]? = some (.cells #[.int .i64 a0_0, .int .i64 a0_1, .int .i64 a0_2, (.slice A0_3 l0_3.length c0_3)] 33 (0, 0))) ∧ Aside0 (Below w.heap.size w w'))
  case atStart => exact ⟨(y298), (0), (by first | rfl | (simp; done) | (simp [*]; done) | (simp [bne_nil_]; done) | (simp [*, bne_nil_]; done)), H', ⟨Nat.le_refl _⟩, ⟨by (with_reducible repeat (first | apply Kd.R_alloc | apply Kd.R_drewN | apply Kd.R_drew)); exact HO300.out⟩, ⟨by (with_reducible repeat (first | refine kN ?_ _ | refine blk_drew ?_ | refine kA ?_ _)); exact BK297.out⟩, ⟨by repeat (first | (with_reducible first | exact HB.out | apply bA | apply bN | apply b1 | refine bS ?_ GE297.out) | exact HB.out)⟩⟩
  case round =>
   clear H'
   try clear c1
   try clear p2
   try clear c3
   try clear c8
   try clear hcz7_0
   try clear hcz7_1
   try clear hcz7_2
   try clear hcz7_3
   try clear hcz9_0
   try clear hcz9_1
   try clear hcz9_2
   try clear hcz9_3
   try clear hfz7_0
   try clear hfz7_1
   try clear hfz7_2
   try clear hfz7_3
   try clear hfz9_0
   try clear hfz9_1
   try clear hfz9_2
   try clear hfz9_3
   obtain ⟨x3_1, x14_1, rfl, HA, HK1, HO_3, BK297, HB⟩ := hrel
   cases gk with
   | zero => exact absurd HA.out (by simp [impl_PrepEdits.l0])
   | succ k1 =>
    have H := HA.out
    clear HA
    simp only [impl_PrepEdits.l0] at H
    by_cases c10 : x14_1 < (l0_3.length : Int)
    ·rw [if_pos c10] at H
     have c10b0 : decide (x14_1 < (l0_3.length : Int)) = true := decide_eq_true c10
     clear c10
     by_cases c11 : 0 ≤ x14_1
     ·rw [if_pos c11] at H
      have c11b0 : decide (0 ≤ x14_1) = true := decide_eq_true c11
      clear c11
      by_cases c12 : x14_1 < (l0_3.length : Int)
      ·rw [if_pos c12] at H
       have c12b0 : decide (x14_1 < (l0_3.length : Int)) = true := decide_eq_true c12
       clear c12
       replace H := Option.bind_eq_some_iff.mp H
       obtain ⟨t304, A130, H⟩ := H
       replace H : (if 1 + t304.size ≤ 9223372036854775807 then (if ((⟨#[112]⟩ : ByteArray) ++ t304).size + 1 ≤ 9223372036854775807 then ((impl_NumText.f k1 x14_1).bind fun t305 => (if (((⟨#[112]⟩ : ByteArray) ++ t304) ++ (⟨#[46]⟩ : ByteArray)).size + t305.size ≤ 9223372036854775807 then ((impl_RecText.f k1 ((rd_T113 l0_3 x14_1).f0) ((rd_T113 l0_3 x14_1).f1) ((rd_T113 l0_3 x14_1).f2) ((rd_T113 l0_3 x14_1).f3.f0) ((rd_T113 l0_3 x14_1).f3.f1)).bind fun t306 => (if x3_1.length < 3518437208883 then (impl_PrepEdits.l0 k1 (x3_1 ++ [(⟨(((⟨#[112]⟩ : ByteArray) ++ t304) ++ (⟨#[46]⟩ : ByteArray)) ++ t305, t306, false⟩ : S117)]) l0_3 (l0_3.length : Int) (wrap64 (x14_1 + 1)) a0_0 a0_1 a0_2 l0_3) else (none))) else (none))) else (none)) else (none)) = some r := H
       have A13 := AM A130
       clear A130
       by_cases c14 : 1 + t304.size ≤ 9223372036854775807
       ·rw [if_pos c14] at H
        have c14b0 := eq_true c14
        have c14b1 : decide (1 + t304.size ≤ 9223372036854775807) = true := decide_eq_true c14
        try have c14b2 : (9223372036854775807 < 1 + t304.size) = False := eq_false (Nat.not_lt.2 c14)
        by_cases c15 : ((⟨#[112]⟩ : ByteArray) ++ t304).size + 1 ≤ 9223372036854775807
        ·rw [if_pos c15] at H
         have c15b0 := eq_true c15
         have c15b1 : decide (((⟨#[112]⟩ : ByteArray) ++ t304).size + 1 ≤ 9223372036854775807) = true := decide_eq_true c15
         (try (have c15b1n : decide (1 + t304.size + 1 ≤ 9223372036854775807) = true := by have h_ := c15b1; simp only [ByteArray.size_append, one_size_] at h_; exact h_))
         try have c15b2 : (9223372036854775807 < ((⟨#[112]⟩ : ByteArray) ++ t304).size + 1) = False := eq_false (Nat.not_lt.2 c15)
         (try (have c15b2n : (9223372036854775807 < 1 + t304.size + 1) = False := by have h_ := c15b2; simp only [ByteArray.size_append, one_size_] at h_; exact h_))
         replace H := Option.bind_eq_some_iff.mp H
         obtain ⟨t305, A160, H⟩ := H
         replace H : (if (((⟨#[112]⟩ : ByteArray) ++ t304) ++ (⟨#[46]⟩ : ByteArray)).size + t305.size ≤ 9223372036854775807 then ((impl_RecText.f k1 ((rd_T113 l0_3 x14_1).f0) ((rd_T113 l0_3 x14_1).f1) ((rd_T113 l0_3 x14_1).f2) ((rd_T113 l0_3 x14_1).f3.f0) ((rd_T113 l0_3 x14_1).f3.f1)).bind fun t306 => (if x3_1.length < 3518437208883 then (impl_PrepEdits.l0 k1 (x3_1 ++ [(⟨(((⟨#[112]⟩ : ByteArray) ++ t304) ++ (⟨#[46]⟩ : ByteArray)) ++ t305, t306, false⟩ : S117)]) l0_3 (l0_3.length : Int) (wrap64 (x14_1 + 1)) a0_0 a0_1 a0_2 l0_3) else (none))) else (none)) = some r := H
         have A16 := AM A160
         clear A160
         by_cases c17 : (((⟨#[112]⟩ : ByteArray) ++ t304) ++ (⟨#[46]⟩ : ByteArray)).size + t305.size ≤ 9223372036854775807
         ·rw [if_pos c17] at H
          have c17b0 := eq_true c17
          have c17b1 : decide ((((⟨#[112]⟩ : ByteArray) ++ t304) ++ (⟨#[46]⟩ : ByteArray)).size + t305.size ≤ 9223372036854775807) = true := decide_eq_true c17
          (try (have c17b1n : decide (1 + t304.size + 1 + t305.size ≤ 9223372036854775807) = true := by have h_ := c17b1; simp only [ByteArray.size_append, one_size_] at h_; exact h_))
          try have c17b2 : (9223372036854775807 < (((⟨#[112]⟩ : ByteArray) ++ t304) ++ (⟨#[46]⟩ : ByteArray)).size + t305.size) = False := eq_false (Nat.not_lt.2 c17)
          (try (have c17b2n : (9223372036854775807 < 1 + t304.size + 1 + t305.size) = False := by have h_ := c17b2; simp only [ByteArray.size_append, one_size_] at h_; exact h_))
          replace H := Option.bind_eq_some_iff.mp H
          obtain ⟨t306, A180, H⟩ := H
          replace H : (if x3_1.length < 3518437208883 then (impl_PrepEdits.l0 k1 (x3_1 ++ [(⟨(((⟨#[112]⟩ : ByteArray) ++ t304) ++ (⟨#[46]⟩ : ByteArray)) ++ t305, t306, false⟩ : S117)]) l0_3 (l0_3.length : Int) (wrap64 (x14_1 + 1)) a0_0 a0_1 a0_2 l0_3) else (none)) = some r := H
          have A18 := AM A180
          clear A180
          by_cases c19 : x3_1.length < 3518437208883
          ·rw [if_pos c19] at H
           have LMc19 := AM c19
           clear c19
           obtain ⟨y307, hy307⟩ : ∃ y_ : List (S117), y_ = (x3_1 ++ [(⟨(((⟨#[112]⟩ : ByteArray) ++ t304) ++ (⟨#[46]⟩ : ByteArray)) ++ t305, t306, false⟩ : S117)]) := ⟨_, rfl⟩
           replace H : (impl_PrepEdits.l0 k1 y307 l0_3 (l0_3.length : Int) (wrap64 (x14_1 + 1)) a0_0 a0_1 a0_2 l0_3) = some r := by first | (rw [hy307]; with_reducible exact H) | (have H2_ := (Option.bind_some _ _).symm.trans H; rw [hy307]; with_reducible exact H2_) | (have H2_ := (Option.bind_some _ _).symm.trans H; with_reducible exact H2_) | with_reducible exact H | (rw [hy307]; exact H) | exact H
           have Ny307 := AM hy307
           clear hy307
           have H' := AM H
           clear H
           have p302 : 0 ≤ (x14_1 : Int) := of_decide_eq_true (by first | (with_reducible assumption) | assumption)
           have q302 : x14_1 < (l0_3.length : Int) := of_decide_eq_true (by first | (with_reducible assumption) | assumption)
           obtain ⟨ad302, e302, hx302_0, hx302_1, hx302_2, hx302_3, hx302_4⟩ := at_T113 HR0_3.out x14_1 p302 q302
           cases e302
           replace hx302_0 := (HB.out.cell (lB w _ hx302_0)).trans hx302_0
           replace hx302_1 := (HB.out.cell (lB w _ hx302_1)).trans hx302_1
           replace hx302_2 := (HB.out.cell (lB w _ hx302_2)).trans hx302_2
           replace hx302_3 := (HB.out.cell (lB w _ hx302_3)).trans hx302_3
           replace hx302_4 := (HB.out.cell (lB w _ hx302_4)).trans hx302_4
           replace p302 := eq_true p302
           replace q302 := eq_true q302
           try go_wp2_with (first | ((with_reducible refine gate_dst (N := 5) rfl ?_); refine box_event ?hg (N := 5) ?hd (cs := #[.int .i64 0, .string (⟨#[]⟩ : ByteArray), .string (⟨#[]⟩ : ByteArray), .string (⟨#[]⟩ : ByteArray), .string (⟨#[]⟩ : ByteArray)]) (t := 113) ?hr ?_; (case hd => rfl); (case hg => rfl); (case hr => first | (go_simp; done) | (go_simp; rfl)); intro gb303 hg w20 hbox hb; have n0_ := AM (Kd.R_below (by (with_reducible repeat (first | apply Kd.R_alloc | apply Kd.R_drewN | apply Kd.R_drew)); exact HO_3.out) hb); have n1_ := AM (kB (g := gb297) (o := .cells #[.int .i64 a0_0, .int .i64 a0_1, .int .i64 a0_2, .slice (some ad302) l0_3.length c0_3] 33 (0, 0)) (by (with_reducible repeat (first | refine kN ?_ _ | refine blk_drew ?_ | refine kA ?_ _)); exact BK297.out) hb); have n2_ := AM (bP (by repeat (first | (with_reducible first | exact HB.out | apply bA | apply bN | apply b1 | refine bS ?_ GE297.out) | exact HB.out)) hb); have n3_ := AM (hbox); have n4_ := AM ((by rw [hg]; exact (below_size (by repeat (first | (with_reducible first | exact HB.out | apply bA | apply bN | apply b1 | refine bS ?_ GE297.out) | exact HB.out))) : w.heap.size ≤ gb303)); have n5_ := AM ((by rw [hg]; exact (below_size (by repeat (first | (with_reducible first | exact HB.out | apply bA | apply bN | apply b1 | refine bS ?_ GE297.out) | exact HB.out))) : w.heap.size ≤ gb303)); have n6_ := AM ((by rw [hg]; exact Nat.ne_of_lt (blk_lt (g := gb297) (o := .cells #[.int .i64 a0_0, .int .i64 a0_1, .int .i64 a0_2, .slice (some ad302) l0_3.length c0_3] 33 (0, 0)) (by (with_reducible repeat (first | refine kN ?_ _ | refine blk_drew ?_ | refine kA ?_ _)); exact BK297.out)) : gb297 ≠ gb303)); have n7_ := AM ((by rw [hg]; exact Nat.ne_of_gt (blk_lt (g := gb297) (o := .cells #[.int .i64 a0_0, .int .i64 a0_1, .int .i64 a0_2, .slice (some ad302) l0_3.length c0_3] 33 (0, 0)) (by (with_reducible repeat (first | refine kN ?_ _ | refine blk_drew ?_ | refine kA ?_ _)); exact BK297.out)) : gb303 ≠ gb297)); clear HO_3; clear BK297; clear HB; have HO_3 := n0_; have BK297 := n1_; have HB := n2_; have BK303 := n3_; have GW303 := n4_; have GE303 := n5_; have NB297_303 := n6_; have NB303_297 := n7_; clear n0_ n1_ n2_ n3_ n4_ n5_ n6_ n7_; clear hb hbox hg; have hnb21 := NB303_297.out; have hnc21 := NB297_303.out; have hcz22_0 : w20.cell? ⟨gb303, 0, none⟩ = some (.int .i64 0) := (kC BK303.out 0).trans rfl; have hcz22_1 : w20.cell? ⟨gb303, 1, none⟩ = some (.string (⟨#[]⟩ : ByteArray)) := (kC BK303.out 1).trans rfl; have hcz22_2 : w20.cell? ⟨gb303, 2, none⟩ = some (.string (⟨#[]⟩ : ByteArray)) := (kC BK303.out 2).trans rfl; have hcz22_3 : w20.cell? ⟨gb303, 3, none⟩ = some (.string (⟨#[]⟩ : ByteArray)) := (kC BK303.out 3).trans rfl; have hcz22_4 : w20.cell? ⟨gb303, 4, none⟩ = some (.string (⟨#[]⟩ : ByteArray)) := (kC BK303.out 4).trans rfl; have hfz22_0 := kF BK303.out 0; have hfz22_1 := kF BK303.out 1; have hfz22_2 := kF BK303.out 2; have hfz22_3 := kF BK303.out 3; have hfz22_4 := kF BK303.out 4))
           have n0_ : Aside0 (Kd.R k117 117 (((((w20.setCell ⟨gb303, 0, none⟩ (.int .i64 ((rd_T113 l0_3 x14_1).f0))).setCell ⟨gb303, 1, none⟩ (.string ((rd_T113 l0_3 x14_1).f1))).setCell ⟨gb303, 2, none⟩ (.string ((rd_T113 l0_3 x14_1).f2))).setCell ⟨gb303, 3, none⟩ (.string ((rd_T113 l0_3 x14_1).f3.f0))).setCell ⟨gb303, 4, none⟩ (.string ((rd_T113 l0_3 x14_1).f3.f1))) w.heap.size (fun _ => True) u3 x3_1) := ⟨by (with_reducible repeat (first | apply Kd.R_alloc | apply Kd.R_drewN | apply Kd.R_drew)); exact Kd.R_mono (Kd.R_far (p := ⟨gb303, 4, none⟩) (Kd.R_far (p := ⟨gb303, 3, none⟩) (Kd.R_far (p := ⟨gb303, 2, none⟩) (Kd.R_far (p := ⟨gb303, 1, none⟩) (Kd.R_far (p := ⟨gb303, 0, none⟩) (Kd.R_types HO_3.out BK303.out (by decide)) (fun _ hk => hk.2) (.int .i64 ((rd_T113 l0_3 x14_1).f0))) (fun _ hk => hk.2) (.string ((rd_T113 l0_3 x14_1).f1))) (fun _ hk => hk.2) (.string ((rd_T113 l0_3 x14_1).f2))) (fun _ hk => hk.2) (.string ((rd_T113 l0_3 x14_1).f3.f0))) (fun _ hk => hk.2) (.string ((rd_T113 l0_3 x14_1).f3.f1))) (fun _ hk => trivial)⟩
           have n1_ : Aside0 ((((((w20.setCell ⟨gb303, 0, none⟩ (.int .i64 ((rd_T113 l0_3 x14_1).f0))).setCell ⟨gb303, 1, none⟩ (.string ((rd_T113 l0_3 x14_1).f1))).setCell ⟨gb303, 2, none⟩ (.string ((rd_T113 l0_3 x14_1).f2))).setCell ⟨gb303, 3, none⟩ (.string ((rd_T113 l0_3 x14_1).f3.f0))).setCell ⟨gb303, 4, none⟩ (.string ((rd_T113 l0_3 x14_1).f3.f1))).heap[gb297]? = some (.cells #[.int .i64 a0_0, .int .i64 a0_1, .int .i64 a0_2, .slice (some ad302) l0_3.length c0_3] 33 (0, 0))) := ⟨by (with_reducible repeat (first | refine kN ?_ _ | refine blk_drew ?_ | refine kA ?_ _)); refine blk_far ?_ NB297_303.out _; (with_reducible repeat (first | refine kN ?_ _ | refine blk_drew ?_ | refine kA ?_ _)); refine blk_far ?_ NB297_303.out _; (with_reducible repeat (first | refine kN ?_ _ | refine blk_drew ?_ | refine kA ?_ _)); refine blk_far ?_ NB297_303.out _; (with_reducible repeat (first | refine kN ?_ _ | refine blk_drew ?_ | refine kA ?_ _)); refine blk_far ?_ NB297_303.out _; (with_reducible repeat (first | refine kN ?_ _ | refine blk_drew ?_ | refine kA ?_ _)); refine blk_far ?_ NB297_303.out _; (with_reducible repeat (first | refine kN ?_ _ | refine blk_drew ?_ | refine kA ?_ _)); exact BK297.out⟩
           have n2_ : Aside0 ((((((w20.setCell ⟨gb303, 0, none⟩ (.int .i64 ((rd_T113 l0_3 x14_1).f0))).setCell ⟨gb303, 1, none⟩ (.string ((rd_T113 l0_3 x14_1).f1))).setCell ⟨gb303, 2, none⟩ (.string ((rd_T113 l0_3 x14_1).f2))).setCell ⟨gb303, 3, none⟩ (.string ((rd_T113 l0_3 x14_1).f3.f0))).setCell ⟨gb303, 4, none⟩ (.string ((rd_T113 l0_3 x14_1).f3.f1))).heap[gb303]? = some (.cells #[.int .i64 ((rd_T113 l0_3 x14_1).f0), .string ((rd_T113 l0_3 x14_1).f1), .string ((rd_T113 l0_3 x14_1).f2), .string ((rd_T113 l0_3 x14_1).f3.f0), .string ((rd_T113 l0_3 x14_1).f3.f1)] 113 (0, 0))) := ⟨by (with_reducible repeat (first | refine kN ?_ _ | refine blk_drew ?_ | refine kA ?_ _)); refine blk_put (cs := #[.int .i64 ((rd_T113 l0_3 x14_1).f0), .string ((rd_T113 l0_3 x14_1).f1), .string ((rd_T113 l0_3 x14_1).f2), .string ((rd_T113 l0_3 x14_1).f3.f0), .string (⟨#[]⟩ : ByteArray)]) ?_ 4 _ rfl; (with_reducible repeat (first | refine kN ?_ _ | refine blk_drew ?_ | refine kA ?_ _)); refine blk_put (cs := #[.int .i64 ((rd_T113 l0_3 x14_1).f0), .string ((rd_T113 l0_3 x14_1).f1), .string ((rd_T113 l0_3 x14_1).f2), .string (⟨#[]⟩ : ByteArray), .string (⟨#[]⟩ : ByteArray)]) ?_ 3 _ rfl; (with_reducible repeat (first | refine kN ?_ _ | refine blk_drew ?_ | refine kA ?_ _)); refine blk_put (cs := #[.int .i64 ((rd_T113 l0_3 x14_1).f0), .string ((rd_T113 l0_3 x14_1).f1), .string (⟨#[]⟩ : ByteArray), .string (⟨#[]⟩ : ByteArray), .string (⟨#[]⟩ : ByteArray)]) ?_ 2 _ rfl; (with_reducible repeat (first | refine kN ?_ _ | refine blk_drew ?_ | refine kA ?_ _)); refine blk_put (cs := #[.int .i64 ((rd_T113 l0_3 x14_1).f0), .string (⟨#[]⟩ : ByteArray), .string (⟨#[]⟩ : ByteArray), .string (⟨#[]⟩ : ByteArray), .string (⟨#[]⟩ : ByteArray)]) ?_ 1 _ rfl; (with_reducible repeat (first | refine kN ?_ _ | refine blk_drew ?_ | refine kA ?_ _)); refine blk_put (cs := #[.int .i64 0, .string (⟨#[]⟩ : ByteArray), .string (⟨#[]⟩ : ByteArray), .string (⟨#[]⟩ : ByteArray), .string (⟨#[]⟩ : ByteArray)]) ?_ 0 _ rfl; (with_reducible repeat (first | refine kN ?_ _ | refine blk_drew ?_ | refine kA ?_ _)); exact BK303.out⟩
           have n3_ : Aside0 (Below w.heap.size w (((((w20.setCell ⟨gb303, 0, none⟩ (.int .i64 ((rd_T113 l0_3 x14_1).f0))).setCell ⟨gb303, 1, none⟩ (.string ((rd_T113 l0_3 x14_1).f1))).setCell ⟨gb303, 2, none⟩ (.string ((rd_T113 l0_3 x14_1).f2))).setCell ⟨gb303, 3, none⟩ (.string ((rd_T113 l0_3 x14_1).f3.f0))).setCell ⟨gb303, 4, none⟩ (.string ((rd_T113 l0_3 x14_1).f3.f1)))) := ⟨by repeat (first | (with_reducible first | exact HB.out | apply bA | apply bN | apply b1 | refine bS ?_ GE297.out | refine bS ?_ GE303.out) | exact HB.out)⟩
           (try clear HO_3)
           (try clear BK297)
           (try clear BK303)
           (try clear HB)
           generalize (((((w20.setCell ⟨gb303, 0, none⟩ (.int .i64 ((rd_T113 l0_3 x14_1).f0))).setCell ⟨gb303, 1, none⟩ (.string ((rd_T113 l0_3 x14_1).f1))).setCell ⟨gb303, 2, none⟩ (.string ((rd_T113 l0_3 x14_1).f2))).setCell ⟨gb303, 3, none⟩ (.string ((rd_T113 l0_3 x14_1).f3.f0))).setCell ⟨gb303, 4, none⟩ (.string ((rd_T113 l0_3 x14_1).f3.f1))) = w23 at n0_ n1_ n2_ n3_ ⊢
           have HO_3 := n0_
           have BK297 := n1_
           have BK303 := n2_
           have HB := n3_
           clear n0_ n1_ n2_ n3_
           have n0_ := AM (Kd.R_drew HO_3.out)
           have n1_ := AM (blk_drew BK297.out)
           have n2_ := AM (blk_drew BK303.out)
           have n3_ := AM (b1 HB.out)
           clear HO_3
           clear BK297
           clear BK303
           clear HB
           have HO_3 := n0_
           have BK297 := n1_
           have BK303 := n2_
           have HB := n3_
           clear n0_ n1_ n2_ n3_
           refine start_ (n := 15) (S := fun w' => w'.cell? ⟨gb297, 0, none⟩ = some (.int .i64 a0_0) ∧ w'.cell? ⟨gb297, 1, none⟩ = some (.int .i64 a0_1) ∧ w'.cell? ⟨gb297, 2, none⟩ = some (.int .i64 a0_2) ∧ w'.cell? ⟨gb297, 3, none⟩ = some (.slice (some ad302) l0_3.length c0_3) ∧ w'.cell? ⟨gb303, 0, none⟩ = some (.int .i64 ((rd_T113 l0_3 x14_1).f0)) ∧ w'.cell? ⟨gb303, 1, none⟩ = some (.string ((rd_T113 l0_3 x14_1).f1)) ∧ w'.cell? ⟨gb303, 2, none⟩ = some (.string ((rd_T113 l0_3 x14_1).f2)) ∧ w'.cell? ⟨gb303, 3, none⟩ = some (.string ((rd_T113 l0_3 x14_1).f3.f0)) ∧ w'.cell? ⟨gb303, 4, none⟩ = some (.string ((rd_T113 l0_3 x14_1).f3.f1))) (ds := []) #[false, false, false, false, false, false, false, false, false, false, false, false, false, false, false] (by kernel_rfl) rfl rfl ⟨(kC BK297.out 0).trans rfl, (kC BK297.out 1).trans rfl, (kC BK297.out 2).trans rfl, (kC BK297.out 3).trans rfl, (kC BK303.out 0).trans rfl, (kC BK303.out 1).trans rfl, (kC BK303.out 2).trans rfl, (kC BK303.out 3).trans rfl, (kC BK303.out 4).trans rfl⟩ (fun hHeld => ?_); refine with_tabW impl_PrepEdits.tab7 impl_PrepEdits.bits7 (fun HT_ HW_ => ?_)
           generalize w23.drew = w24 at HO_3 BK297 BK303 HB hHeld ⊢
           refine pure_ (i := 0) (N := some 19) (v := ?_) (a' := ?_) #[true, false, false, false, false, false, false, false, false, false, false, false, false, false, false] rfl rfl (any_of HT_.out (by kernel_rfl)) (fun _ _ _ h => h) (Or.inl ⟨by rfl, ?_⟩) ?_ ?_
           rotate_left
           ·intro w'
            go_simp
            with_reducible rfl
           rotate_left
           ·simp only [Act.put, sA, sZ, sS, i64_w, i32_w]
            rfl
           refine pure_ (i := 1) (N := some 20) (v := ?_) (a' := ?_) #[true, true, false, false, false, false, false, false, false, false, false, false, false, false, false] rfl rfl (any_of HT_.out (by kernel_rfl)) (fun _ _ _ h => h) (Or.inl ⟨by rfl, ?_⟩) ?_ ?_
           rotate_left
           ·intro w'
            go_simp
            with_reducible rfl
           rotate_left
           ·simp only [Act.put, sA, sZ, sS, i64_w, i32_w]
            rfl
           refine pure_ (i := 6) (N := some 25) (v := ?_) (a' := ?_) #[true, true, false, false, false, false, true, false, false, false, false, false, false, false, false] rfl rfl (any_of HT_.out (by kernel_rfl)) (fun _ _ _ h => h) (Or.inl ⟨by rfl, ?_⟩) ?_ ?_
           rotate_left
           ·intro w'
            go_simp
            with_reducible rfl
           rotate_left
           ·simp only [Act.put, sA, sZ, sS, i64_w, i32_w]
            rfl
           refine take_ (i := 2) (N := some 21) (v := ?_) (a' := ?_) #[true, true, true, false, false, false, true, false, false, false, false, false, false, false, false] rfl rfl (take_ofW HT_.out HW_.out (by kernel_rfl)) (fun _ _ _ h => h) (Or.inl ⟨by rfl, ?_⟩) hHeld ?_ ?_
           rotate_left
           ·rintro w' ⟨s0, s1, s2, s3, s4, s5, s6, s7, s8⟩
            go_simp
            with_reducible rfl
           rotate_left
           ·simp only [Act.put, sA, sZ, sS, i64_w, i32_w]
            rfl
           refine take_ (i := 9) (N := some 28) (v := ?_) (a' := ?_) #[true, true, true, false, false, false, true, false, false, true, false, false, false, false, false] rfl rfl (take_ofW HT_.out HW_.out (by kernel_rfl)) (fun _ _ _ h => h) (Or.inl ⟨by rfl, ?_⟩) hHeld ?_ ?_
           rotate_left
           ·rintro w' ⟨s0, s1, s2, s3, s4, s5, s6, s7, s8⟩
            go_simp
            with_reducible rfl
           rotate_left
           ·simp only [Act.put, sA, sZ, sS, i64_w, i32_w]
            rfl
           refine one_ (i := 3) (N := some 22) #[true, true, true, true, false, false, true, false, false, true, false, false, false, false, false] rfl rfl (one_of HT_.out (by kernel_rfl)) (by decide) (fun K hK => ?_)
           refine goes_ Try.func83 (by kernel_rfl) rfl #[.agg #[.int .i64 a0_0, .int .i64 a0_1, .int .i64 a0_2]] (by rfl) rfl rfl (by (try simp only [mA, mC, mN]); first | done | rfl | (simp only [List.length_drop, List.length_take]; rfl)) ?_
           with_reducible refine (impl_TxText.calls k1 a0_0 a0_1 a0_2 t304 _ A13.out).mono ?_
           rintro e w25 ⟨rfl, hb⟩
           refine ⟨_, rfl, ?_⟩
           have n0_ := AM (Kd.R_below (by (with_reducible repeat (first | apply Kd.R_alloc | apply Kd.R_drewN | apply Kd.R_drew)); exact HO_3.out) hb)
           have n1_ := AM (kB (g := gb297) (o := .cells #[.int .i64 a0_0, .int .i64 a0_1, .int .i64 a0_2, .slice (some ad302) l0_3.length c0_3] 33 (0, 0)) (by (with_reducible repeat (first | refine kN ?_ _ | refine blk_drew ?_ | refine kA ?_ _)); exact BK297.out) hb)
           have n2_ := AM (kB (g := gb303) (o := .cells #[.int .i64 ((rd_T113 l0_3 x14_1).f0), .string ((rd_T113 l0_3 x14_1).f1), .string ((rd_T113 l0_3 x14_1).f2), .string ((rd_T113 l0_3 x14_1).f3.f0), .string ((rd_T113 l0_3 x14_1).f3.f1)] 113 (0, 0)) (by (with_reducible repeat (first | refine kN ?_ _ | refine blk_drew ?_ | refine kA ?_ _)); exact BK303.out) hb)
           have n3_ := AM (bP (by repeat (first | (with_reducible first | exact HB.out | apply bA | apply bN | apply b1 | refine bS ?_ GE297.out | refine bS ?_ GE303.out) | exact HB.out)) hb)
           clear HO_3
           clear BK297
           clear BK303
           clear HB
           have HO_3 := n0_
           have BK297 := n1_
           have BK303 := n2_
           have HB := n3_
           clear n0_ n1_ n2_ n3_
           (try clear hb)
           (try clear hb2)
           (try clear hk)
           (try clear hi)
           refine hK.out _ _ ⟨(kC BK297.out 0).trans rfl, (kC BK297.out 1).trans rfl, (kC BK297.out 2).trans rfl, (kC BK297.out 3).trans rfl, (kC BK303.out 0).trans rfl, (kC BK303.out 1).trans rfl, (kC BK303.out 2).trans rfl, (kC BK303.out 3).trans rfl, (kC BK303.out 4).trans rfl⟩ (fun hHeld => ?_)
           clear hK K
           refine norm_ (a' := ?_) ?_ ?_
           rotate_left
           ·show Act.put _ (some 22) _ = _
            simp only [Act.put, sA, sZ, sS, i64_w, i32_w]
            rfl
           refine pure_ (i := 4) (N := some 23) (v := ?_) (a' := ?_) #[true, true, true, true, true, false, true, false, false, true, false, false, false, false, false] rfl rfl (any_of HT_.out (by kernel_rfl)) (fun _ _ _ h => h) (Or.inl ⟨by rfl, ?_⟩) ?_ ?_
           rotate_left
           ·intro w'
            go_simp
            with_reducible rfl
           rotate_left
           ·simp only [Act.put, sA, sZ, sS, i64_w, i32_w]
            rfl
           refine pure_ (i := 5) (N := some 24) (v := ?_) (a' := ?_) #[true, true, true, true, true, true, true, false, false, true, false, false, false, false, false] rfl rfl (any_of HT_.out (by kernel_rfl)) (fun _ _ _ h => h) (Or.inl ⟨by rfl, ?_⟩) ?_ ?_
           rotate_left
           ·intro w'
            go_simp
            with_reducible rfl
           rotate_left
           ·simp only [Act.put, sA, sZ, sS, i64_w, i32_w]
            rfl
           refine one_ (i := 7) (N := some 26) #[true, true, true, true, true, true, true, true, false, true, false, false, false, false, false] rfl rfl (one_of HT_.out (by kernel_rfl)) (by decide) (fun K hK => ?_)
           refine goes_ Try.func84 (by kernel_rfl) rfl #[.int .i64 x14_1] (by rfl) rfl rfl (by (try simp only [mA, mC, mN]); first | done | rfl | (simp only [List.length_drop, List.length_take]; rfl)) ?_
           with_reducible refine (impl_NumText.calls k1 x14_1 t305 _ A16.out).mono ?_
           rintro e w26 ⟨rfl, hb⟩
           refine ⟨_, rfl, ?_⟩
           have n0_ := AM (Kd.R_below (by (with_reducible repeat (first | apply Kd.R_alloc | apply Kd.R_drewN | apply Kd.R_drew)); exact HO_3.out) hb)
           have n1_ := AM (kB (g := gb297) (o := .cells #[.int .i64 a0_0, .int .i64 a0_1, .int .i64 a0_2, .slice (some ad302) l0_3.length c0_3] 33 (0, 0)) (by (with_reducible repeat (first | refine kN ?_ _ | refine blk_drew ?_ | refine kA ?_ _)); exact BK297.out) hb)
           have n2_ := AM (kB (g := gb303) (o := .cells #[.int .i64 ((rd_T113 l0_3 x14_1).f0), .string ((rd_T113 l0_3 x14_1).f1), .string ((rd_T113 l0_3 x14_1).f2), .string ((rd_T113 l0_3 x14_1).f3.f0), .string ((rd_T113 l0_3 x14_1).f3.f1)] 113 (0, 0)) (by (with_reducible repeat (first | refine kN ?_ _ | refine blk_drew ?_ | refine kA ?_ _)); exact BK303.out) hb)
           have n3_ := AM (bP (by repeat (first | (with_reducible first | exact HB.out | apply bA | apply bN | apply b1 | refine bS ?_ GE297.out | refine bS ?_ GE303.out) | exact HB.out)) hb)
           clear HO_3
           clear BK297
           clear BK303
           clear HB
           have HO_3 := n0_
           have BK297 := n1_
           have BK303 := n2_
           have HB := n3_
           clear n0_ n1_ n2_ n3_
           (try clear hb)
           (try clear hb2)
           (try clear hk)
           (try clear hi)
           refine hK.out _ _ ⟨(kC BK297.out 0).trans rfl, (kC BK297.out 1).trans rfl, (kC BK297.out 2).trans rfl, (kC BK297.out 3).trans rfl, (kC BK303.out 0).trans rfl, (kC BK303.out 1).trans rfl, (kC BK303.out 2).trans rfl, (kC BK303.out 3).trans rfl, (kC BK303.out 4).trans rfl⟩ (fun hHeld => ?_)
           clear hK K
           refine norm_ (a' := ?_) ?_ ?_
           rotate_left
           ·show Act.put _ (some 26) _ = _
            simp only [Act.put, sA, sZ, sS, i64_w, i32_w]
            rfl
           refine pure_ (i := 8) (N := some 27) (v := ?_) (a' := ?_) #[true, true, true, true, true, true, true, true, true, true, false, false, false, false, false] rfl rfl (any_of HT_.out (by kernel_rfl)) (fun _ _ _ h => h) (Or.inl ⟨by rfl, ?_⟩) ?_ ?_
           rotate_left
           ·intro w'
            go_simp
            with_reducible rfl
           rotate_left
           ·simp only [Act.put, sA, sZ, sS, i64_w, i32_w]
            rfl
           refine one_ (i := 10) (N := some 29) #[true, true, true, true, true, true, true, true, true, true, true, false, false, false, false] rfl rfl (one_of HT_.out (by kernel_rfl)) (by decide) (fun K hK => ?_)
           refine goes_ Try.func85 (by kernel_rfl) rfl #[.agg #[.int .i64 ((rd_T113 l0_3 x14_1).f0), .string ((rd_T113 l0_3 x14_1).f1), .string ((rd_T113 l0_3 x14_1).f2), .string ((rd_T113 l0_3 x14_1).f3.f0), .string ((rd_T113 l0_3 x14_1).f3.f1)]] (by rfl) rfl rfl (by (try simp only [mA, mC, mN]); first | done | rfl | (simp only [List.length_drop, List.length_take]; rfl)) ?_
           with_reducible refine (impl_RecText.calls k1 ((rd_T113 l0_3 x14_1).f0) ((rd_T113 l0_3 x14_1).f1) ((rd_T113 l0_3 x14_1).f2) ((rd_T113 l0_3 x14_1).f3.f0) ((rd_T113 l0_3 x14_1).f3.f1) t306 _ A18.out).mono ?_
           rintro e w27 ⟨rfl, hb⟩
           refine ⟨_, rfl, ?_⟩
           have n0_ := AM (Kd.R_below (by (with_reducible repeat (first | apply Kd.R_alloc | apply Kd.R_drewN | apply Kd.R_drew)); exact HO_3.out) hb)
           have n1_ := AM (kB (g := gb297) (o := .cells #[.int .i64 a0_0, .int .i64 a0_1, .int .i64 a0_2, .slice (some ad302) l0_3.length c0_3] 33 (0, 0)) (by (with_reducible repeat (first | refine kN ?_ _ | refine blk_drew ?_ | refine kA ?_ _)); exact BK297.out) hb)
           have n2_ := AM (kB (g := gb303) (o := .cells #[.int .i64 ((rd_T113 l0_3 x14_1).f0), .string ((rd_T113 l0_3 x14_1).f1), .string ((rd_T113 l0_3 x14_1).f2), .string ((rd_T113 l0_3 x14_1).f3.f0), .string ((rd_T113 l0_3 x14_1).f3.f1)] 113 (0, 0)) (by (with_reducible repeat (first | refine kN ?_ _ | refine blk_drew ?_ | refine kA ?_ _)); exact BK303.out) hb)
           have n3_ := AM (bP (by repeat (first | (with_reducible first | exact HB.out | apply bA | apply bN | apply b1 | refine bS ?_ GE297.out | refine bS ?_ GE303.out) | exact HB.out)) hb)
           clear HO_3
           clear BK297
           clear BK303
           clear HB
           have HO_3 := n0_
           have BK297 := n1_
           have BK303 := n2_
           have HB := n3_
           clear n0_ n1_ n2_ n3_
           (try clear hb)
           (try clear hb2)
           (try clear hk)
           (try clear hi)
           refine hK.out _ _ ⟨(kC BK297.out 0).trans rfl, (kC BK297.out 1).trans rfl, (kC BK297.out 2).trans rfl, (kC BK297.out 3).trans rfl, (kC BK303.out 0).trans rfl, (kC BK303.out 1).trans rfl, (kC BK303.out 2).trans rfl, (kC BK303.out 3).trans rfl, (kC BK303.out 4).trans rfl⟩ (fun hHeld => ?_)
           clear hK K
           refine norm_ (a' := ?_) ?_ ?_
           rotate_left
           ·show Act.put _ (some 29) _ = _
            simp only [Act.put, sA, sZ, sS, i64_w, i32_w]
            rfl
           refine pure_ (i := 11) (N := some 30) (v := ?_) (a' := ?_) #[true, true, true, true, true, true, true, true, true, true, true, true, false, false, false] rfl rfl (any_of HT_.out (by kernel_rfl)) (fun _ _ _ h => h) (Or.inl ⟨by rfl, ?_⟩) ?_ ?_
           rotate_left
           ·intro w'
            go_simp
            with_reducible rfl
           rotate_left
           ·simp only [Act.put, sA, sZ, sS, i64_w, i32_w]
            rfl
           refine one_ (i := 12) (N := some 31) #[true, true, true, true, true, true, true, true, true, true, true, true, true, false, false] rfl rfl (one_of HT_.out (by kernel_rfl)) (by decide) (fun K hK => ?_)
           refine value_ (w1 := ?_) (v := ?_) (by rfl) rfl ?_ ?_
           rotate_left 2
           ·go_simp
            constructor
            ·rfl
            ·rfl
           refine hK.out _ _ ⟨(kC (kA BK297.out _) 0).trans rfl, (kC (kA BK297.out _) 1).trans rfl, (kC (kA BK297.out _) 2).trans rfl, (kC (kA BK297.out _) 3).trans rfl, (kC (kA BK303.out _) 0).trans rfl, (kC (kA BK303.out _) 1).trans rfl, (kC (kA BK303.out _) 2).trans rfl, (kC (kA BK303.out _) 3).trans rfl, (kC (kA BK303.out _) 4).trans rfl⟩ (fun hHeld => ?_)
           clear hK K
           refine norm_ (a' := ?_) ?_ ?_
           rotate_left
           ·show Act.put _ (some 31) _ = _
            simp only [Act.put, sA, sZ, sS, i64_w, i32_w]
            rfl
           refine one_ (i := 13) (N := some 32) #[true, true, true, true, true, true, true, true, true, true, true, true, true, true, false] rfl rfl (one_of HT_.out (by kernel_rfl)) (by decide) (fun K hK => ?_)
           refine Kd.R_append_step k117 (w0 := w) w.heap.size (by rfl) (.tmp 19) (.tmp 31) 28 117 (.agg #[(.string ⟨#[]⟩), (.string ⟨#[]⟩), (.bool false)]) 40 rfl Try.underlying28 info117 rfl (by decide) (by omega) u3 x3_1 (⟨(((⟨#[112]⟩ : ByteArray) ++ t304) ++ (⟨#[46]⟩ : ByteArray)) ++ t305, t306, false⟩ : S117) [.string ((((⟨#[112]⟩ : ByteArray) ++ t304) ++ (⟨#[46]⟩ : ByteArray)) ++ t305), .string t306, .bool false] (fun _ => True) (fun _ => False) rfl rfl ?aP (fun _ hk => hk.elim) ?aF ?aO ?aB ?aS ?aL ?_
           (case aP => exact k117_mkM _ _ _ (⟨(((⟨#[112]⟩ : ByteArray) ++ t304) ++ (⟨#[46]⟩ : ByteArray)) ++ t305, t306, false⟩ : S117))
           (case aB => exact (by repeat (first | (with_reducible first | exact HB.out | apply bA | apply bN | apply b1 | refine bS ?_ GE297.out | refine bS ?_ GE303.out) | exact HB.out)))
           (case aF => exact (fun _ _ => trivial))
           (case aO => exact (by (with_reducible repeat (first | apply Kd.R_alloc | apply Kd.R_drewN | apply Kd.R_drew)); exact HO_3.out))
           (case aS => exact (below_size (by repeat (first | (with_reducible first | exact HB.out | apply bA | apply bN | apply b1 | refine bS ?_ GE297.out | refine bS ?_ GE303.out) | exact HB.out))))
           (case aL => have := LMc19.out; omega)
           intro v308 w28 ho hb hg hat
           rw [← Ny307.out] at ho
           have n0_ := AM (blk_grown (g := gb297) (o := .cells #[.int .i64 a0_0, .int .i64 a0_1, .int .i64 a0_2, .slice (some ad302) l0_3.length c0_3] 33 (0, 0)) (by (with_reducible repeat (first | refine kN ?_ _ | refine blk_drew ?_ | refine kA ?_ _)); exact BK297.out) hg (Kd.R_ne HO_3.out BK297.out (by decide)))
           have n1_ := AM (blk_grown (g := gb303) (o := .cells #[.int .i64 ((rd_T113 l0_3 x14_1).f0), .string ((rd_T113 l0_3 x14_1).f1), .string ((rd_T113 l0_3 x14_1).f2), .string ((rd_T113 l0_3 x14_1).f3.f0), .string ((rd_T113 l0_3 x14_1).f3.f1)] 113 (0, 0)) (by (with_reducible repeat (first | refine kN ?_ _ | refine blk_drew ?_ | refine kA ?_ _)); exact BK303.out) hg (Kd.R_ne HO_3.out BK303.out (by decide)))
           have n2_ := AM (hb)
           have n3_ := AM (ho)
           clear BK297
           clear BK303
           clear HB
           clear HO_3
           have BK297 := n0_
           have BK303 := n1_
           have HB := n2_
           have HO309 := n3_
           clear n0_ n1_ n2_ n3_
           clear ho hb hg hat
           refine hK.out _ _ ⟨(kC BK297.out 0).trans rfl, (kC BK297.out 1).trans rfl, (kC BK297.out 2).trans rfl, (kC BK297.out 3).trans rfl, (kC BK303.out 0).trans rfl, (kC BK303.out 1).trans rfl, (kC BK303.out 2).trans rfl, (kC BK303.out 3).trans rfl, (kC BK303.out 4).trans rfl⟩ (fun hHeld => ?_)
           clear hK K
           refine norm_ (a' := ?_) ?_ ?_
           rotate_left
           ·show Act.put _ (some 32) _ = _
            simp only [Act.put, sA, sZ, sS, i64_w, i32_w]
            rfl
           refine pure_ (i := 14) (N := some 3) (v := ?_) (a' := ?_) #[true, true, true, true, true, true, true, true, true, true, true, true, true, true, true] rfl rfl (any_of HT_.out (by kernel_rfl)) (fun _ _ _ h => h) (Or.inl ⟨by rfl, ?_⟩) ?_ ?_
           rotate_left
           ·intro w'
            go_simp
            with_reducible rfl
           rotate_left
           ·simp only [Act.put, sA, sZ, sS, i64_w, i32_w]
            rfl
           refine done_ (done_of HT_.out (by kernel_rfl)) ?_
           try go_wp2
           go_roundg k1
           case measure => have := HK1.out; omega
           case rel => exact ⟨(y307), (wrap64 (x14_1 + 1)), (by first | rfl | (simp; done) | (simp [*]; done) | (simp [bne_nil_]; done) | (simp [*, bne_nil_]; done)), H', ⟨by have := HK1.out; omega⟩, ⟨by (with_reducible repeat (first | apply Kd.R_alloc | apply Kd.R_drewN | apply Kd.R_drew)); exact HO309.out⟩, ⟨by (with_reducible repeat (first | refine kN ?_ _ | refine blk_drew ?_ | refine kA ?_ _)); exact BK297.out⟩, ⟨by repeat (first | (with_reducible first | exact HB.out | apply bA | apply bN | apply b1 | refine bS ?_ GE297.out | refine bS ?_ GE303.out) | exact HB.out)⟩⟩
          ·rw [if_neg c19] at H
           exact absurd H (by simp)
         ·rw [if_neg c17] at H
          exact absurd H (by simp)
        ·rw [if_neg c15] at H
         exact absurd H (by simp)
       ·rw [if_neg c14] at H
        exact absurd H (by simp)
      ·rw [if_neg c12] at H
       exact absurd H (by simp)
     ·rw [if_neg c11] at H
      exact absurd H (by simp)
    ·rw [if_neg c10] at H
     have c10b0 : decide (x14_1 < (l0_3.length : Int)) = false := decide_eq_false c10
     clear c10
     replace H := Option.bind_eq_some_iff.mp H
     obtain ⟨t310, A290, H⟩ := H
     replace H : (if 1 + t310.size ≤ 9223372036854775807 then ((impl_TxText.f k1 a0_0 a0_1 a0_2).bind fun t311 => (if x3_1.length < 3518437208883 then (some (x3_1 ++ [(⟨(⟨#[104]⟩ : ByteArray) ++ t310, t311, false⟩ : S117)])) else (none))) else (none)) = some r := H
     have A29 := AM A290
     clear A290
     by_cases c30 : 1 + t310.size ≤ 9223372036854775807
     ·rw [if_pos c30] at H
      have c30b0 := eq_true c30
      have c30b1 : decide (1 + t310.size ≤ 9223372036854775807) = true := decide_eq_true c30
      try have c30b2 : (9223372036854775807 < 1 + t310.size) = False := eq_false (Nat.not_lt.2 c30)
      replace H := Option.bind_eq_some_iff.mp H
      obtain ⟨t311, A310, H⟩ := H
      replace H : (if x3_1.length < 3518437208883 then (some (x3_1 ++ [(⟨(⟨#[104]⟩ : ByteArray) ++ t310, t311, false⟩ : S117)])) else (none)) = some r := H
      have A31 := AM A310
      clear A310
      by_cases c32 : x3_1.length < 3518437208883
      ·rw [if_pos c32] at H
       have LMc32 := AM c32
       clear c32
       obtain ⟨y312, hy312⟩ : ∃ y_ : List (S117), y_ = (x3_1 ++ [(⟨(⟨#[104]⟩ : ByteArray) ++ t310, t311, false⟩ : S117)]) := ⟨_, rfl⟩
       replace H : (some y312) = some r := by first | (rw [hy312]; with_reducible exact H) | (have H2_ := (Option.bind_some _ _).symm.trans H; rw [hy312]; with_reducible exact H2_) | (have H2_ := (Option.bind_some _ _).symm.trans H; with_reducible exact H2_) | with_reducible exact H | (rw [hy312]; exact H) | exact H
       have Ny312 := AM hy312
       clear hy312
       obtain rfl := Option.some.inj H
       try go_wp2
       have n0_ := AM (Kd.R_drew HO_3.out)
       have n1_ := AM (blk_drew BK297.out)
       have n2_ := AM (b1 HB.out)
       clear HO_3
       clear BK297
       clear HB
       have HO_3 := n0_
       have BK297 := n1_
       have HB := n2_
       clear n0_ n1_ n2_
       refine start_ (n := 13) (S := fun w' => w'.cell? ⟨gb297, 0, none⟩ = some (.int .i64 a0_0) ∧ w'.cell? ⟨gb297, 1, none⟩ = some (.int .i64 a0_1) ∧ w'.cell? ⟨gb297, 2, none⟩ = some (.int .i64 a0_2) ∧ w'.cell? ⟨gb297, 3, none⟩ = some (.slice A0_3 l0_3.length c0_3)) (ds := []) #[false, false, false, false, false, false, false, false, false, false, false, false, false] (by kernel_rfl) rfl rfl ⟨(kC BK297.out 0).trans rfl, (kC BK297.out 1).trans rfl, (kC BK297.out 2).trans rfl, (kC BK297.out 3).trans rfl⟩ (fun hHeld => ?_); refine with_tabW impl_PrepEdits.tab9 impl_PrepEdits.bits9 (fun HT_ HW_ => ?_)
       generalize wr.drew = w33 at HO_3 BK297 HB hHeld ⊢
       refine pure_ (i := 0) (N := some 34) (v := ?_) (a' := ?_) #[true, false, false, false, false, false, false, false, false, false, false, false, false] rfl rfl (any_of HT_.out (by kernel_rfl)) (fun _ _ _ h => h) (Or.inl ⟨by rfl, ?_⟩) ?_ ?_
       rotate_left
       ·intro w'
        go_simp
        with_reducible rfl
       rotate_left
       ·simp only [Act.put, sA, sZ, sS, i64_w, i32_w]
        rfl
       refine pure_ (i := 1) (N := some 35) (v := ?_) (a' := ?_) #[true, true, false, false, false, false, false, false, false, false, false, false, false] rfl rfl (any_of HT_.out (by kernel_rfl)) (fun _ _ _ h => h) (Or.inl ⟨by rfl, ?_⟩) ?_ ?_
       rotate_left
       ·intro w'
        go_simp
        with_reducible rfl
       rotate_left
       ·simp only [Act.put, sA, sZ, sS, i64_w, i32_w]
        rfl
       refine pure_ (i := 2) (N := some 36) (v := ?_) (a' := ?_) #[true, true, true, false, false, false, false, false, false, false, false, false, false] rfl rfl (any_of HT_.out (by kernel_rfl)) (fun _ _ _ h => h) (Or.inl ⟨by rfl, ?_⟩) ?_ ?_
       rotate_left
       ·intro w'
        go_simp
        with_reducible rfl
       rotate_left
       ·simp only [Act.put, sA, sZ, sS, i64_w, i32_w]
        rfl
       refine pure_ (i := 6) (N := some 40) (v := ?_) (a' := ?_) #[true, true, true, false, false, false, true, false, false, false, false, false, false] rfl rfl (any_of HT_.out (by kernel_rfl)) (fun _ _ _ h => h) (Or.inl ⟨by rfl, ?_⟩) ?_ ?_
       rotate_left
       ·intro w'
        go_simp
        with_reducible rfl
       rotate_left
       ·simp only [Act.put, sA, sZ, sS, i64_w, i32_w]
        rfl
       refine take_ (i := 3) (N := some 37) (v := ?_) (a' := ?_) #[true, true, true, true, false, false, true, false, false, false, false, false, false] rfl rfl (take_ofW HT_.out HW_.out (by kernel_rfl)) (fun _ _ _ h => h) (Or.inl ⟨by rfl, ?_⟩) hHeld ?_ ?_
       rotate_left
       ·rintro w' ⟨s0, s1, s2, s3⟩
        go_simp
        with_reducible rfl
       rotate_left
       ·simp only [Act.put, sA, sZ, sS, i64_w, i32_w]
        rfl
       refine take_ (i := 7) (N := some 41) (v := ?_) (a' := ?_) #[true, true, true, true, false, false, true, true, false, false, false, false, false] rfl rfl (take_ofW HT_.out HW_.out (by kernel_rfl)) (fun _ _ _ h => h) (Or.inl ⟨by rfl, ?_⟩) hHeld ?_ ?_
       rotate_left
       ·rintro w' ⟨s0, s1, s2, s3⟩
        go_simp
        with_reducible rfl
       rotate_left
       ·simp only [Act.put, sA, sZ, sS, i64_w, i32_w]
        rfl
       refine one_ (i := 4) (N := some 38) #[true, true, true, true, true, false, true, true, false, false, false, false, false] rfl rfl (one_of HT_.out (by kernel_rfl)) (by decide) (fun K hK => ?_)
       refine goes_ Try.func84 (by kernel_rfl) rfl #[.int .i64 a0_0] (by rfl) rfl rfl (by (try simp only [mA, mC, mN]); first | done | rfl | (simp only [List.length_drop, List.length_take]; rfl)) ?_
       with_reducible refine (impl_NumText.calls k1 a0_0 t310 _ A29.out).mono ?_
       rintro e w34 ⟨rfl, hb⟩
       refine ⟨_, rfl, ?_⟩
       have n0_ := AM (Kd.R_below (by (with_reducible repeat (first | apply Kd.R_alloc | apply Kd.R_drewN | apply Kd.R_drew)); exact HO_3.out) hb)
       have n1_ := AM (kB (g := gb297) (o := .cells #[.int .i64 a0_0, .int .i64 a0_1, .int .i64 a0_2, .slice A0_3 l0_3.length c0_3] 33 (0, 0)) (by (with_reducible repeat (first | refine kN ?_ _ | refine blk_drew ?_ | refine kA ?_ _)); exact BK297.out) hb)
       have n2_ := AM (bP (by repeat (first | (with_reducible first | exact HB.out | apply bA | apply bN | apply b1 | refine bS ?_ GE297.out) | exact HB.out)) hb)
       clear HO_3
       clear BK297
       clear HB
       have HO_3 := n0_
       have BK297 := n1_
       have HB := n2_
       clear n0_ n1_ n2_
       (try clear hb)
       (try clear hb2)
       (try clear hk)
       (try clear hi)
       refine hK.out _ _ ⟨(kC BK297.out 0).trans rfl, (kC BK297.out 1).trans rfl, (kC BK297.out 2).trans rfl, (kC BK297.out 3).trans rfl⟩ (fun hHeld => ?_)
       clear hK K
       refine norm_ (a' := ?_) ?_ ?_
       rotate_left
       ·show Act.put _ (some 38) _ = _
        simp only [Act.put, sA, sZ, sS, i64_w, i32_w]
        rfl
       refine pure_ (i := 5) (N := some 39) (v := ?_) (a' := ?_) #[true, true, true, true, true, true, true, true, false, false, false, false, false] rfl rfl (any_of HT_.out (by kernel_rfl)) (fun _ _ _ h => h) (Or.inl ⟨by rfl, ?_⟩) ?_ ?_
       rotate_left
       ·intro w'
        go_simp
        with_reducible rfl
       rotate_left
       ·simp only [Act.put, sA, sZ, sS, i64_w, i32_w]
        rfl
       refine one_ (i := 8) (N := some 42) #[true, true, true, true, true, true, true, true, true, false, false, false, false] rfl rfl (one_of HT_.out (by kernel_rfl)) (by decide) (fun K hK => ?_)
       refine goes_ Try.func83 (by kernel_rfl) rfl #[.agg #[.int .i64 a0_0, .int .i64 a0_1, .int .i64 a0_2]] (by rfl) rfl rfl (by (try simp only [mA, mC, mN]); first | done | rfl | (simp only [List.length_drop, List.length_take]; rfl)) ?_
       with_reducible refine (impl_TxText.calls k1 a0_0 a0_1 a0_2 t311 _ A31.out).mono ?_
       rintro e w35 ⟨rfl, hb⟩
       refine ⟨_, rfl, ?_⟩
       have n0_ := AM (Kd.R_below (by (with_reducible repeat (first | apply Kd.R_alloc | apply Kd.R_drewN | apply Kd.R_drew)); exact HO_3.out) hb)
       have n1_ := AM (kB (g := gb297) (o := .cells #[.int .i64 a0_0, .int .i64 a0_1, .int .i64 a0_2, .slice A0_3 l0_3.length c0_3] 33 (0, 0)) (by (with_reducible repeat (first | refine kN ?_ _ | refine blk_drew ?_ | refine kA ?_ _)); exact BK297.out) hb)
       have n2_ := AM (bP (by repeat (first | (with_reducible first | exact HB.out | apply bA | apply bN | apply b1 | refine bS ?_ GE297.out) | exact HB.out)) hb)
       clear HO_3
       clear BK297
       clear HB
       have HO_3 := n0_
       have BK297 := n1_
       have HB := n2_
       clear n0_ n1_ n2_
       (try clear hb)
       (try clear hb2)
       (try clear hk)
       (try clear hi)
       refine hK.out _ _ ⟨(kC BK297.out 0).trans rfl, (kC BK297.out 1).trans rfl, (kC BK297.out 2).trans rfl, (kC BK297.out 3).trans rfl⟩ (fun hHeld => ?_)
       clear hK K
       refine norm_ (a' := ?_) ?_ ?_
       rotate_left
       ·show Act.put _ (some 42) _ = _
        simp only [Act.put, sA, sZ, sS, i64_w, i32_w]
        rfl
       refine pure_ (i := 9) (N := some 43) (v := ?_) (a' := ?_) #[true, true, true, true, true, true, true, true, true, true, false, false, false] rfl rfl (any_of HT_.out (by kernel_rfl)) (fun _ _ _ h => h) (Or.inl ⟨by rfl, ?_⟩) ?_ ?_
       rotate_left
       ·intro w'
        go_simp
        with_reducible rfl
       rotate_left
       ·simp only [Act.put, sA, sZ, sS, i64_w, i32_w]
        rfl
       refine one_ (i := 10) (N := some 44) #[true, true, true, true, true, true, true, true, true, true, true, false, false] rfl rfl (one_of HT_.out (by kernel_rfl)) (by decide) (fun K hK => ?_)
       refine value_ (w1 := ?_) (v := ?_) (by rfl) rfl ?_ ?_
       rotate_left 2
       ·go_simp
        constructor
        ·rfl
        ·rfl
       refine hK.out _ _ ⟨(kC (kA BK297.out _) 0).trans rfl, (kC (kA BK297.out _) 1).trans rfl, (kC (kA BK297.out _) 2).trans rfl, (kC (kA BK297.out _) 3).trans rfl⟩ (fun hHeld => ?_)
       clear hK K
       refine norm_ (a' := ?_) ?_ ?_
       rotate_left
       ·show Act.put _ (some 44) _ = _
        simp only [Act.put, sA, sZ, sS, i64_w, i32_w]
        rfl
       refine one_ (i := 11) (N := some 45) #[true, true, true, true, true, true, true, true, true, true, true, true, false] rfl rfl (one_of HT_.out (by kernel_rfl)) (by decide) (fun K hK => ?_)
       refine Kd.R_append_step k117 (w0 := w) w.heap.size (by rfl) (.tmp 34) (.tmp 44) 28 117 (.agg #[(.string ⟨#[]⟩), (.string ⟨#[]⟩), (.bool false)]) 40 rfl Try.underlying28 info117 rfl (by decide) (by omega) u3 x3_1 (⟨(⟨#[104]⟩ : ByteArray) ++ t310, t311, false⟩ : S117) [.string ((⟨#[104]⟩ : ByteArray) ++ t310), .string t311, .bool false] (fun _ => True) (fun _ => False) rfl rfl ?aP (fun _ hk => hk.elim) ?aF ?aO ?aB ?aS ?aL ?_
       (case aP => exact k117_mkM _ _ _ (⟨(⟨#[104]⟩ : ByteArray) ++ t310, t311, false⟩ : S117))
       (case aB => exact (by repeat (first | (with_reducible first | exact HB.out | apply bA | apply bN | apply b1 | refine bS ?_ GE297.out) | exact HB.out)))
       (case aF => exact (fun _ _ => trivial))
       (case aO => exact (by (with_reducible repeat (first | apply Kd.R_alloc | apply Kd.R_drewN | apply Kd.R_drew)); exact HO_3.out))
       (case aS => exact (below_size (by repeat (first | (with_reducible first | exact HB.out | apply bA | apply bN | apply b1 | refine bS ?_ GE297.out) | exact HB.out))))
       (case aL => have := LMc32.out; omega)
       intro v313 w36 ho hb hg hat
       rw [← Ny312.out] at ho
       have n0_ := AM (blk_grown (g := gb297) (o := .cells #[.int .i64 a0_0, .int .i64 a0_1, .int .i64 a0_2, .slice A0_3 l0_3.length c0_3] 33 (0, 0)) (by (with_reducible repeat (first | refine kN ?_ _ | refine blk_drew ?_ | refine kA ?_ _)); exact BK297.out) hg (Kd.R_ne HO_3.out BK297.out (by decide)))
       have n1_ := AM (hb)
       have n2_ := AM (ho)
       clear BK297
       clear HB
       clear HO_3
       have BK297 := n0_
       have HB := n1_
       have HO314 := n2_
       clear n0_ n1_ n2_
       clear ho hb hg hat
       refine hK.out _ _ ⟨(kC BK297.out 0).trans rfl, (kC BK297.out 1).trans rfl, (kC BK297.out 2).trans rfl, (kC BK297.out 3).trans rfl⟩ (fun hHeld => ?_)
       clear hK K
       refine norm_ (a' := ?_) ?_ ?_
       rotate_left
       ·show Act.put _ (some 45) _ = _
        simp only [Act.put, sA, sZ, sS, i64_w, i32_w]
        rfl
       refine pure_ (i := 12) (N := some 2) (v := ?_) (a' := ?_) #[true, true, true, true, true, true, true, true, true, true, true, true, true] rfl rfl (any_of HT_.out (by kernel_rfl)) (fun _ _ _ h => h) (Or.inl ⟨by rfl, ?_⟩) ?_ ?_
       rotate_left
       ·intro w'
        go_simp
        with_reducible rfl
       rotate_left
       ·simp only [Act.put, sA, sZ, sS, i64_w, i32_w]
        rfl
       refine done_ (done_of HT_.out (by kernel_rfl)) ?_
       try go_wp2
       go_ret
       exact ⟨_, by first | rfl | (simp [errW_none, errW_some] <;> rfl) | (simp [*, errW_none, errW_some] <;> rfl), by (with_reducible repeat (first | apply Kd.R_alloc | apply Kd.R_drewN | apply Kd.R_drew)); exact HO314.out, by repeat (first | (with_reducible first | exact HB.out | apply bA | apply bN | apply b1 | refine bS ?_ GE297.out) | exact HB.out)⟩
      ·rw [if_neg c32] at H
       exact absurd H (by simp)
     ·rw [if_neg c30] at H
      exact absurd H (by simp)
 ·replace c3 := Bool.eq_false_iff.mpr c3
  subst c3
  have H1 : (some y298) = some r := by rw [if_neg (show ¬ (false = true) by decide)] at H; exact H
  clear H
  have H := H1
  clear H1
  obtain rfl := Option.some.inj H
  go_enter Try.func18, Try.ntmps18
  go_wp2_with (first | ((with_reducible refine gate_dst (N := 1) rfl ?_); refine box_event ?hg (N := 1) ?hd (cs := #[.int .i64 a0_0, .int .i64 a0_1, .int .i64 a0_2, .slice A0_3 l0_3.length c0_3]) (t := 33) ?hr ?_; (case hd => rfl); (case hg => rfl); (case hr => first | (go_simp; done) | (go_simp; rfl)); intro gb297 hg w37 hbox hb; have n0_ := AM (bP (by repeat (first | (with_reducible first | exact HB.out | apply bA | apply bN | apply b1) | exact HB.out)) hb); have n1_ := AM (hbox); have n2_ := AM ((by rw [hg]; exact (below_size (by repeat (first | (with_reducible first | exact HB.out | apply bA | apply bN | apply b1) | exact HB.out))) : w.heap.size ≤ gb297)); have n3_ := AM ((by rw [hg]; exact (below_size (by repeat (first | (with_reducible first | exact HB.out | apply bA | apply bN | apply b1) | exact HB.out))) : w.heap.size ≤ gb297)); clear HB; have HB := n0_; have BK297 := n1_; have GW297 := n2_; have GE297 := n3_; clear n0_ n1_ n2_ n3_; clear hb hbox hg) | ((with_reducible refine gate_dst (N := 6) rfl ?_); refine Kd.R_lit k117 _ 117 ?hg (N := 6) ?hd (xs := ([] : List (S117))) (inner := []) (ok := fun _ => True) (okp := fun _ => True) ?hr ?hp (fun _ hk => hk) trivial (Below.refl _ _) (Nat.le_refl _) (by simp) ?_; (case hd => rfl); (case hg => rfl); (case hr => first | (go_simp; done) | (go_simp; rfl)); (case hp => exact (Reps.none _ _)); intro v299 w38 ho39 hb hg_ hnew_; clear hg_ hnew_; (first | rw [← Ny298.out] at ho39 | (simp only [Int.reduceToNat] at ho39; rw [← Ny298.out] at ho39)); have n0_ := AM (Kd.R_lower ho39 (below_size (by repeat (first | (with_reducible first | exact HB.out | apply bA | apply bN | apply b1 | refine bS ?_ GE297.out) | exact HB.out)))); have n1_ := AM (kB (g := gb297) (o := .cells #[.int .i64 a0_0, .int .i64 a0_1, .int .i64 a0_2, .slice A0_3 l0_3.length c0_3] 33 (0, 0)) (by (with_reducible repeat (first | refine kN ?_ _ | refine blk_drew ?_ | refine kA ?_ _)); exact BK297.out) hb); have n2_ := AM (bP (by repeat (first | (with_reducible first | exact HB.out | apply bA | apply bN | apply b1 | refine bS ?_ GE297.out) | exact HB.out)) hb); clear BK297; clear HB; have HO300 := n0_; have BK297 := n1_; have HB := n2_; clear n0_ n1_ n2_; clear hb ho39; have hcz40_0 : w38.cell? ⟨gb297, 0, none⟩ = some (.int .i64 a0_0) := (kC BK297.out 0).trans rfl; have hcz40_1 : w38.cell? ⟨gb297, 1, none⟩ = some (.int .i64 a0_1) := (kC BK297.out 1).trans rfl; have hcz40_2 : w38.cell? ⟨gb297, 2, none⟩ = some (.int .i64 a0_2) := (kC BK297.out 2).trans rfl; have hcz40_3 : w38.cell? ⟨gb297, 3, none⟩ = some (.slice A0_3 l0_3.length c0_3) := (kC BK297.out 3).trans rfl; have hfz40_0 := kF BK297.out 0; have hfz40_1 := kF BK297.out 1; have hfz40_2 := kF BK297.out 2; have hfz40_3 := kF BK297.out 3) | ((with_reducible refine gate_callee (f := 82) rfl ?_); refine goesL_ (some 8) rfl rfl Try.func82 (by kernel_rfl) rfl #[.agg #[.int .i64 a0_0, .int .i64 a0_1, .int .i64 a0_2, .slice A0_3 l0_3.length c0_3]] rfl (by (try simp only [mA, mC, mN]); first | done | rfl | (simp only [List.length_drop, List.length_take]; rfl)) ?_; (with_reducible refine (impl_PrepOk.calls a0_0 a0_1 a0_2 _ _ l0_3 false _ ?side1 ?side2 A2.out).mono ?_); (case side1 => repeat (first | exact (Kd.C_below HR0_3.out HB.out) | (with_reducible refine Kd.C_alloc ?_ _) | (with_reducible refine Kd.C_drewN ?_ _) | (with_reducible refine Kd.C_drew ?_))); (case side2 => exact HC0_3.out); rintro e w41 ⟨rfl, hb⟩; refine ⟨_, rfl, ?_⟩; have n0_ := AM (Kd.R_below (by (with_reducible repeat (first | apply Kd.R_alloc | apply Kd.R_drewN | apply Kd.R_drew)); exact HO300.out) hb); have n1_ := AM (kB (g := gb297) (o := .cells #[.int .i64 a0_0, .int .i64 a0_1, .int .i64 a0_2, .slice A0_3 l0_3.length c0_3] 33 (0, 0)) (by (with_reducible repeat (first | refine kN ?_ _ | refine blk_drew ?_ | refine kA ?_ _)); exact BK297.out) hb); have n2_ := AM (bP (by repeat (first | (with_reducible first | exact HB.out | apply bA | apply bN | apply b1 | refine bS ?_ GE297.out) | exact HB.out)) hb); clear HO300; clear BK297; clear HB; have HO300 := n0_; have BK297 := n1_; have HB := n2_; clear n0_ n1_ n2_; (try clear hb); (try clear hb2); (try clear hk); (try clear hi)))
  go_ret
  exact ⟨_, by first | rfl | (simp [errW_none, errW_some] <;> rfl) | (simp [*, errW_none, errW_some] <;> rfl), by (with_reducible repeat (first | apply Kd.R_alloc | apply Kd.R_drewN | apply Kd.R_drew)); exact HO300.out, by repeat (first | (with_reducible first | exact HB.out | apply bA | apply bN | apply b1 | refine bS ?_ GE297.out) | exact HB.out)⟩

/-! ### laws_eqEdit: function 86 -/
def laws_eqEdit.f (a0_0 : ByteArray) (a0_1 : ByteArray) (a0_2 : Bool) (a1_0 : ByteArray) (a1_1 : ByteArray) (a1_2 : Bool) : Option (Bool) := if a0_0.toList = a1_0.toList then (if a0_1.toList = a1_1.toList then (if (a0_2 != a1_2) = true then (some false) else (some true)) else (some false)) else (some false)
set_option maxHeartbeats 8000000 in
set_option maxRecDepth 100000 in
theorem laws_eqEdit.calls (a0_0 : ByteArray) (a0_1 : ByteArray) (a0_2 : Bool) (a1_0 : ByteArray) (a1_1 : ByteArray) (a1_2 : Bool) (r : Bool) (w : World) (h : laws_eqEdit.f a0_0 a0_1 a0_2 a1_0 a1_1 a1_2 = some r) :
  Calls Try.prog 86 #[.agg #[.string a0_0, .string a0_1, .bool a0_2], .agg #[.string a1_0, .string a1_1, .bool a1_2]] w fun e w' => e = .returned (.bool r) ∧ Below w.heap.size w w' := by
 have hu117 := Try.underlying117
 have HB := AM (Below.refl w.heap.size w)
 have H : (if a0_0.toList = a1_0.toList then (if a0_1.toList = a1_1.toList then (if (a0_2 != a1_2) = true then (some false) else (some true)) else (some false)) else (some false)) = some r := h
 clear h
 by_cases c3 : a0_0.toList = a1_0.toList
 ·rw [if_pos c3] at H
  have c3b0 : (a0_0.toList == a1_0.toList) = true := beq_iff_eq.mpr c3
  have c3b1 : (a0_0.toList != a1_0.toList) = false := bne_eq_false_iff_eq.mpr c3
  clear c3
  by_cases c4 : a0_1.toList = a1_1.toList
  ·rw [if_pos c4] at H
   have c4b0 : (a0_1.toList == a1_1.toList) = true := beq_iff_eq.mpr c4
   have c4b1 : (a0_1.toList != a1_1.toList) = false := bne_eq_false_iff_eq.mpr c4
   clear c4
   by_cases c5 : (a0_2 != a1_2) = true
   ·rw [if_pos c5] at H
    have c5b0 : (a0_2 != a1_2) = true := c5
    (try (have c5b1 : decide (a0_2 = a1_2) = false := by simpa using c5))
    (try (have c5b2 : (a0_2 == a1_2) = false := by simpa using c5))
    (try (have c5b3 : ¬ (a0_2 = a1_2) := by simpa using c5))
    clear c5
    obtain rfl := Option.some.inj H
    go_enter Try.func86, Try.ntmps86
    go_wp2_with (first | ((with_reducible refine gate_dst (N := 2) rfl ?_); refine box_event ?hg (N := 2) ?hd (cs := #[.string a0_0, .string a0_1, .bool a0_2]) (t := 117) ?hr ?_; (case hd => rfl); (case hg => rfl); (case hr => first | (go_simp; done) | (go_simp; rfl)); intro gb315 hg w6 hbox hb; have n0_ := AM (bP (by repeat (first | (with_reducible first | exact HB.out | apply bA | apply bN | apply b1) | exact HB.out)) hb); have n1_ := AM (hbox); have n2_ := AM ((by rw [hg]; exact (below_size (by repeat (first | (with_reducible first | exact HB.out | apply bA | apply bN | apply b1) | exact HB.out))) : w.heap.size ≤ gb315)); have n3_ := AM ((by rw [hg]; exact (below_size (by repeat (first | (with_reducible first | exact HB.out | apply bA | apply bN | apply b1) | exact HB.out))) : w.heap.size ≤ gb315)); clear HB; have HB := n0_; have BK315 := n1_; have GW315 := n2_; have GE315 := n3_; clear n0_ n1_ n2_ n3_; clear hb hbox hg) | ((with_reducible refine gate_dst (N := 3) rfl ?_); refine box_event ?hg (N := 3) ?hd (cs := #[.string a1_0, .string a1_1, .bool a1_2]) (t := 117) ?hr ?_; (case hd => rfl); (case hg => rfl); (case hr => first | (go_simp; done) | (go_simp; rfl)); intro gb316 hg w7 hbox hb; have n0_ := AM (kB (g := gb315) (o := .cells #[.string a0_0, .string a0_1, .bool a0_2] 117 (0, 0)) (by (with_reducible repeat (first | refine kN ?_ _ | refine blk_drew ?_ | refine kA ?_ _)); exact BK315.out) hb); have n1_ := AM (bP (by repeat (first | (with_reducible first | exact HB.out | apply bA | apply bN | apply b1 | refine bS ?_ GE315.out) | exact HB.out)) hb); have n2_ := AM (hbox); have n3_ := AM ((by rw [hg]; exact (below_size (by repeat (first | (with_reducible first | exact HB.out | apply bA | apply bN | apply b1 | refine bS ?_ GE315.out) | exact HB.out))) : w.heap.size ≤ gb316)); have n4_ := AM ((by rw [hg]; exact (below_size (by repeat (first | (with_reducible first | exact HB.out | apply bA | apply bN | apply b1 | refine bS ?_ GE315.out) | exact HB.out))) : w.heap.size ≤ gb316)); have n5_ := AM ((by rw [hg]; exact Nat.ne_of_lt (blk_lt (g := gb315) (o := .cells #[.string a0_0, .string a0_1, .bool a0_2] 117 (0, 0)) (by (with_reducible repeat (first | refine kN ?_ _ | refine blk_drew ?_ | refine kA ?_ _)); exact BK315.out)) : gb315 ≠ gb316)); have n6_ := AM ((by rw [hg]; exact Nat.ne_of_gt (blk_lt (g := gb315) (o := .cells #[.string a0_0, .string a0_1, .bool a0_2] 117 (0, 0)) (by (with_reducible repeat (first | refine kN ?_ _ | refine blk_drew ?_ | refine kA ?_ _)); exact BK315.out)) : gb316 ≠ gb315)); clear BK315; clear HB; have BK315 := n0_; have HB := n1_; have BK316 := n2_; have GW316 := n3_; have GE316 := n4_; have NB315_316 := n5_; have NB316_315 := n6_; clear n0_ n1_ n2_ n3_ n4_ n5_ n6_; clear hb hbox hg; have hnb8 := NB315_316.out; have hnc8 := NB316_315.out; have hcz9_0 : w7.cell? ⟨gb315, 0, none⟩ = some (.string a0_0) := (kC BK315.out 0).trans rfl; have hcz9_1 : w7.cell? ⟨gb315, 1, none⟩ = some (.string a0_1) := (kC BK315.out 1).trans rfl; have hcz9_2 : w7.cell? ⟨gb315, 2, none⟩ = some (.bool a0_2) := (kC BK315.out 2).trans rfl; have hfz9_0 := kF BK315.out 0; have hfz9_1 := kF BK315.out 1; have hfz9_2 := kF BK315.out 2; have hcz10_0 : w7.cell? ⟨gb316, 0, none⟩ = some (.string a1_0) := (kC BK316.out 0).trans rfl; have hcz10_1 : w7.cell? ⟨gb316, 1, none⟩ = some (.string a1_1) := (kC BK316.out 1).trans rfl; have hcz10_2 : w7.cell? ⟨gb316, 2, none⟩ = some (.bool a1_2) := (kC BK316.out 2).trans rfl; have hfz10_0 := kF BK316.out 0; have hfz10_1 := kF BK316.out 1; have hfz10_2 := kF BK316.out 2))
    go_ret
    exact ⟨by first | rfl | (simp [errW_none, errW_some] <;> rfl) | (simp [*, errW_none, errW_some] <;> rfl), by repeat (first | (with_reducible first | exact HB.out | apply bA | apply bN | apply b1 | refine bS ?_ GE315.out | refine bS ?_ GE316.out) | exact HB.out)⟩
   ·rw [if_neg c5] at H
    have c5b0 : (a0_2 != a1_2) = false := by simpa using c5
    (try (have c5b1 : decide (a0_2 = a1_2) = true := by simpa using c5))
    (try (have c5b2 : (a0_2 == a1_2) = true := by simpa using c5))
    clear c5
    obtain rfl := Option.some.inj H
    go_enter Try.func86, Try.ntmps86
    go_wp2_with (first | ((with_reducible refine gate_dst (N := 2) rfl ?_); refine box_event ?hg (N := 2) ?hd (cs := #[.string a0_0, .string a0_1, .bool a0_2]) (t := 117) ?hr ?_; (case hd => rfl); (case hg => rfl); (case hr => first | (go_simp; done) | (go_simp; rfl)); intro gb315 hg w11 hbox hb; have n0_ := AM (bP (by repeat (first | (with_reducible first | exact HB.out | apply bA | apply bN | apply b1) | exact HB.out)) hb); have n1_ := AM (hbox); have n2_ := AM ((by rw [hg]; exact (below_size (by repeat (first | (with_reducible first | exact HB.out | apply bA | apply bN | apply b1) | exact HB.out))) : w.heap.size ≤ gb315)); have n3_ := AM ((by rw [hg]; exact (below_size (by repeat (first | (with_reducible first | exact HB.out | apply bA | apply bN | apply b1) | exact HB.out))) : w.heap.size ≤ gb315)); clear HB; have HB := n0_; have BK315 := n1_; have GW315 := n2_; have GE315 := n3_; clear n0_ n1_ n2_ n3_; clear hb hbox hg) | ((with_reducible refine gate_dst (N := 3) rfl ?_); refine box_event ?hg (N := 3) ?hd (cs := #[.string a1_0, .string a1_1, .bool a1_2]) (t := 117) ?hr ?_; (case hd => rfl); (case hg => rfl); (case hr => first | (go_simp; done) | (go_simp; rfl)); intro gb316 hg w12 hbox hb; have n0_ := AM (kB (g := gb315) (o := .cells #[.string a0_0, .string a0_1, .bool a0_2] 117 (0, 0)) (by (with_reducible repeat (first | refine kN ?_ _ | refine blk_drew ?_ | refine kA ?_ _)); exact BK315.out) hb); have n1_ := AM (bP (by repeat (first | (with_reducible first | exact HB.out | apply bA | apply bN | apply b1 | refine bS ?_ GE315.out) | exact HB.out)) hb); have n2_ := AM (hbox); have n3_ := AM ((by rw [hg]; exact (below_size (by repeat (first | (with_reducible first | exact HB.out | apply bA | apply bN | apply b1 | refine bS ?_ GE315.out) | exact HB.out))) : w.heap.size ≤ gb316)); have n4_ := AM ((by rw [hg]; exact (below_size (by repeat (first | (with_reducible first | exact HB.out | apply bA | apply bN | apply b1 | refine bS ?_ GE315.out) | exact HB.out))) : w.heap.size ≤ gb316)); have n5_ := AM ((by rw [hg]; exact Nat.ne_of_lt (blk_lt (g := gb315) (o := .cells #[.string a0_0, .string a0_1, .bool a0_2] 117 (0, 0)) (by (with_reducible repeat (first | refine kN ?_ _ | refine blk_drew ?_ | refine kA ?_ _)); exact BK315.out)) : gb315 ≠ gb316)); have n6_ := AM ((by rw [hg]; exact Nat.ne_of_gt (blk_lt (g := gb315) (o := .cells #[.string a0_0, .string a0_1, .bool a0_2] 117 (0, 0)) (by (with_reducible repeat (first | refine kN ?_ _ | refine blk_drew ?_ | refine kA ?_ _)); exact BK315.out)) : gb316 ≠ gb315)); clear BK315; clear HB; have BK315 := n0_; have HB := n1_; have BK316 := n2_; have GW316 := n3_; have GE316 := n4_; have NB315_316 := n5_; have NB316_315 := n6_; clear n0_ n1_ n2_ n3_ n4_ n5_ n6_; clear hb hbox hg; have hnb13 := NB315_316.out; have hnc13 := NB316_315.out; have hcz14_0 : w12.cell? ⟨gb315, 0, none⟩ = some (.string a0_0) := (kC BK315.out 0).trans rfl; have hcz14_1 : w12.cell? ⟨gb315, 1, none⟩ = some (.string a0_1) := (kC BK315.out 1).trans rfl; have hcz14_2 : w12.cell? ⟨gb315, 2, none⟩ = some (.bool a0_2) := (kC BK315.out 2).trans rfl; have hfz14_0 := kF BK315.out 0; have hfz14_1 := kF BK315.out 1; have hfz14_2 := kF BK315.out 2; have hcz15_0 : w12.cell? ⟨gb316, 0, none⟩ = some (.string a1_0) := (kC BK316.out 0).trans rfl; have hcz15_1 : w12.cell? ⟨gb316, 1, none⟩ = some (.string a1_1) := (kC BK316.out 1).trans rfl; have hcz15_2 : w12.cell? ⟨gb316, 2, none⟩ = some (.bool a1_2) := (kC BK316.out 2).trans rfl; have hfz15_0 := kF BK316.out 0; have hfz15_1 := kF BK316.out 1; have hfz15_2 := kF BK316.out 2))
    go_ret
    exact ⟨by first | rfl | (simp [errW_none, errW_some] <;> rfl) | (simp [*, errW_none, errW_some] <;> rfl), by repeat (first | (with_reducible first | exact HB.out | apply bA | apply bN | apply b1 | refine bS ?_ GE315.out | refine bS ?_ GE316.out) | exact HB.out)⟩
  ·rw [if_neg c4] at H
   have c4b0 : (a0_1.toList == a1_1.toList) = false := beq_eq_false_iff_ne.mpr c4
   have c4b1 : (a0_1.toList != a1_1.toList) = true := bne_iff_ne.mpr c4
   obtain rfl := Option.some.inj H
   go_enter Try.func86, Try.ntmps86
   go_wp2_with (first | ((with_reducible refine gate_dst (N := 2) rfl ?_); refine box_event ?hg (N := 2) ?hd (cs := #[.string a0_0, .string a0_1, .bool a0_2]) (t := 117) ?hr ?_; (case hd => rfl); (case hg => rfl); (case hr => first | (go_simp; done) | (go_simp; rfl)); intro gb315 hg w16 hbox hb; have n0_ := AM (bP (by repeat (first | (with_reducible first | exact HB.out | apply bA | apply bN | apply b1) | exact HB.out)) hb); have n1_ := AM (hbox); have n2_ := AM ((by rw [hg]; exact (below_size (by repeat (first | (with_reducible first | exact HB.out | apply bA | apply bN | apply b1) | exact HB.out))) : w.heap.size ≤ gb315)); have n3_ := AM ((by rw [hg]; exact (below_size (by repeat (first | (with_reducible first | exact HB.out | apply bA | apply bN | apply b1) | exact HB.out))) : w.heap.size ≤ gb315)); clear HB; have HB := n0_; have BK315 := n1_; have GW315 := n2_; have GE315 := n3_; clear n0_ n1_ n2_ n3_; clear hb hbox hg) | ((with_reducible refine gate_dst (N := 3) rfl ?_); refine box_event ?hg (N := 3) ?hd (cs := #[.string a1_0, .string a1_1, .bool a1_2]) (t := 117) ?hr ?_; (case hd => rfl); (case hg => rfl); (case hr => first | (go_simp; done) | (go_simp; rfl)); intro gb316 hg w17 hbox hb; have n0_ := AM (kB (g := gb315) (o := .cells #[.string a0_0, .string a0_1, .bool a0_2] 117 (0, 0)) (by (with_reducible repeat (first | refine kN ?_ _ | refine blk_drew ?_ | refine kA ?_ _)); exact BK315.out) hb); have n1_ := AM (bP (by repeat (first | (with_reducible first | exact HB.out | apply bA | apply bN | apply b1 | refine bS ?_ GE315.out) | exact HB.out)) hb); have n2_ := AM (hbox); have n3_ := AM ((by rw [hg]; exact (below_size (by repeat (first | (with_reducible first | exact HB.out | apply bA | apply bN | apply b1 | refine bS ?_ GE315.out) | exact HB.out))) : w.heap.size ≤ gb316)); have n4_ := AM ((by rw [hg]; exact (below_size (by repeat (first | (with_reducible first | exact HB.out | apply bA | apply bN | apply b1 | refine bS ?_ GE315.out) | exact HB.out))) : w.heap.size ≤ gb316)); have n5_ := AM ((by rw [hg]; exact Nat.ne_of_lt (blk_lt (g := gb315) (o := .cells #[.string a0_0, .string a0_1, .bool a0_2] 117 (0, 0)) (by (with_reducible repeat (first | refine kN ?_ _ | refine blk_drew ?_ | refine kA ?_ _)); exact BK315.out)) : gb315 ≠ gb316)); have n6_ := AM ((by rw [hg]; exact Nat.ne_of_gt (blk_lt (g := gb315) (o := .cells #[.string a0_0, .string a0_1, .bool a0_2] 117 (0, 0)) (by (with_reducible repeat (first | refine kN ?_ _ | refine blk_drew ?_ | refine kA ?_ _)); exact BK315.out)) : gb316 ≠ gb315)); clear BK315; clear HB; have BK315 := n0_; have HB := n1_; have BK316 := n2_; have GW316 := n3_; have GE316 := n4_; have NB315_316 := n5_; have NB316_315 := n6_; clear n0_ n1_ n2_ n3_ n4_ n5_ n6_; clear hb hbox hg; have hnb18 := NB315_316.out; have hnc18 := NB316_315.out; have hcz19_0 : w17.cell? ⟨gb315, 0, none⟩ = some (.string a0_0) := (kC BK315.out 0).trans rfl; have hcz19_1 : w17.cell? ⟨gb315, 1, none⟩ = some (.string a0_1) := (kC BK315.out 1).trans rfl; have hcz19_2 : w17.cell? ⟨gb315, 2, none⟩ = some (.bool a0_2) := (kC BK315.out 2).trans rfl; have hfz19_0 := kF BK315.out 0; have hfz19_1 := kF BK315.out 1; have hfz19_2 := kF BK315.out 2; have hcz20_0 : w17.cell? ⟨gb316, 0, none⟩ = some (.string a1_0) := (kC BK316.out 0).trans rfl; have hcz20_1 : w17.cell? ⟨gb316, 1, none⟩ = some (.string a1_1) := (kC BK316.out 1).trans rfl; have hcz20_2 : w17.cell? ⟨gb316, 2, none⟩ = some (.bool a1_2) := (kC BK316.out 2).trans rfl; have hfz20_0 := kF BK316.out 0; have hfz20_1 := kF BK316.out 1; have hfz20_2 := kF BK316.out 2))
   go_ret
   exact ⟨by first | rfl | (simp [errW_none, errW_some] <;> rfl) | (simp [*, errW_none, errW_some] <;> rfl), by repeat (first | (with_reducible first | exact HB.out | apply bA | apply bN | apply b1 | refine bS ?_ GE315.out | refine bS ?_ GE316.out) | exact HB.out)⟩
 ·rw [if_neg c3] at H
  have c3b0 : (a0_0.toList == a1_0.toList) = false := beq_eq_false_iff_ne.mpr c3
  have c3b1 : (a0_0.toList != a1_0.toList) = true := bne_iff_ne.mpr c3
  obtain rfl := Option.some.inj H
  go_enter Try.func86, Try.ntmps86
  go_wp2_with (first | ((with_reducible refine gate_dst (N := 2) rfl ?_); refine box_event ?hg (N := 2) ?hd (cs := #[.string a0_0, .string a0_1, .bool a0_2]) (t := 117) ?hr ?_; (case hd => rfl); (case hg => rfl); (case hr => first | (go_simp; done) | (go_simp; rfl)); intro gb315 hg w21 hbox hb; have n0_ := AM (bP (by repeat (first | (with_reducible first | exact HB.out | apply bA | apply bN | apply b1) | exact HB.out)) hb); have n1_ := AM (hbox); have n2_ := AM ((by rw [hg]; exact (below_size (by repeat (first | (with_reducible first | exact HB.out | apply bA | apply bN | apply b1) | exact HB.out))) : w.heap.size ≤ gb315)); have n3_ := AM ((by rw [hg]; exact (below_size (by repeat (first | (with_reducible first | exact HB.out | apply bA | apply bN | apply b1) | exact HB.out))) : w.heap.size ≤ gb315)); clear HB; have HB := n0_; have BK315 := n1_; have GW315 := n2_; have GE315 := n3_; clear n0_ n1_ n2_ n3_; clear hb hbox hg) | ((with_reducible refine gate_dst (N := 3) rfl ?_); refine box_event ?hg (N := 3) ?hd (cs := #[.string a1_0, .string a1_1, .bool a1_2]) (t := 117) ?hr ?_; (case hd => rfl); (case hg => rfl); (case hr => first | (go_simp; done) | (go_simp; rfl)); intro gb316 hg w22 hbox hb; have n0_ := AM (kB (g := gb315) (o := .cells #[.string a0_0, .string a0_1, .bool a0_2] 117 (0, 0)) (by (with_reducible repeat (first | refine kN ?_ _ | refine blk_drew ?_ | refine kA ?_ _)); exact BK315.out) hb); have n1_ := AM (bP (by repeat (first | (with_reducible first | exact HB.out | apply bA | apply bN | apply b1 | refine bS ?_ GE315.out) | exact HB.out)) hb); have n2_ := AM (hbox); have n3_ := AM ((by rw [hg]; exact (below_size (by repeat (first | (with_reducible first | exact HB.out | apply bA | apply bN | apply b1 | refine bS ?_ GE315.out) | exact HB.out))) : w.heap.size ≤ gb316)); have n4_ := AM ((by rw [hg]; exact (below_size (by repeat (first | (with_reducible first | exact HB.out | apply bA | apply bN | apply b1 | refine bS ?_ GE315.out) | exact HB.out))) : w.heap.size ≤ gb316)); have n5_ := AM ((by rw [hg]; exact Nat.ne_of_lt (blk_lt (g := gb315) (o := .cells #[.string a0_0, .string a0_1, .bool a0_2] 117 (0, 0)) (by (with_reducible repeat (first | refine kN ?_ _ | refine blk_drew ?_ | refine kA ?_ _)); exact BK315.out)) : gb315 ≠ gb316)); have n6_ := AM ((by rw [hg]; exact Nat.ne_of_gt (blk_lt (g := gb315) (o := .cells #[.string a0_0, .string a0_1, .bool a0_2] 117 (0, 0)) (by (with_reducible repeat (first | refine kN ?_ _ | refine blk_drew ?_ | refine kA ?_ _)); exact BK315.out)) : gb316 ≠ gb315)); clear BK315; clear HB; have BK315 := n0_; have HB := n1_; have BK316 := n2_; have GW316 := n3_; have GE316 := n4_; have NB315_316 := n5_; have NB316_315 := n6_; clear n0_ n1_ n2_ n3_ n4_ n5_ n6_; clear hb hbox hg; have hnb23 := NB315_316.out; have hnc23 := NB316_315.out; have hcz24_0 : w22.cell? ⟨gb315, 0, none⟩ = some (.string a0_0) := (kC BK315.out 0).trans rfl; have hcz24_1 : w22.cell? ⟨gb315, 1, none⟩ = some (.string a0_1) := (kC BK315.out 1).trans rfl; have hcz24_2 : w22.cell? ⟨gb315, 2, none⟩ = some (.bool a0_2) := (kC BK315.out 2).trans rfl; have hfz24_0 := kF BK315.out 0; have hfz24_1 := kF BK315.out 1; have hfz24_2 := kF BK315.out 2; have hcz25_0 : w22.cell? ⟨gb316, 0, none⟩ = some (.string a1_0) := (kC BK316.out 0).trans rfl; have hcz25_1 : w22.cell? ⟨gb316, 1, none⟩ = some (.string a1_1) := (kC BK316.out 1).trans rfl; have hcz25_2 : w22.cell? ⟨gb316, 2, none⟩ = some (.bool a1_2) := (kC BK316.out 2).trans rfl; have hfz25_0 := kF BK316.out 0; have hfz25_1 := kF BK316.out 1; have hfz25_2 := kF BK316.out 2))
  go_ret
  exact ⟨by first | rfl | (simp [errW_none, errW_some] <;> rfl) | (simp [*, errW_none, errW_some] <;> rfl), by repeat (first | (with_reducible first | exact HB.out | apply bA | apply bN | apply b1 | refine bS ?_ GE315.out | refine bS ?_ GE316.out) | exact HB.out)⟩

end Go.Proofs.Ytlbeppaimfpchaa.PFnExactPrepEdits
