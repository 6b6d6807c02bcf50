/- Printed by a program of this session (a patched copy of the kit's print): for each Go function one Lean function, and the proof that the call comes to just its answer. -/
import Derived.Test.YtlbeppaimfpchaaPFnExactPrepEditsx0
import Derived.Test.YtlbeppaimfpchaaPFnExactPrepEditsx2
import Derived.Test.YtlbeppaimfpchaaPFnExactPrepEditsx3
namespace Go.Proofs.Ytlbeppaimfpchaa.PFnExactPrepEdits
open Go.RowKit Go.Proofs.YtlbeppaimfpchaaW.PrintWords Go.Proofs.YtlbeppaimfpchaaW.PrintLast Go.Proofs.YtlbeppaimfpchaaW.PrintMore
attribute [local go_sem] max2_int min2_int max_two min_two max_three min_three max_four min_four   -- for this text's walks alone
set_option linter.unusedVariables false
set_option linter.unusedSimpArgs false

/-! ### spec_TxText: function 79 -/
def spec_TxText.f (k : Nat) (a0_0 : Int) (a0_1 : Int) (a0_2 : Int) : Option (ByteArray) := (spec_TxOk.f a0_0 a0_1 a0_2).bind fun t133 => (if t133 = true then ((spec_NumText.f k a0_0).bind fun t134 => (if t134.size + 1 ≤ 9223372036854775807 then ((spec_NumText.f k a0_1).bind fun t135 => (if (t134 ++ (⟨#[46]⟩ : ByteArray)).size + t135.size ≤ 9223372036854775807 then (if ((t134 ++ (⟨#[46]⟩ : ByteArray)) ++ t135).size + 1 ≤ 9223372036854775807 then ((spec_NumText.f k a0_2).bind fun t136 => (if (((t134 ++ (⟨#[46]⟩ : ByteArray)) ++ t135) ++ (⟨#[46]⟩ : ByteArray)).size + t136.size ≤ 9223372036854775807 then (some ((((t134 ++ (⟨#[46]⟩ : ByteArray)) ++ t135) ++ (⟨#[46]⟩ : ByteArray)) ++ t136)) else (none))) else (none)) else (none))) else (none))) else (some (⟨#[]⟩ : ByteArray)))
theorem spec_TxText.mono : ∀ a0 a1 a2 k, LeO (spec_TxText.f k a0 a1 a2) (spec_TxText.f (k + 1) a0 a1 a2) := by
 intro a0 a1 a2 k
 unfold spec_TxText.f
 repeat' first
   | (with_reducible exact spec_NumText.mono _ _)
   | (with_reducible exact LeO.refl _)
   | (with_reducible exact LeO.none _)
   | (with_reducible refine LeO.ite ?_ ?_)
   | (with_reducible refine LeO.bind ?_ (fun _ => ?_))
   | exact spec_NumText.mono _ _
   | exact LeO.none _
   | refine LeO.ite ?_ ?_
   | refine LeO.bind ?_ (fun _ => ?_)
def spec_TxText.T3 : Bool × List (List Nat × List Nat) := (true, [([], []), ([0], [0]), ([1], [1]), ([2], [2]), ([], []), ([4], [4]), ([5, 2], [5]), ([3, 6], [3, 6]), ([7], [7]), ([], []), ([9], [9]), ([10, 6], [10]), ([8, 11], [8, 11]), ([12, 11, 0, 1, 2, 3, 4, 5, 6, 7, 8, 9, 10, 11, 12], [12])])
def spec_TxText.B3 : List Nat := [0, 1, 3, 7, 0, 16, 55, 127, 255, 0, 512, 1655, 4095, 8191]
theorem spec_TxText.tab3 : rtab .any (opsOf Try.f79 3) = spec_TxText.T3 := by kernel_rfl
theorem spec_TxText.bits3 : waitsOk spec_TxText.T3.2 spec_TxText.B3 = true := by kernel_rfl
set_option maxHeartbeats 8000000 in
set_option maxRecDepth 100000 in
theorem spec_TxText.calls (k : Nat) (a0_0 : Int) (a0_1 : Int) (a0_2 : Int) (r : ByteArray) (w : World) (h : spec_TxText.f k a0_0 a0_1 a0_2 = some r) :
  Calls Try.prog 79 #[.agg #[.int .i64 a0_0, .int .i64 a0_1, .int .i64 a0_2]] w fun e w' => e = .returned (.string r) ∧ Below w.heap.size w w' := by
 have hu30 := Try.underlying30
 have HB := AM (Below.refl w.heap.size w)
 have H : ((spec_TxOk.f a0_0 a0_1 a0_2).bind fun t133 => (if t133 = true then ((spec_NumText.f k a0_0).bind fun t134 => (if t134.size + 1 ≤ 9223372036854775807 then ((spec_NumText.f k a0_1).bind fun t135 => (if (t134 ++ (⟨#[46]⟩ : ByteArray)).size + t135.size ≤ 9223372036854775807 then (if ((t134 ++ (⟨#[46]⟩ : ByteArray)) ++ t135).size + 1 ≤ 9223372036854775807 then ((spec_NumText.f k a0_2).bind fun t136 => (if (((t134 ++ (⟨#[46]⟩ : ByteArray)) ++ t135) ++ (⟨#[46]⟩ : ByteArray)).size + t136.size ≤ 9223372036854775807 then (some ((((t134 ++ (⟨#[46]⟩ : ByteArray)) ++ t135) ++ (⟨#[46]⟩ : ByteArray)) ++ t136)) else (none))) else (none)) else (none))) else (none))) else (some (⟨#[]⟩ : ByteArray)))) = some r := h
 clear h
 replace H := Option.bind_eq_some_iff.mp H
 obtain ⟨t133, A20, H⟩ := H
 replace H : (if t133 = true then ((spec_NumText.f k a0_0).bind fun t134 => (if t134.size + 1 ≤ 9223372036854775807 then ((spec_NumText.f k a0_1).bind fun t135 => (if (t134 ++ (⟨#[46]⟩ : ByteArray)).size + t135.size ≤ 9223372036854775807 then (if ((t134 ++ (⟨#[46]⟩ : ByteArray)) ++ t135).size + 1 ≤ 9223372036854775807 then ((spec_NumText.f k a0_2).bind fun t136 => (if (((t134 ++ (⟨#[46]⟩ : ByteArray)) ++ t135) ++ (⟨#[46]⟩ : ByteArray)).size + t136.size ≤ 9223372036854775807 then (some ((((t134 ++ (⟨#[46]⟩ : ByteArray)) ++ t135) ++ (⟨#[46]⟩ : ByteArray)) ++ t136)) else (none))) else (none)) else (none))) else (none))) else (some (⟨#[]⟩ : ByteArray))) = some r := H
 have A2 := AM A20
 clear A20
 by_cases c3 : t133 = true
 ·subst c3
  have H1 : ((spec_NumText.f k a0_0).bind fun t134 => (if t134.size + 1 ≤ 9223372036854775807 then ((spec_NumText.f k a0_1).bind fun t135 => (if (t134 ++ (⟨#[46]⟩ : ByteArray)).size + t135.size ≤ 9223372036854775807 then (if ((t134 ++ (⟨#[46]⟩ : ByteArray)) ++ t135).size + 1 ≤ 9223372036854775807 then ((spec_NumText.f k a0_2).bind fun t136 => (if (((t134 ++ (⟨#[46]⟩ : ByteArray)) ++ t135) ++ (⟨#[46]⟩ : ByteArray)).size + t136.size ≤ 9223372036854775807 then (some ((((t134 ++ (⟨#[46]⟩ : ByteArray)) ++ t135) ++ (⟨#[46]⟩ : ByteArray)) ++ t136)) else (none))) else (none)) else (none))) else (none))) = some r := by rw [if_pos rfl] at H; exact H
  clear H
  have H := H1
  clear H1
  replace H := Option.bind_eq_some_iff.mp H
  obtain ⟨t134, A40, H⟩ := H
  replace H : (if t134.size + 1 ≤ 9223372036854775807 then ((spec_NumText.f k a0_1).bind fun t135 => (if (t134 ++ (⟨#[46]⟩ : ByteArray)).size + t135.size ≤ 9223372036854775807 then (if ((t134 ++ (⟨#[46]⟩ : ByteArray)) ++ t135).size + 1 ≤ 9223372036854775807 then ((spec_NumText.f k a0_2).bind fun t136 => (if (((t134 ++ (⟨#[46]⟩ : ByteArray)) ++ t135) ++ (⟨#[46]⟩ : ByteArray)).size + t136.size ≤ 9223372036854775807 then (some ((((t134 ++ (⟨#[46]⟩ : ByteArray)) ++ t135) ++ (⟨#[46]⟩ : ByteArray)) ++ t136)) else (none))) else (none)) else (none))) else (none)) = some r := H
  have A4 := AM A40
  clear A40
  by_cases c5 : t134.size + 1 ≤ 9223372036854775807
  ·rw [if_pos c5] at H
   have c5b0 := eq_true c5
   have c5b1 : decide (t134.size + 1 ≤ 9223372036854775807) = true := decide_eq_true c5
   try have c5b2 : (9223372036854775807 < t134.size + 1) = False := eq_false (Nat.not_lt.2 c5)
   replace H := Option.bind_eq_some_iff.mp H
   obtain ⟨t135, A60, H⟩ := H
   replace H : (if (t134 ++ (⟨#[46]⟩ : ByteArray)).size + t135.size ≤ 9223372036854775807 then (if ((t134 ++ (⟨#[46]⟩ : ByteArray)) ++ t135).size + 1 ≤ 9223372036854775807 then ((spec_NumText.f k a0_2).bind fun t136 => (if (((t134 ++ (⟨#[46]⟩ : ByteArray)) ++ t135) ++ (⟨#[46]⟩ : ByteArray)).size + t136.size ≤ 9223372036854775807 then (some ((((t134 ++ (⟨#[46]⟩ : ByteArray)) ++ t135) ++ (⟨#[46]⟩ : ByteArray)) ++ t136)) else (none))) else (none)) else (none)) = some r := H
   have A6 := AM A60
   clear A60
   by_cases c7 : (t134 ++ (⟨#[46]⟩ : ByteArray)).size + t135.size ≤ 9223372036854775807
   ·rw [if_pos c7] at H
    have c7b0 := eq_true c7
    have c7b1 : decide ((t134 ++ (⟨#[46]⟩ : ByteArray)).size + t135.size ≤ 9223372036854775807) = true := decide_eq_true c7
    (try (have c7b1n : decide (t134.size + 1 + t135.size ≤ 9223372036854775807) = true := by have h_ := c7b1; simp only [ByteArray.size_append, one_size_] at h_; exact h_))
    try have c7b2 : (9223372036854775807 < (t134 ++ (⟨#[46]⟩ : ByteArray)).size + t135.size) = False := eq_false (Nat.not_lt.2 c7)
    (try (have c7b2n : (9223372036854775807 < t134.size + 1 + t135.size) = False := by have h_ := c7b2; simp only [ByteArray.size_append, one_size_] at h_; exact h_))
    by_cases c8 : ((t134 ++ (⟨#[46]⟩ : ByteArray)) ++ t135).size + 1 ≤ 9223372036854775807
    ·rw [if_pos c8] at H
     have c8b0 := eq_true c8
     have c8b1 : decide (((t134 ++ (⟨#[46]⟩ : ByteArray)) ++ t135).size + 1 ≤ 9223372036854775807) = true := decide_eq_true c8
     (try (have c8b1n : decide (t134.size + 1 + t135.size + 1 ≤ 9223372036854775807) = true := by have h_ := c8b1; simp only [ByteArray.size_append, one_size_] at h_; exact h_))
     try have c8b2 : (9223372036854775807 < ((t134 ++ (⟨#[46]⟩ : ByteArray)) ++ t135).size + 1) = False := eq_false (Nat.not_lt.2 c8)
     (try (have c8b2n : (9223372036854775807 < t134.size + 1 + t135.size + 1) = False := by have h_ := c8b2; simp only [ByteArray.size_append, one_size_] at h_; exact h_))
     replace H := Option.bind_eq_some_iff.mp H
     obtain ⟨t136, A90, H⟩ := H
     replace H : (if (((t134 ++ (⟨#[46]⟩ : ByteArray)) ++ t135) ++ (⟨#[46]⟩ : ByteArray)).size + t136.size ≤ 9223372036854775807 then (some ((((t134 ++ (⟨#[46]⟩ : ByteArray)) ++ t135) ++ (⟨#[46]⟩ : ByteArray)) ++ t136)) else (none)) = some r := H
     have A9 := AM A90
     clear A90
     by_cases c10 : (((t134 ++ (⟨#[46]⟩ : ByteArray)) ++ t135) ++ (⟨#[46]⟩ : ByteArray)).size + t136.size ≤ 9223372036854775807
     ·rw [if_pos c10] at H
      have c10b0 := eq_true c10
      have c10b1 : decide ((((t134 ++ (⟨#[46]⟩ : ByteArray)) ++ t135) ++ (⟨#[46]⟩ : ByteArray)).size + t136.size ≤ 9223372036854775807) = true := decide_eq_true c10
      (try (have c10b1n : decide (t134.size + 1 + t135.size + 1 + t136.size ≤ 9223372036854775807) = true := by have h_ := c10b1; simp only [ByteArray.size_append, one_size_] at h_; exact h_))
      try have c10b2 : (9223372036854775807 < (((t134 ++ (⟨#[46]⟩ : ByteArray)) ++ t135) ++ (⟨#[46]⟩ : ByteArray)).size + t136.size) = False := eq_false (Nat.not_lt.2 c10)
      (try (have c10b2n : (9223372036854775807 < t134.size + 1 + t135.size + 1 + t136.size) = False := by have h_ := c10b2; simp only [ByteArray.size_append, one_size_] at h_; exact h_))
      obtain rfl := Option.some.inj H
      go_enter Try.func79, Try.ntmps79
      try go_wp2_with (first | ((with_reducible refine gate_dst (N := 1) rfl ?_); refine box_event ?hg (N := 1) ?hd (cs := #[.int .i64 a0_0, .int .i64 a0_1, .int .i64 a0_2]) (t := 30) ?hr ?_; (case hd => rfl); (case hg => rfl); (case hr => first | (go_simp; done) | (go_simp; rfl)); intro gb132 hg w11 hbox hb; have n0_ := AM (bP (by repeat (first | (with_reducible first | exact HB.out | apply bA | apply bN | apply b1) | exact HB.out)) hb); have n1_ := AM (hbox); have n2_ := AM ((by rw [hg]; exact (below_size (by repeat (first | (with_reducible first | exact HB.out | apply bA | apply bN | apply b1) | exact HB.out))) : w.heap.size ≤ gb132)); have n3_ := AM ((by rw [hg]; exact (below_size (by repeat (first | (with_reducible first | exact HB.out | apply bA | apply bN | apply b1) | exact HB.out))) : w.heap.size ≤ gb132)); clear HB; have HB := n0_; have BK132 := n1_; have GW132 := n2_; have GE132 := n3_; clear n0_ n1_ n2_ n3_; clear hb hbox hg; have hcz12_0 : w11.cell? ⟨gb132, 0, none⟩ = some (.int .i64 a0_0) := (kC BK132.out 0).trans rfl; have hcz12_1 : w11.cell? ⟨gb132, 1, none⟩ = some (.int .i64 a0_1) := (kC BK132.out 1).trans rfl; have hcz12_2 : w11.cell? ⟨gb132, 2, none⟩ = some (.int .i64 a0_2) := (kC BK132.out 2).trans rfl; have hfz12_0 := kF BK132.out 0; have hfz12_1 := kF BK132.out 1; have hfz12_2 := kF BK132.out 2) | ((with_reducible refine gate_callee (f := 109) rfl ?_); refine goesL_ (some 4) rfl rfl Try.func109 (by kernel_rfl) rfl #[.agg #[.int .i64 a0_0, .int .i64 a0_1, .int .i64 a0_2]] rfl (by (try simp only [mA, mC, mN]); first | done | rfl | (simp only [List.length_drop, List.length_take]; rfl)) ?_; (with_reducible refine (spec_TxOk.calls a0_0 a0_1 a0_2 true _ A2.out).mono ?_); rintro e w13 ⟨rfl, hb⟩; refine ⟨_, rfl, ?_⟩; have n0_ := AM (kB (g := gb132) (o := .cells #[.int .i64 a0_0, .int .i64 a0_1, .int .i64 a0_2] 30 (0, 0)) (by (with_reducible repeat (first | refine kN ?_ _ | refine blk_drew ?_ | refine kA ?_ _)); exact BK132.out) hb); have n1_ := AM (bP (by repeat (first | (with_reducible first | exact HB.out | apply bA | apply bN | apply b1 | refine bS ?_ GE132.out) | exact HB.out)) hb); clear BK132; clear HB; have BK132 := n0_; have HB := n1_; clear n0_ n1_; (try clear hb); (try clear hb2); (try clear hk); (try clear hi)))
      have n0_ := AM (blk_drew BK132.out)
      have n1_ := AM (b1 HB.out)
      clear BK132
      clear HB
      have BK132 := n0_
      have HB := n1_
      clear n0_ n1_
      refine start_ (n := 14) (S := fun w' => w'.cell? ⟨gb132, 0, none⟩ = some (.int .i64 a0_0) ∧ w'.cell? ⟨gb132, 1, none⟩ = some (.int .i64 a0_1) ∧ w'.cell? ⟨gb132, 2, none⟩ = some (.int .i64 a0_2)) (ds := []) #[false, false, false, false, false, false, false, false, false, false, false, false, false, false] (by kernel_rfl) rfl rfl ⟨(kC BK132.out 0).trans rfl, (kC BK132.out 1).trans rfl, (kC BK132.out 2).trans rfl⟩ (fun hHeld => ?_); refine with_tabW spec_TxText.tab3 spec_TxText.bits3 (fun HT_ HW_ => ?_)
      generalize w13.drew = w14 at BK132 HB hHeld ⊢
      refine pure_ (i := 0) (N := some 6) (v := ?_) (a' := ?_) #[true, false, false, false, false, false, false, false, false, false, false, false, false, false] rfl rfl (any_of HT_.out (by kernel_rfl)) (fun _ _ _ h => h) (Or.inl ⟨by rfl, ?_⟩) ?_ ?_
      rotate_left
      ·intro w'
       go_simp
       with_reducible rfl
      rotate_left
      ·simp only [Act.put, sA, sZ, sS, i64_w, i32_w]
       rfl
      refine pure_ (i := 4) (N := some 10) (v := ?_) (a' := ?_) #[true, false, false, false, true, false, false, false, false, false, false, false, false, false] rfl rfl (any_of HT_.out (by kernel_rfl)) (fun _ _ _ h => h) (Or.inl ⟨by rfl, ?_⟩) ?_ ?_
      rotate_left
      ·intro w'
       go_simp
       with_reducible rfl
      rotate_left
      ·simp only [Act.put, sA, sZ, sS, i64_w, i32_w]
       rfl
      refine pure_ (i := 9) (N := some 15) (v := ?_) (a' := ?_) #[true, false, false, false, true, false, false, false, false, true, false, false, false, false] rfl rfl (any_of HT_.out (by kernel_rfl)) (fun _ _ _ h => h) (Or.inl ⟨by rfl, ?_⟩) ?_ ?_
      rotate_left
      ·intro w'
       go_simp
       with_reducible rfl
      rotate_left
      ·simp only [Act.put, sA, sZ, sS, i64_w, i32_w]
       rfl
      refine take_ (i := 1) (N := some 7) (v := ?_) (a' := ?_) #[true, true, false, false, true, false, false, false, false, true, false, false, false, false] rfl rfl (take_ofW HT_.out HW_.out (by kernel_rfl)) (fun _ _ _ h => h) (Or.inl ⟨by rfl, ?_⟩) hHeld ?_ ?_
      rotate_left
      ·rintro w' ⟨s0, s1, s2⟩
       go_simp
       with_reducible rfl
      rotate_left
      ·simp only [Act.put, sA, sZ, sS, i64_w, i32_w]
       rfl
      refine take_ (i := 5) (N := some 11) (v := ?_) (a' := ?_) #[true, true, false, false, true, true, false, false, false, true, false, false, false, false] rfl rfl (take_ofW HT_.out HW_.out (by kernel_rfl)) (fun _ _ _ h => h) (Or.inl ⟨by rfl, ?_⟩) hHeld ?_ ?_
      rotate_left
      ·rintro w' ⟨s0, s1, s2⟩
       go_simp
       with_reducible rfl
      rotate_left
      ·simp only [Act.put, sA, sZ, sS, i64_w, i32_w]
       rfl
      refine take_ (i := 10) (N := some 16) (v := ?_) (a' := ?_) #[true, true, false, false, true, true, false, false, false, true, true, false, false, false] rfl rfl (take_ofW HT_.out HW_.out (by kernel_rfl)) (fun _ _ _ h => h) (Or.inl ⟨by rfl, ?_⟩) hHeld ?_ ?_
      rotate_left
      ·rintro w' ⟨s0, s1, s2⟩
       go_simp
       with_reducible rfl
      rotate_left
      ·simp only [Act.put, sA, sZ, sS, i64_w, i32_w]
       rfl
      refine one_ (i := 2) (N := some 8) #[true, true, true, false, true, true, false, false, false, true, true, false, false, false] rfl rfl (one_of HT_.out (by kernel_rfl)) (by decide) (fun K hK => ?_)
      refine goes_ Try.func78 (by kernel_rfl) rfl #[.int .i64 a0_0] (by rfl) rfl rfl (by (try simp only [mA, mC, mN]); first | done | rfl | (simp only [List.length_drop, List.length_take]; rfl)) ?_
      with_reducible refine (spec_NumText.calls k a0_0 t134 _ A4.out).mono ?_
      rintro e w15 ⟨rfl, hb⟩
      refine ⟨_, rfl, ?_⟩
      have n0_ := AM (kB (g := gb132) (o := .cells #[.int .i64 a0_0, .int .i64 a0_1, .int .i64 a0_2] 30 (0, 0)) (by (with_reducible repeat (first | refine kN ?_ _ | refine blk_drew ?_ | refine kA ?_ _)); exact BK132.out) hb)
      have n1_ := AM (bP (by repeat (first | (with_reducible first | exact HB.out | apply bA | apply bN | apply b1 | refine bS ?_ GE132.out) | exact HB.out)) hb)
      clear BK132
      clear HB
      have BK132 := n0_
      have HB := n1_
      clear n0_ n1_
      (try clear hb)
      (try clear hb2)
      (try clear hk)
      (try clear hi)
      refine hK.out _ _ ⟨(kC BK132.out 0).trans rfl, (kC BK132.out 1).trans rfl, (kC BK132.out 2).trans rfl⟩ (fun hHeld => ?_)
      clear hK K
      refine norm_ (a' := ?_) ?_ ?_
      rotate_left
      ·show Act.put _ (some 8) _ = _
       simp only [Act.put, sA, sZ, sS, i64_w, i32_w]
       rfl
      refine pure_ (i := 3) (N := some 9) (v := ?_) (a' := ?_) #[true, true, true, true, true, true, false, false, false, true, true, false, false, false] rfl rfl (any_of HT_.out (by kernel_rfl)) (fun _ _ _ h => h) (Or.inl ⟨by rfl, ?_⟩) ?_ ?_
      rotate_left
      ·intro w'
       go_simp
       with_reducible rfl
      rotate_left
      ·simp only [Act.put, sA, sZ, sS, i64_w, i32_w]
       rfl
      refine one_ (i := 6) (N := some 12) #[true, true, true, true, true, true, true, false, false, true, true, false, false, false] rfl rfl (one_of HT_.out (by kernel_rfl)) (by decide) (fun K hK => ?_)
      refine goes_ Try.func78 (by kernel_rfl) rfl #[.int .i64 a0_1] (by rfl) rfl rfl (by (try simp only [mA, mC, mN]); first | done | rfl | (simp only [List.length_drop, List.length_take]; rfl)) ?_
      with_reducible refine (spec_NumText.calls k a0_1 t135 _ A6.out).mono ?_
      rintro e w16 ⟨rfl, hb⟩
      refine ⟨_, rfl, ?_⟩
      have n0_ := AM (kB (g := gb132) (o := .cells #[.int .i64 a0_0, .int .i64 a0_1, .int .i64 a0_2] 30 (0, 0)) (by (with_reducible repeat (first | refine kN ?_ _ | refine blk_drew ?_ | refine kA ?_ _)); exact BK132.out) hb)
      have n1_ := AM (bP (by repeat (first | (with_reducible first | exact HB.out | apply bA | apply bN | apply b1 | refine bS ?_ GE132.out) | exact HB.out)) hb)
      clear BK132
      clear HB
      have BK132 := n0_
      have HB := n1_
      clear n0_ n1_
      (try clear hb)
      (try clear hb2)
      (try clear hk)
      (try clear hi)
      refine hK.out _ _ ⟨(kC BK132.out 0).trans rfl, (kC BK132.out 1).trans rfl, (kC BK132.out 2).trans rfl⟩ (fun hHeld => ?_)
      clear hK K
      refine norm_ (a' := ?_) ?_ ?_
      rotate_left
      ·show Act.put _ (some 12) _ = _
       simp only [Act.put, sA, sZ, sS, i64_w, i32_w]
       rfl
      refine pure_ (i := 7) (N := some 13) (v := ?_) (a' := ?_) #[true, true, true, true, true, true, true, true, false, true, true, false, false, false] rfl rfl (any_of HT_.out (by kernel_rfl)) (fun _ _ _ h => h) (Or.inl ⟨by rfl, ?_⟩) ?_ ?_
      rotate_left
      ·intro w'
       go_simp
       with_reducible rfl
      rotate_left
      ·simp only [Act.put, sA, sZ, sS, i64_w, i32_w]
       rfl
      refine pure_ (i := 8) (N := some 14) (v := ?_) (a' := ?_) #[true, true, true, true, true, true, true, true, true, true, true, false, false, false] rfl rfl (any_of HT_.out (by kernel_rfl)) (fun _ _ _ h => h) (Or.inl ⟨by rfl, ?_⟩) ?_ ?_
      rotate_left
      ·intro w'
       go_simp
       with_reducible rfl
      rotate_left
      ·simp only [Act.put, sA, sZ, sS, i64_w, i32_w]
       rfl
      refine one_ (i := 11) (N := some 17) #[true, true, true, true, true, true, true, true, true, true, true, true, false, false] rfl rfl (one_of HT_.out (by kernel_rfl)) (by decide) (fun K hK => ?_)
      refine goes_ Try.func78 (by kernel_rfl) rfl #[.int .i64 a0_2] (by rfl) rfl rfl (by (try simp only [mA, mC, mN]); first | done | rfl | (simp only [List.length_drop, List.length_take]; rfl)) ?_
      with_reducible refine (spec_NumText.calls k a0_2 t136 _ A9.out).mono ?_
      rintro e w17 ⟨rfl, hb⟩
      refine ⟨_, rfl, ?_⟩
      have n0_ := AM (kB (g := gb132) (o := .cells #[.int .i64 a0_0, .int .i64 a0_1, .int .i64 a0_2] 30 (0, 0)) (by (with_reducible repeat (first | refine kN ?_ _ | refine blk_drew ?_ | refine kA ?_ _)); exact BK132.out) hb)
      have n1_ := AM (bP (by repeat (first | (with_reducible first | exact HB.out | apply bA | apply bN | apply b1 | refine bS ?_ GE132.out) | exact HB.out)) hb)
      clear BK132
      clear HB
      have BK132 := n0_
      have HB := n1_
      clear n0_ n1_
      (try clear hb)
      (try clear hb2)
      (try clear hk)
      (try clear hi)
      refine hK.out _ _ ⟨(kC BK132.out 0).trans rfl, (kC BK132.out 1).trans rfl, (kC BK132.out 2).trans rfl⟩ (fun hHeld => ?_)
      clear hK K
      refine norm_ (a' := ?_) ?_ ?_
      rotate_left
      ·show Act.put _ (some 17) _ = _
       simp only [Act.put, sA, sZ, sS, i64_w, i32_w]
       rfl
      refine pure_ (i := 12) (N := some 18) (v := ?_) (a' := ?_) #[true, true, true, true, true, true, true, true, true, true, true, true, true, false] rfl rfl (any_of HT_.out (by kernel_rfl)) (fun _ _ _ h => h) (Or.inl ⟨by rfl, ?_⟩) ?_ ?_
      rotate_left
      ·intro w'
       go_simp
       with_reducible rfl
      rotate_left
      ·simp only [Act.put, sA, sZ, sS, i64_w, i32_w]
       rfl
      refine pure_ (i := 13) (N := some 2) (v := ?_) (a' := ?_) #[true, true, true, true, true, true, true, true, true, true, true, true, true, true] rfl rfl (any_of HT_.out (by kernel_rfl)) (fun _ _ _ h => h) (Or.inl ⟨by rfl, ?_⟩) ?_ ?_
      rotate_left
      ·intro w'
       go_simp
       with_reducible rfl
      rotate_left
      ·simp only [Act.put, sA, sZ, sS, i64_w, i32_w]
       rfl
      refine done_ (done_of HT_.out (by kernel_rfl)) ?_
      try go_wp2
      go_ret
      exact ⟨by first | rfl | (simp [errW_none, errW_some] <;> rfl) | (simp [*, errW_none, errW_some] <;> rfl), by repeat (first | (with_reducible first | exact HB.out | apply bA | apply bN | apply b1 | refine bS ?_ GE132.out) | exact HB.out)⟩
     ·rw [if_neg c10] at H
      exact absurd H (by simp)
    ·rw [if_neg c8] at H
     exact absurd H (by simp)
   ·rw [if_neg c7] at H
    exact absurd H (by simp)
  ·rw [if_neg c5] at H
   exact absurd H (by simp)
 ·replace c3 := Bool.eq_false_iff.mpr c3
  subst c3
  have H1 : (some (⟨#[]⟩ : ByteArray)) = some r := by rw [if_neg (show ¬ (false = true) by decide)] at H; exact H
  clear H
  have H := H1
  clear H1
  obtain rfl := Option.some.inj H
  go_enter Try.func79, Try.ntmps79
  go_wp2_with (first | ((with_reducible refine gate_dst (N := 1) rfl ?_); refine box_event ?hg (N := 1) ?hd (cs := #[.int .i64 a0_0, .int .i64 a0_1, .int .i64 a0_2]) (t := 30) ?hr ?_; (case hd => rfl); (case hg => rfl); (case hr => first | (go_simp; done) | (go_simp; rfl)); intro gb132 hg w18 hbox hb; have n0_ := AM (bP (by repeat (first | (with_reducible first | exact HB.out | apply bA | apply bN | apply b1) | exact HB.out)) hb); have n1_ := AM (hbox); have n2_ := AM ((by rw [hg]; exact (below_size (by repeat (first | (with_reducible first | exact HB.out | apply bA | apply bN | apply b1) | exact HB.out))) : w.heap.size ≤ gb132)); have n3_ := AM ((by rw [hg]; exact (below_size (by repeat (first | (with_reducible first | exact HB.out | apply bA | apply bN | apply b1) | exact HB.out))) : w.heap.size ≤ gb132)); clear HB; have HB := n0_; have BK132 := n1_; have GW132 := n2_; have GE132 := n3_; clear n0_ n1_ n2_ n3_; clear hb hbox hg; have hcz19_0 : w18.cell? ⟨gb132, 0, none⟩ = some (.int .i64 a0_0) := (kC BK132.out 0).trans rfl; have hcz19_1 : w18.cell? ⟨gb132, 1, none⟩ = some (.int .i64 a0_1) := (kC BK132.out 1).trans rfl; have hcz19_2 : w18.cell? ⟨gb132, 2, none⟩ = some (.int .i64 a0_2) := (kC BK132.out 2).trans rfl; have hfz19_0 := kF BK132.out 0; have hfz19_1 := kF BK132.out 1; have hfz19_2 := kF BK132.out 2) | ((with_reducible refine gate_callee (f := 109) rfl ?_); refine goesL_ (some 4) rfl rfl Try.func109 (by kernel_rfl) rfl #[.agg #[.int .i64 a0_0, .int .i64 a0_1, .int .i64 a0_2]] rfl (by (try simp only [mA, mC, mN]); first | done | rfl | (simp only [List.length_drop, List.length_take]; rfl)) ?_; (with_reducible refine (spec_TxOk.calls a0_0 a0_1 a0_2 false _ A2.out).mono ?_); rintro e w20 ⟨rfl, hb⟩; refine ⟨_, rfl, ?_⟩; have n0_ := AM (kB (g := gb132) (o := .cells #[.int .i64 a0_0, .int .i64 a0_1, .int .i64 a0_2] 30 (0, 0)) (by (with_reducible repeat (first | refine kN ?_ _ | refine blk_drew ?_ | refine kA ?_ _)); exact BK132.out) hb); have n1_ := AM (bP (by repeat (first | (with_reducible first | exact HB.out | apply bA | apply bN | apply b1 | refine bS ?_ GE132.out) | exact HB.out)) hb); clear BK132; clear HB; have BK132 := n0_; have HB := n1_; clear n0_ n1_; (try clear hb); (try clear hb2); (try clear hk); (try clear hi)))
  go_ret
  exact ⟨by first | rfl | (simp [errW_none, errW_some] <;> rfl) | (simp [*, errW_none, errW_some] <;> rfl), by repeat (first | (with_reducible first | exact HB.out | apply bA | apply bN | apply b1 | refine bS ?_ GE132.out) | exact HB.out)⟩

/-! ### spec_l08Key: function 76 -/
def spec_l08Key.f (k : Nat) (a0_0 : Int) (a0_1 : Int) (a0_2 : Int) (a1 : Int) : Option (ByteArray) := (spec_TxText.f k a0_0 a0_1 a0_2).bind fun t138 => (if 1 + t138.size ≤ 9223372036854775807 then (if ((⟨#[112]⟩ : ByteArray) ++ t138).size + 1 ≤ 9223372036854775807 then ((spec_NumText.f k a1).bind fun t139 => (if (((⟨#[112]⟩ : ByteArray) ++ t138) ++ (⟨#[46]⟩ : ByteArray)).size + t139.size ≤ 9223372036854775807 then (some ((((⟨#[112]⟩ : ByteArray) ++ t138) ++ (⟨#[46]⟩ : ByteArray)) ++ t139)) else (none))) else (none)) else (none))
theorem spec_l08Key.mono : ∀ a0 a1 a2 a3 k, LeO (spec_l08Key.f k a0 a1 a2 a3) (spec_l08Key.f (k + 1) a0 a1 a2 a3) := by
 intro a0 a1 a2 a3 k
 unfold spec_l08Key.f
 repeat' first
   | (with_reducible exact spec_NumText.mono _ _)
   | (with_reducible exact spec_TxText.mono _ _ _ _)
   | (with_reducible exact LeO.refl _)
   | (with_reducible exact LeO.none _)
   | (with_reducible refine LeO.ite ?_ ?_)
   | (with_reducible refine LeO.bind ?_ (fun _ => ?_))
   | exact spec_NumText.mono _ _
   | exact spec_TxText.mono _ _ _ _
   | exact LeO.none _
   | refine LeO.ite ?_ ?_
   | refine LeO.bind ?_ (fun _ => ?_)
set_option maxHeartbeats 8000000 in
set_option maxRecDepth 100000 in
theorem spec_l08Key.calls (k : Nat) (a0_0 : Int) (a0_1 : Int) (a0_2 : Int) (a1 : Int) (r : ByteArray) (w : World) (h : spec_l08Key.f k a0_0 a0_1 a0_2 a1 = some r) :
  Calls Try.prog 76 #[.agg #[.int .i64 a0_0, .int .i64 a0_1, .int .i64 a0_2], .int .i64 a1] w fun e w' => e = .returned (.string r) ∧ Below w.heap.size w w' := by
 have hu30 := Try.underlying30
 have HB := AM (Below.refl w.heap.size w)
 have H : ((spec_TxText.f k a0_0 a0_1 a0_2).bind fun t138 => (if 1 + t138.size ≤ 9223372036854775807 then (if ((⟨#[112]⟩ : ByteArray) ++ t138).size + 1 ≤ 9223372036854775807 then ((spec_NumText.f k a1).bind fun t139 => (if (((⟨#[112]⟩ : ByteArray) ++ t138) ++ (⟨#[46]⟩ : ByteArray)).size + t139.size ≤ 9223372036854775807 then (some ((((⟨#[112]⟩ : ByteArray) ++ t138) ++ (⟨#[46]⟩ : ByteArray)) ++ t139)) else (none))) else (none)) else (none))) = some r := h
 clear h
 replace H := Option.bind_eq_some_iff.mp H
 obtain ⟨t138, A30, H⟩ := H
 replace H : (if 1 + t138.size ≤ 9223372036854775807 then (if ((⟨#[112]⟩ : ByteArray) ++ t138).size + 1 ≤ 9223372036854775807 then ((spec_NumText.f k a1).bind fun t139 => (if (((⟨#[112]⟩ : ByteArray) ++ t138) ++ (⟨#[46]⟩ : ByteArray)).size + t139.size ≤ 9223372036854775807 then (some ((((⟨#[112]⟩ : ByteArray) ++ t138) ++ (⟨#[46]⟩ : ByteArray)) ++ t139)) else (none))) else (none)) else (none)) = some r := H
 have A3 := AM A30
 clear A30
 by_cases c4 : 1 + t138.size ≤ 9223372036854775807
 ·rw [if_pos c4] at H
  have c4b0 := eq_true c4
  have c4b1 : decide (1 + t138.size ≤ 9223372036854775807) = true := decide_eq_true c4
  try have c4b2 : (9223372036854775807 < 1 + t138.size) = False := eq_false (Nat.not_lt.2 c4)
  by_cases c5 : ((⟨#[112]⟩ : ByteArray) ++ t138).size + 1 ≤ 9223372036854775807
  ·rw [if_pos c5] at H
   have c5b0 := eq_true c5
   have c5b1 : decide (((⟨#[112]⟩ : ByteArray) ++ t138).size + 1 ≤ 9223372036854775807) = true := decide_eq_true c5
   (try (have c5b1n : decide (1 + t138.size + 1 ≤ 9223372036854775807) = true := by have h_ := c5b1; simp only [ByteArray.size_append, one_size_] at h_; exact h_))
   try have c5b2 : (9223372036854775807 < ((⟨#[112]⟩ : ByteArray) ++ t138).size + 1) = False := eq_false (Nat.not_lt.2 c5)
   (try (have c5b2n : (9223372036854775807 < 1 + t138.size + 1) = False := by have h_ := c5b2; simp only [ByteArray.size_append, one_size_] at h_; exact h_))
   replace H := Option.bind_eq_some_iff.mp H
   obtain ⟨t139, A60, H⟩ := H
   replace H : (if (((⟨#[112]⟩ : ByteArray) ++ t138) ++ (⟨#[46]⟩ : ByteArray)).size + t139.size ≤ 9223372036854775807 then (some ((((⟨#[112]⟩ : ByteArray) ++ t138) ++ (⟨#[46]⟩ : ByteArray)) ++ t139)) else (none)) = some r := H
   have A6 := AM A60
   clear A60
   by_cases c7 : (((⟨#[112]⟩ : ByteArray) ++ t138) ++ (⟨#[46]⟩ : ByteArray)).size + t139.size ≤ 9223372036854775807
   ·rw [if_pos c7] at H
    have c7b0 := eq_true c7
    have c7b1 : decide ((((⟨#[112]⟩ : ByteArray) ++ t138) ++ (⟨#[46]⟩ : ByteArray)).size + t139.size ≤ 9223372036854775807) = true := decide_eq_true c7
    (try (have c7b1n : decide (1 + t138.size + 1 + t139.size ≤ 9223372036854775807) = true := by have h_ := c7b1; simp only [ByteArray.size_append, one_size_] at h_; exact h_))
    try have c7b2 : (9223372036854775807 < (((⟨#[112]⟩ : ByteArray) ++ t138) ++ (⟨#[46]⟩ : ByteArray)).size + t139.size) = False := eq_false (Nat.not_lt.2 c7)
    (try (have c7b2n : (9223372036854775807 < 1 + t138.size + 1 + t139.size) = False := by have h_ := c7b2; simp only [ByteArray.size_append, one_size_] at h_; exact h_))
    obtain rfl := Option.some.inj H
    go_enter Try.func76, Try.ntmps76
    go_wp2_with (first | ((with_reducible refine gate_dst (N := 2) rfl ?_); refine box_event ?hg (N := 2) ?hd (cs := #[.int .i64 a0_0, .int .i64 a0_1, .int .i64 a0_2]) (t := 30) ?hr ?_; (case hd => rfl); (case hg => rfl); (case hr => first | (go_simp; done) | (go_simp; rfl)); intro gb137 hg w8 hbox hb; have n0_ := AM (bP (by repeat (first | (with_reducible first | exact HB.out | apply bA | apply bN | apply b1) | exact HB.out)) hb); have n1_ := AM (hbox); have n2_ := AM ((by rw [hg]; exact (below_size (by repeat (first | (with_reducible first | exact HB.out | apply bA | apply bN | apply b1) | exact HB.out))) : w.heap.size ≤ gb137)); have n3_ := AM ((by rw [hg]; exact (below_size (by repeat (first | (with_reducible first | exact HB.out | apply bA | apply bN | apply b1) | exact HB.out))) : w.heap.size ≤ gb137)); clear HB; have HB := n0_; have BK137 := n1_; have GW137 := n2_; have GE137 := n3_; clear n0_ n1_ n2_ n3_; clear hb hbox hg; have hcz9_0 : w8.cell? ⟨gb137, 0, none⟩ = some (.int .i64 a0_0) := (kC BK137.out 0).trans rfl; have hcz9_1 : w8.cell? ⟨gb137, 1, none⟩ = some (.int .i64 a0_1) := (kC BK137.out 1).trans rfl; have hcz9_2 : w8.cell? ⟨gb137, 2, none⟩ = some (.int .i64 a0_2) := (kC BK137.out 2).trans rfl; have hfz9_0 := kF BK137.out 0; have hfz9_1 := kF BK137.out 1; have hfz9_2 := kF BK137.out 2) | ((with_reducible refine gate_callee (f := 79) rfl ?_); refine goesL_ (some 6) rfl rfl Try.func79 (by kernel_rfl) rfl #[.agg #[.int .i64 a0_0, .int .i64 a0_1, .int .i64 a0_2]] rfl (by (try simp only [mA, mC, mN]); first | done | rfl | (simp only [List.length_drop, List.length_take]; rfl)) ?_; (with_reducible refine (spec_TxText.calls k a0_0 a0_1 a0_2 t138 _ A3.out).mono ?_); rintro e w10 ⟨rfl, hb⟩; refine ⟨_, rfl, ?_⟩; have n0_ := AM (kB (g := gb137) (o := .cells #[.int .i64 a0_0, .int .i64 a0_1, .int .i64 a0_2] 30 (0, 0)) (by (with_reducible repeat (first | refine kN ?_ _ | refine blk_drew ?_ | refine kA ?_ _)); exact BK137.out) hb); have n1_ := AM (bP (by repeat (first | (with_reducible first | exact HB.out | apply bA | apply bN | apply b1 | refine bS ?_ GE137.out) | exact HB.out)) hb); clear BK137; clear HB; have BK137 := n0_; have HB := n1_; clear n0_ n1_; (try clear hb); (try clear hb2); (try clear hk); (try clear hi)) | ((with_reducible refine gate_callee (f := 78) rfl ?_); refine goesL_ (some 10) rfl rfl Try.func78 (by kernel_rfl) rfl #[.int .i64 a1] rfl (by (try simp only [mA, mC, mN]); first | done | rfl | (simp only [List.length_drop, List.length_take]; rfl)) ?_; (with_reducible refine (spec_NumText.calls k a1 t139 _ A6.out).mono ?_); rintro e w11 ⟨rfl, hb⟩; refine ⟨_, rfl, ?_⟩; have n0_ := AM (kB (g := gb137) (o := .cells #[.int .i64 a0_0, .int .i64 a0_1, .int .i64 a0_2] 30 (0, 0)) (by (with_reducible repeat (first | refine kN ?_ _ | refine blk_drew ?_ | refine kA ?_ _)); exact BK137.out) hb); have n1_ := AM (bP (by repeat (first | (with_reducible first | exact HB.out | apply bA | apply bN | apply b1 | refine bS ?_ GE137.out) | exact HB.out)) hb); clear BK137; clear HB; have BK137 := n0_; have HB := n1_; clear n0_ n1_; (try clear hb); (try clear hb2); (try clear hk); (try clear hi)))
    go_ret
    exact ⟨by first | rfl | (simp [errW_none, errW_some] <;> rfl) | (simp [*, errW_none, errW_some] <;> rfl), by repeat (first | (with_reducible first | exact HB.out | apply bA | apply bN | apply b1 | refine bS ?_ GE137.out) | exact HB.out)⟩
   ·rw [if_neg c7] at H
    exact absurd H (by simp)
  ·rw [if_neg c5] at H
   exact absurd H (by simp)
 ·rw [if_neg c4] at H
  exact absurd H (by simp)

/-! ### spec_PutVar: function 92 -/
def spec_PutVar.l0 : Nat → Int → List Int → Option (List Int × Bool)
 | 0, _, _ => none
 | k + 1, x1, x6 => if x1 ≥ 128 then (if x6.length < 140737488355328 then (spec_PutVar.l0 k (wrap64 (Int.tdiv x1 128)) (x6 ++ [(wrap64 (128 + (Int.tmod x1 128))) % 256])) else (none)) else (if x6.length < 140737488355328 then ((some (x6 ++ [(x1) % 256] : List Int)).bind fun y150 => (if (y150.length : Int) > 4096 then (some (([] : List Int), false)) else (some (y150, true)))) else (none))
def spec_PutVar.f (k : Nat) (l0 : List Int) (a1 : Int) : Option (List Int × Bool) := (spec_l01Num.f a1).bind fun t140 => (if t140 = true then ((some (([] : List Int) : List Int)).bind fun y141 => (if y141.length + l0.length < 140737488355328 then (spec_PutVar.l0 k a1 (y141 ++ l0)) else (none))) else (some (([] : List Int), false)))
theorem spec_PutVar.mono_l : ∀ k, (∀ y0 y1, LeO (spec_PutVar.l0 k y0 y1) (spec_PutVar.l0 (k + 1) y0 y1))
 | 0 => fun _ _ r h => by simp [spec_PutVar.l0] at h
 | k + 1 => by
  have ih0 := spec_PutVar.mono_l k
  ·intro y0 y1
   unfold spec_PutVar.l0
   repeat' first
   | (with_reducible exact ih0 _ _)
   | (with_reducible exact LeO.refl _)
   | (with_reducible exact LeO.none _)
   | (with_reducible refine LeO.ite ?_ ?_)
   | (with_reducible refine LeO.bind ?_ (fun _ => ?_))
   | exact ih0 _ _
   | exact LeO.none _
   | refine LeO.ite ?_ ?_
   | refine LeO.bind ?_ (fun _ => ?_)
theorem spec_PutVar.mono : ∀ a0 a1 k, LeO (spec_PutVar.f k a0 a1) (spec_PutVar.f (k + 1) a0 a1) := by
 intro a0 a1 k
 have ih0 := spec_PutVar.mono_l k
 unfold spec_PutVar.f
 repeat' first
   | (with_reducible exact ih0 _ _)
   | (with_reducible exact LeO.refl _)
   | (with_reducible exact LeO.none _)
   | (with_reducible refine LeO.ite ?_ ?_)
   | (with_reducible refine LeO.bind ?_ (fun _ => ?_))
   | exact ih0 _ _
   | exact LeO.none _
   | refine LeO.ite ?_ ?_
   | refine LeO.bind ?_ (fun _ => ?_)
set_option maxHeartbeats 8000000 in
set_option maxRecDepth 100000 in
theorem spec_PutVar.calls (k : Nat) (A0 : Option Addr) (c0 : Nat) (l0 : List Int) (a1 : Int) (r1 : List Int) (r2 : Bool) (w : World) (hr0 : Kd.C (Kd.int .u8) w A0 l0.length l0) (hc0 : l0.length ≤ c0) (h : spec_PutVar.f k l0 a1 = some (r1, r2)) :
  Calls Try.prog 92 #[.slice A0 l0.length c0, .int .i64 a1] w fun e w' => ∃ v0_ : Value, e = .returned (.tuple #[v0_, .bool r2]) ∧ Kd.R (Kd.int .u8) 5 w' w.heap.size (fun _ => True) v0_ r1 ∧ Below w.heap.size w w' := by
 have HR0 := AM hr0
 have HC0 := AM hc0
 clear hr0 hc0
 have HB := AM (Below.refl w.heap.size w)
 have H : ((spec_l01Num.f a1).bind fun t140 => (if t140 = true then ((some (([] : List Int) : List Int)).bind fun y141 => (if y141.length + l0.length < 140737488355328 then (spec_PutVar.l0 k a1 (y141 ++ l0)) else (none))) else (some (([] : List Int), false)))) = some (r1, r2) := h
 clear h
 replace H := Option.bind_eq_some_iff.mp H
 obtain ⟨t140, A30, H⟩ := H
 replace H : (if t140 = true then ((some (([] : List Int) : List Int)).bind fun y141 => (if y141.length + l0.length < 140737488355328 then (spec_PutVar.l0 k a1 (y141 ++ l0)) else (none))) else (some (([] : List Int), false))) = some (r1, r2) := H
 have A3 := AM A30
 clear A30
 by_cases c4 : t140 = true
 ·subst c4
  have H1 : ((some (([] : List Int) : List Int)).bind fun y141 => (if y141.length + l0.length < 140737488355328 then (spec_PutVar.l0 k a1 (y141 ++ l0)) else (none))) = some (r1, r2) := by rw [if_pos rfl] at H; exact H
  clear H
  have H := H1
  clear H1
  obtain ⟨y141, hy141⟩ : ∃ y_ : List Int, y_ = (([] : List Int)) := ⟨_, rfl⟩
  replace H : (if y141.length + l0.length < 140737488355328 then (spec_PutVar.l0 k a1 (y141 ++ l0)) else (none)) = some (r1, r2) := by first | (rw [hy141]; with_reducible exact H) | (have H2_ := (Option.bind_some _ _).symm.trans H; rw [hy141]; with_reducible exact H2_) | (have H2_ := (Option.bind_some _ _).symm.trans H; with_reducible exact H2_) | with_reducible exact H | (rw [hy141]; exact H) | exact H
  have Ny141 := AM hy141
  clear hy141
  by_cases c5 : y141.length + l0.length < 140737488355328
  ·rw [if_pos c5] at H
   have LMc5 := AM c5
   clear c5
   obtain ⟨y144, hy144⟩ : ∃ y_ : List Int, y_ = (y141 ++ l0) := ⟨_, rfl⟩
   replace H : (spec_PutVar.l0 k a1 y144) = some (r1, r2) := by first | (rw [hy144]; with_reducible exact H) | (have H2_ := (Option.bind_some _ _).symm.trans H; rw [hy144]; with_reducible exact H2_) | (have H2_ := (Option.bind_some _ _).symm.trans H; with_reducible exact H2_) | with_reducible exact H | (rw [hy144]; exact H) | exact H
   have Ny144 := AM hy144
   clear hy144
   have H' := AM H
   clear H
   go_enter Try.func92, Try.ntmps92
   go_wp2_with (first | ((with_reducible refine gate_callee (f := 114) rfl ?_); refine goesL_ (some 8) rfl rfl Try.func114 (by kernel_rfl) rfl #[.int .i64 a1] rfl (by (try simp only [mA, mC, mN]); first | done | rfl | (simp only [List.length_drop, List.length_take]; rfl)) ?_; (with_reducible refine (spec_l01Num.calls a1 true _ A3.out).mono ?_); rintro e w' ⟨rfl, ⟨nd, rfl⟩⟩; refine ⟨_, rfl, ?_⟩) | ((with_reducible refine gate_dst (N := 10) rfl ?_); refine Kd.R_lit (Kd.int .u8) _ 5 ?hg (N := 10) ?hd (xs := ([] : List Int)) (inner := []) (ok := fun _ => True) (okp := fun _ => True) ?hr ?hp (fun _ hk => hk) trivial (Below.refl _ _) (Nat.le_refl _) (by simp) ?_; (case hd => rfl); (case hg => rfl); (case hr => first | (go_simp; done) | (go_simp; rfl)); (case hp => exact (Reps.none _ _)); intro v142 w6 ho7 hb hg_ hnew_; clear hg_ hnew_; (first | rw [← Ny141.out] at ho7 | (simp only [Int.reduceToNat] at ho7; rw [← Ny141.out] at ho7)); have n0_ := AM (Kd.R_lower ho7 (below_size (by repeat (first | (with_reducible first | exact HB.out | apply bA | apply bN | apply b1) | exact HB.out)))); have n1_ := AM (bP (by repeat (first | (with_reducible first | exact HB.out | apply bA | apply bN | apply b1) | exact HB.out)) hb); clear HB; have HO143 := n0_; have HB := n1_; clear n0_ n1_; clear hb ho7) | ((with_reducible refine gate_builtin (b := .append) (xs := #[.tmp 10, .tmp 11]) rfl ?_); at_builtin; refine Kd.R_append_rows (Kd.int .u8) (w0 := w) w.heap.size rfl (.tmp 10) (.tmp 11) 48 5 (.int .u8 0) 1 rfl Try.underlying48 info5 rfl (by decide) (by omega) v142 y141 l0 _ _ _ (fun _ => True) (fun _ => False) rfl rfl ?aO ?aR (fun _ _ h => h) (fun _ h => h.elim) ?aF ?aB ?aS ?aL ?_; (case aR => repeat (first | exact (Kd.C_below HR0.out HB.out) | (with_reducible refine Kd.C_alloc ?_ _) | (with_reducible refine Kd.C_drewN ?_ _) | (with_reducible refine Kd.C_drew ?_))); (case aB => exact (by repeat (first | (with_reducible first | exact HB.out | apply bA | apply bN | apply b1) | exact HB.out))); (case aF => exact (fun _ _ => trivial)); (case aO => exact (by (with_reducible repeat (first | apply Kd.R_alloc | apply Kd.R_drewN | apply Kd.R_drew)); exact HO143.out)); (case aS => exact (below_size (by repeat (first | (with_reducible first | exact HB.out | apply bA | apply bN | apply b1) | exact HB.out)))); (case aL => have := LMc5.out; omega); intro v145 w8 ho hb hg hat; rw [← Ny144.out] at ho; have n0_ := AM (hb); have n1_ := AM (ho); clear HB; clear HO143; have HB := n0_; have HO146 := n1_; clear n0_ n1_; clear ho hb hg hat))
   go_loopg [1, 6] k (fun kq v1 v6 w' => ∃ (x1_1 : Int) (x6_1 : List Int), v1 = .int .i64 x1_1 ∧ Aside0 (spec_PutVar.l0 kq x1_1 x6_1 = some (r1, r2)) ∧ Aside0 (kq ≤ k) ∧ Aside0 (Kd.R (Kd.int .u8) 5 w' w.heap.size (fun _ => True) v6 x6_1) ∧ Aside0 (Below w.heap.size w w'))
   case atStart => exact ⟨(a1), (y144), (by first | rfl | (simp; done) | (simp [*]; done) | (simp [bne_nil_]; done) | (simp [*, bne_nil_]; done)), H', ⟨Nat.le_refl _⟩, ⟨by (with_reducible repeat (first | apply Kd.R_alloc | apply Kd.R_drewN | apply Kd.R_drew)); exact HO146.out⟩, ⟨by repeat (first | (with_reducible first | exact HB.out | apply bA | apply bN | apply b1) | exact HB.out)⟩⟩
   case round =>
    clear H'
    try clear c1
    try clear p2
    try clear c4
    try clear c5
    obtain ⟨x1_1, x6_1, rfl, HA, HK1, HO_6, HB⟩ := hrel
    cases gk with
    | zero => exact absurd HA.out (by simp [spec_PutVar.l0])
    | succ k1 =>
     have H := HA.out
     clear HA
     simp only [spec_PutVar.l0] at H
     by_cases c9 : x1_1 ≥ 128
     ·rw [if_pos c9] at H
      have c9b0 : decide (128 ≤ x1_1) = true := decide_eq_true c9
      clear c9
      by_cases c10 : x6_1.length < 140737488355328
      ·rw [if_pos c10] at H
       have LMc10 := AM c10
       clear c10
       obtain ⟨y147, hy147⟩ : ∃ y_ : List Int, y_ = (x6_1 ++ [(wrap64 (128 + (Int.tmod x1_1 128))) % 256]) := ⟨_, rfl⟩
       replace H : (spec_PutVar.l0 k1 (wrap64 (Int.tdiv x1_1 128)) y147) = some (r1, r2) := by first | (rw [hy147]; with_reducible exact H) | (have H2_ := (Option.bind_some _ _).symm.trans H; rw [hy147]; with_reducible exact H2_) | (have H2_ := (Option.bind_some _ _).symm.trans H; with_reducible exact H2_) | with_reducible exact H | (rw [hy147]; exact H) | exact H
       have Ny147 := AM hy147
       clear hy147
       have H' := AM H
       clear H
       go_wp2_with (first | ((with_reducible refine gate_builtin (b := .append) (xs := #[.tmp 15, .tmp 20]) rfl ?_); at_builtin; refine Kd.R_append (Kd.int .u8) (w0 := w) w.heap.size rfl (.tmp 15) (.tmp 20) 48 5 (.int .u8 0) 1 rfl Try.underlying48 info5 rfl (by decide) (by omega) u6 x6_1 ((wrap64 (128 + (Int.tmod x1_1 128))) % 256) [.int .u8 ((wrap64 (128 + (Int.tmod x1_1 128))) % 256)] (fun _ => True) (fun _ => False) rfl rfl ?aP (fun _ hk => hk.elim) ?aF ?aO ?aB ?aS ?aL ?_; (case aP => exact rfl); (case aB => exact (by repeat (first | (with_reducible first | exact HB.out | apply bA | apply bN | apply b1) | exact HB.out))); (case aF => exact (fun _ _ => trivial)); (case aO => exact (by (with_reducible repeat (first | apply Kd.R_alloc | apply Kd.R_drewN | apply Kd.R_drew)); exact HO_6.out)); (case aS => exact (below_size (by repeat (first | (with_reducible first | exact HB.out | apply bA | apply bN | apply b1) | exact HB.out)))); (case aL => have := LMc10.out; omega); intro v148 w11 ho hb hg hat; rw [← Ny147.out] at ho; have n0_ := AM (hb); have n1_ := AM (ho); clear HB; clear HO_6; have HB := n0_; have HO149 := n1_; clear n0_ n1_; clear ho hb hg hat))
       go_roundg k1
       case measure => have := HK1.out; omega
       case rel => exact ⟨(wrap64 (Int.tdiv x1_1 128)), (y147), (by first | rfl | (simp; done) | (simp [*]; done) | (simp [bne_nil_]; done) | (simp [*, bne_nil_]; done)), H', ⟨by have := HK1.out; omega⟩, ⟨by (with_reducible repeat (first | apply Kd.R_alloc | apply Kd.R_drewN | apply Kd.R_drew)); exact HO149.out⟩, ⟨by repeat (first | (with_reducible first | exact HB.out | apply bA | apply bN | apply b1) | exact HB.out)⟩⟩
      ·rw [if_neg c10] at H
       exact absurd H (by simp)
     ·rw [if_neg c9] at H
      have c9b0 : decide (128 ≤ x1_1) = false := decide_eq_false c9
      clear c9
      by_cases c12 : x6_1.length < 140737488355328
      ·rw [if_pos c12] at H
       have LMc12 := AM c12
       clear c12
       obtain ⟨y150, hy150⟩ : ∃ y_ : List Int, y_ = (x6_1 ++ [(x1_1) % 256]) := ⟨_, rfl⟩
       replace H : (if (y150.length : Int) > 4096 then (some (([] : List Int), false)) else (some (y150, true))) = some (r1, r2) := by first | (rw [hy150]; with_reducible exact H) | (have H2_ := (Option.bind_some _ _).symm.trans H; rw [hy150]; with_reducible exact H2_) | (have H2_ := (Option.bind_some _ _).symm.trans H; with_reducible exact H2_) | with_reducible exact H | (rw [hy150]; exact H) | exact H
       have Ny150 := AM hy150
       clear hy150
       by_cases c13 : (y150.length : Int) > 4096
       ·rw [if_pos c13] at H
        have c13b0 : decide (4096 < (y150.length : Int)) = true := decide_eq_true c13
        have c13b1 : decide (4096 < y150.length) = true := decide_eq_true (by omega)
        clear c13
        simp only [Option.some.injEq, Prod.mk.injEq] at H
        obtain ⟨rfl, rfl⟩ := H
        go_wp2_with (first | ((with_reducible refine gate_builtin (b := .append) (xs := #[.tmp 24, .tmp 27]) rfl ?_); at_builtin; refine Kd.R_append (Kd.int .u8) (w0 := w) w.heap.size rfl (.tmp 24) (.tmp 27) 48 5 (.int .u8 0) 1 rfl Try.underlying48 info5 rfl (by decide) (by omega) u6 x6_1 ((x1_1) % 256) [.int .u8 ((x1_1) % 256)] (fun _ => True) (fun _ => False) rfl rfl ?aP (fun _ hk => hk.elim) ?aF ?aO ?aB ?aS ?aL ?_; (case aP => exact rfl); (case aB => exact (by repeat (first | (with_reducible first | exact HB.out | apply bA | apply bN | apply b1) | exact HB.out))); (case aF => exact (fun _ _ => trivial)); (case aO => exact (by (with_reducible repeat (first | apply Kd.R_alloc | apply Kd.R_drewN | apply Kd.R_drew)); exact HO_6.out)); (case aS => exact (below_size (by repeat (first | (with_reducible first | exact HB.out | apply bA | apply bN | apply b1) | exact HB.out)))); (case aL => have := LMc12.out; omega); intro v151 w14 ho hb hg hat; rw [← Ny150.out] at ho; have n0_ := AM (hb); have n1_ := AM (ho); clear HB; clear HO_6; have HB := n0_; have HO152 := n1_; clear n0_ n1_; clear ho hb hg hat; obtain ⟨Ao15, co15, eo15⟩ := Kd.R_slice HO152.out; subst eo15))
        go_ret2
        exact ⟨_, by first | rfl | (simp [errW_none, errW_some] <;> rfl) | (simp [*, errW_none, errW_some] <;> rfl), by first | exact Kd.R_nil _ _ _ _ _ | exact Kd.N_nil _ _ _ _ _ | exact Kd.V_nil _ _ _ _ _ | exact Kd.Q_nil _ _ _ _ _ | exact Kd.S_nil _ _ _ _ _, by repeat (first | (with_reducible first | exact HB.out | apply bA | apply bN | apply b1) | exact HB.out)⟩
       ·rw [if_neg c13] at H
        have c13b0 : decide (4096 < (y150.length : Int)) = false := decide_eq_false c13
        have c13b1 : decide (4096 < y150.length) = false := decide_eq_false (by omega)
        clear c13
        simp only [Option.some.injEq, Prod.mk.injEq] at H
        obtain ⟨rfl, rfl⟩ := H
        go_wp2_with (first | ((with_reducible refine gate_builtin (b := .append) (xs := #[.tmp 24, .tmp 27]) rfl ?_); at_builtin; refine Kd.R_append (Kd.int .u8) (w0 := w) w.heap.size rfl (.tmp 24) (.tmp 27) 48 5 (.int .u8 0) 1 rfl Try.underlying48 info5 rfl (by decide) (by omega) u6 x6_1 ((x1_1) % 256) [.int .u8 ((x1_1) % 256)] (fun _ => True) (fun _ => False) rfl rfl ?aP (fun _ hk => hk.elim) ?aF ?aO ?aB ?aS ?aL ?_; (case aP => exact rfl); (case aB => exact (by repeat (first | (with_reducible first | exact HB.out | apply bA | apply bN | apply b1) | exact HB.out))); (case aF => exact (fun _ _ => trivial)); (case aO => exact (by (with_reducible repeat (first | apply Kd.R_alloc | apply Kd.R_drewN | apply Kd.R_drew)); exact HO_6.out)); (case aS => exact (below_size (by repeat (first | (with_reducible first | exact HB.out | apply bA | apply bN | apply b1) | exact HB.out)))); (case aL => have := LMc12.out; omega); intro v151 w16 ho hb hg hat; rw [← Ny150.out] at ho; have n0_ := AM (hb); have n1_ := AM (ho); clear HB; clear HO_6; have HB := n0_; have HO152 := n1_; clear n0_ n1_; clear ho hb hg hat; obtain ⟨Ao17, co17, eo17⟩ := Kd.R_slice HO152.out; subst eo17))
        go_ret2
        exact ⟨_, by first | rfl | (simp [errW_none, errW_some] <;> rfl) | (simp [*, errW_none, errW_some] <;> rfl), by (with_reducible repeat (first | apply Kd.R_alloc | apply Kd.R_drewN | apply Kd.R_drew)); exact HO152.out, by repeat (first | (with_reducible first | exact HB.out | apply bA | apply bN | apply b1) | exact HB.out)⟩
      ·rw [if_neg c12] at H
       exact absurd H (by simp)
  ·rw [if_neg c5] at H
   exact absurd H (by simp)
 ·replace c4 := Bool.eq_false_iff.mpr c4
  subst c4
  have H1 : (some (([] : List Int), false)) = some (r1, r2) := by rw [if_neg (show ¬ (false = true) by decide)] at H; exact H
  clear H
  have H := H1
  clear H1
  simp only [Option.some.injEq, Prod.mk.injEq] at H
  obtain ⟨rfl, rfl⟩ := H
  go_enter Try.func92, Try.ntmps92
  go_wp2_with (first | ((with_reducible refine gate_callee (f := 114) rfl ?_); refine goesL_ (some 8) rfl rfl Try.func114 (by kernel_rfl) rfl #[.int .i64 a1] rfl (by (try simp only [mA, mC, mN]); first | done | rfl | (simp only [List.length_drop, List.length_take]; rfl)) ?_; (with_reducible refine (spec_l01Num.calls a1 false _ A3.out).mono ?_); rintro e w' ⟨rfl, ⟨nd, rfl⟩⟩; refine ⟨_, rfl, ?_⟩))
  go_ret2
  exact ⟨_, by first | rfl | (simp [errW_none, errW_some] <;> rfl) | (simp [*, errW_none, errW_some] <;> rfl), by first | exact Kd.R_nil _ _ _ _ _ | exact Kd.N_nil _ _ _ _ _ | exact Kd.V_nil _ _ _ _ _ | exact Kd.Q_nil _ _ _ _ _ | exact Kd.S_nil _ _ _ _ _, by repeat (first | (with_reducible first | exact HB.out | apply bA | apply bN | apply b1) | exact HB.out)⟩

/-! ### spec_PutText: function 93 -/
-- rounds
def spec_PutText.f (k : Nat) (l0 : List Int) (a1 : ByteArray) : Option (List Int × Bool) := (spec_PutVar.f k l0 (a1.size : Int)).bind fun bt => (if bt.2 = true then (if (a1.size : Int) > wrap64 (4096 - (bt.1.length : Int)) then (some (([] : List Int), false)) else (if bt.1.length + a1.size < 140737488355328 then (some (bt.1 ++ bytesOf a1, true)) else (none))) else (some (([] : List Int), false)))
theorem spec_PutText.mono : ∀ a0 a1 k, LeO (spec_PutText.f k a0 a1) (spec_PutText.f (k + 1) a0 a1) := by
 intro a0 a1 k
 unfold spec_PutText.f
 exact LeO.bind (spec_PutVar.mono _ _ _) (fun _ => LeO.refl _)
set_option maxHeartbeats 8000000 in
set_option maxRecDepth 100000 in
theorem spec_PutText.calls (k : Nat) (A0 : Option Addr) (c0 : Nat) (l0 : List Int) (a1 : ByteArray) (r1 : List Int) (r2 : Bool) (w : World) (hr0 : Kd.C (Kd.int .u8) w A0 l0.length l0) (hc0 : l0.length ≤ c0) (h : spec_PutText.f k l0 a1 = some (r1, r2)) :
  Calls Try.prog 93 #[.slice A0 l0.length c0, .string a1] w fun e w' => ∃ v0_ : Value, e = .returned (.tuple #[v0_, .bool r2]) ∧ Kd.R (Kd.int .u8) 5 w' w.heap.size (fun _ => True) v0_ r1 ∧ Below w.heap.size w w' := by
 have HR0 := AM hr0
 have HC0 := AM hc0
 clear hr0 hc0
 have HB := AM (Below.refl w.heap.size w)
 unfold spec_PutText.f at h
 obtain ⟨⟨t1, t2⟩, A30, H⟩ := Option.bind_eq_some_iff.mp h
 clear h
 have A3 := AM A30
 clear A30
 cases t2 with
 | false =>
  have H1 : some (([] : List Int), false) = some (r1, r2) := by simpa using H
  clear H
  simp only [Option.some.injEq, Prod.mk.injEq] at H1
  obtain ⟨rfl, rfl⟩ := H1
  go_enter Try.func93, Try.ntmps93
  go_wp2_with (first | ((with_reducible refine gate_callee (f := 92) rfl ?_); refine goesL_ (some 12) rfl rfl Try.func92 (by kernel_rfl) rfl #[.slice A0 l0.length c0, .int .i64 (a1.size : Int)] rfl (by (try simp only [mA, mC, mN]); first | done | rfl) ?_; (with_reducible refine (spec_PutVar.calls k A0 c0 l0 (a1.size : Int) t1 false _ HR0.out HC0.out A3.out).mono ?_); rintro e w6 ⟨v161, rfl, ho0, hb⟩; refine ⟨_, rfl, ?_⟩; have n0_ := AM (bP HB.out hb); clear HB; have HB := n0_; clear n0_ ho0 hb))
  go_ret2
  exact ⟨_, by first | rfl | simp, Kd.R_nil _ _ _ _ _, by repeat (first | (with_reducible first | exact HB.out | apply bA | apply bN | apply b1) | exact HB.out)⟩
 | true =>
  by_cases c1 : (a1.size : Int) > wrap64 (4096 - (t1.length : Int))
  ·have H1 : some (([] : List Int), false) = some (r1, r2) := by simpa [c1] using H
   clear H
   simp only [Option.some.injEq, Prod.mk.injEq] at H1
   obtain ⟨rfl, rfl⟩ := H1
   have c1b0 : decide (wrap64 (4096 - (t1.length : Int)) < (a1.size : Int)) = true := decide_eq_true c1
   clear c1
   go_enter Try.func93, Try.ntmps93
   go_wp2_with (first | ((with_reducible refine gate_callee (f := 92) rfl ?_); refine goesL_ (some 12) rfl rfl Try.func92 (by kernel_rfl) rfl #[.slice A0 l0.length c0, .int .i64 (a1.size : Int)] rfl (by (try simp only [mA, mC, mN]); first | done | rfl) ?_; (with_reducible refine (spec_PutVar.calls k A0 c0 l0 (a1.size : Int) t1 true _ HR0.out HC0.out A3.out).mono ?_); rintro e w6 ⟨v161, rfl, ho0, hb⟩; refine ⟨_, rfl, ?_⟩; obtain ⟨Ao, co, eo⟩ := Kd.R_slice ho0; subst eo; have n0_ := AM (bP HB.out hb); clear HB; have HB := n0_; clear n0_ ho0 hb))
   go_ret2
   exact ⟨_, by first | rfl | simp, Kd.R_nil _ _ _ _ _, by repeat (first | (with_reducible first | exact HB.out | apply bA | apply bN | apply b1) | exact HB.out)⟩
  ·by_cases c2 : t1.length + a1.size < 140737488355328
   ·have H1 : some (t1 ++ bytesOf a1, true) = some (r1, r2) := by simpa [c1, c2] using H
    clear H
    simp only [Option.some.injEq, Prod.mk.injEq] at H1
    obtain ⟨rfl, rfl⟩ := H1
    have c1b0 : decide (wrap64 (4096 - (t1.length : Int)) < (a1.size : Int)) = false := decide_eq_false c1
    clear c1
    have LM := AM c2
    clear c2
    go_enter Try.func93, Try.ntmps93
    go_wp2_with (first | ((with_reducible refine gate_callee (f := 92) rfl ?_); refine goesL_ (some 12) rfl rfl Try.func92 (by kernel_rfl) rfl #[.slice A0 l0.length c0, .int .i64 (a1.size : Int)] rfl (by (try simp only [mA, mC, mN]); first | done | rfl) ?_; (with_reducible refine (spec_PutVar.calls k A0 c0 l0 (a1.size : Int) t1 true _ HR0.out HC0.out A3.out).mono ?_); rintro e w6 ⟨v161, rfl, ho0, hb⟩; refine ⟨_, rfl, ?_⟩; obtain ⟨Ao, co, eo⟩ := Kd.R_slice ho0; subst eo; have HO := AM ho0; have n0_ := AM (bP HB.out hb); clear HB; have HB := n0_; clear n0_ ho0 hb) | ((with_reducible refine gate_dst (N := 27) rfl ?_); refine conv_event rfl (N := 27) rfl 9 48 5 (.tmp 26) a1 rfl rfl Try.underlying9 Try.underlying48 Try.underlying5 ?sz ?_; (case sz => have := LM.out; omega); intro AC cC w7 hcC hC hb; have HC := AM hC; have n1_ := AM (Kd.R_below (by (with_reducible repeat (first | apply Kd.R_alloc | apply Kd.R_drewN | apply Kd.R_drew)); exact HO.out) hb); have n0_ := AM (bP (by repeat (first | (with_reducible first | exact HB.out | apply bA | apply bN | apply b1) | exact HB.out)) hb); clear HB HO; have HB := n0_; have HO := n1_; clear n0_ n1_ hb hC hcC) | (at_builtin; refine Kd.R_append_rows (Kd.int .u8) (w0 := w) w.heap.size rfl (.tmp 25) (.tmp 27) 48 5 (.int .u8 0) 1 rfl Try.underlying48 info5 rfl (by decide) (by omega) (.slice Ao t1.length co) t1 (bytesOf a1) _ _ _ (fun _ => True) (fun _ => False) rfl rfl ?aO ?aR (fun _ _ h => h) (fun _ h => h.elim) ?aF ?aB ?aS ?aL ?_; (case aR => repeat (first | exact HC.out | (with_reducible refine Kd.C_alloc ?_ _) | (with_reducible refine Kd.C_drewN ?_ _) | (with_reducible refine Kd.C_drew ?_))); (case aB => exact (by repeat (first | (with_reducible first | exact HB.out | apply bA | apply bN | apply b1) | exact HB.out))); (case aF => exact (fun _ _ => trivial)); (case aO => exact (by (with_reducible repeat (first | apply Kd.R_alloc | apply Kd.R_drewN | apply Kd.R_drew)); exact HO.out)); (case aS => exact (below_size (by repeat (first | (with_reducible first | exact HB.out | apply bA | apply bN | apply b1) | exact HB.out)))); (case aL => have := LM.out; omega); intro v8 w8 ho hb hg hat; have n0_ := AM hb; have n1_ := AM ho; clear HB HO; have HB := n0_; have HO2 := n1_; clear n0_ n1_ hb ho hg hat))
    go_ret2
    exact ⟨_, by first | rfl | simp, by (with_reducible repeat (first | apply Kd.R_alloc | apply Kd.R_drewN | apply Kd.R_drew)); exact HO2.out, by repeat (first | (with_reducible first | exact HB.out | apply bA | apply bN | apply b1) | exact HB.out)⟩
   ·exact absurd H (by simp [c1, c2])


/-! ### spec_RecText: function 77 -/
def spec_RecText.f (k : Nat) (a0_0 : Int) (a0_1 : ByteArray) (a0_2 : ByteArray) (a0_3 : ByteArray) (a0_4 : ByteArray) : Option (ByteArray) := (spec_RecOk.f a0_0 a0_1 a0_2 a0_3 a0_4).bind fun t154 => (if t154 = true then (if 0 ≤ a0_0 then (if a0_0 < 5 then ((some (([bt (⟨#[32, 119, 103, 115, 120]⟩ : ByteArray) a0_0] : List Int) : List Int)).bind fun y155 => (if a0_0 > 2 then ((spec_PutText.f k y155 a0_3).bind fun bt158 => ((spec_PutText.f k bt158.1 a0_4).bind fun bt162 => (some (strOfNums bt162.1)))) else ((spec_PutText.f k y155 a0_1).bind fun bt166 => (if a0_0 = 1 then ((spec_PutText.f k bt166.1 a0_2).bind fun bt170 => (some (strOfNums bt170.1))) else (some (strOfNums bt166.1)))))) else (none)) else (none)) else (some (⟨#[]⟩ : ByteArray)))
theorem spec_RecText.mono : ∀ a0 a1 a2 a3 a4 k, LeO (spec_RecText.f k a0 a1 a2 a3 a4) (spec_RecText.f (k + 1) a0 a1 a2 a3 a4) := by
 intro a0 a1 a2 a3 a4 k
 unfold spec_RecText.f
 repeat' first
   | (with_reducible exact spec_PutText.mono _ _ _)
   | (with_reducible exact LeO.refl _)
   | (with_reducible exact LeO.none _)
   | (with_reducible refine LeO.ite ?_ ?_)
   | (with_reducible refine LeO.bind ?_ (fun _ => ?_))
   | exact spec_PutText.mono _ _ _
   | exact LeO.none _
   | refine LeO.ite ?_ ?_
   | refine LeO.bind ?_ (fun _ => ?_)
set_option maxHeartbeats 8000000 in
set_option maxRecDepth 100000 in
theorem spec_RecText.calls (k : Nat) (a0_0 : Int) (a0_1 : ByteArray) (a0_2 : ByteArray) (a0_3 : ByteArray) (a0_4 : ByteArray) (r : ByteArray) (w : World) (h : spec_RecText.f k a0_0 a0_1 a0_2 a0_3 a0_4 = some r) :
  Calls Try.prog 77 #[.agg #[.int .i64 a0_0, .string a0_1, .string a0_2, .string a0_3, .string a0_4]] w fun e w' => e = .returned (.string r) ∧ Below w.heap.size w w' := by
 have hu113 := Try.underlying113
 have HB := AM (Below.refl w.heap.size w)
 have H : ((spec_RecOk.f a0_0 a0_1 a0_2 a0_3 a0_4).bind fun t154 => (if t154 = true then (if 0 ≤ a0_0 then (if a0_0 < 5 then ((some (([bt (⟨#[32, 119, 103, 115, 120]⟩ : ByteArray) a0_0] : List Int) : List Int)).bind fun y155 => (if a0_0 > 2 then ((spec_PutText.f k y155 a0_3).bind fun bt158 => ((spec_PutText.f k bt158.1 a0_4).bind fun bt162 => (some (strOfNums bt162.1)))) else ((spec_PutText.f k y155 a0_1).bind fun bt166 => (if a0_0 = 1 then ((spec_PutText.f k bt166.1 a0_2).bind fun bt170 => (some (strOfNums bt170.1))) else (some (strOfNums bt166.1)))))) else (none)) else (none)) else (some (⟨#[]⟩ : ByteArray)))) = some r := h
 clear h
 replace H := Option.bind_eq_some_iff.mp H
 obtain ⟨t154, A20, H⟩ := H
 replace H : (if t154 = true then (if 0 ≤ a0_0 then (if a0_0 < 5 then ((some (([bt (⟨#[32, 119, 103, 115, 120]⟩ : ByteArray) a0_0] : List Int) : List Int)).bind fun y155 => (if a0_0 > 2 then ((spec_PutText.f k y155 a0_3).bind fun bt158 => ((spec_PutText.f k bt158.1 a0_4).bind fun bt162 => (some (strOfNums bt162.1)))) else ((spec_PutText.f k y155 a0_1).bind fun bt166 => (if a0_0 = 1 then ((spec_PutText.f k bt166.1 a0_2).bind fun bt170 => (some (strOfNums bt170.1))) else (some (strOfNums bt166.1)))))) else (none)) else (none)) else (some (⟨#[]⟩ : ByteArray))) = some r := H
 have A2 := AM A20
 clear A20
 by_cases c3 : t154 = true
 ·subst c3
  have H1 : (if 0 ≤ a0_0 then (if a0_0 < 5 then ((some (([bt (⟨#[32, 119, 103, 115, 120]⟩ : ByteArray) a0_0] : List Int) : List Int)).bind fun y155 => (if a0_0 > 2 then ((spec_PutText.f k y155 a0_3).bind fun bt158 => ((spec_PutText.f k bt158.1 a0_4).bind fun bt162 => (some (strOfNums bt162.1)))) else ((spec_PutText.f k y155 a0_1).bind fun bt166 => (if a0_0 = 1 then ((spec_PutText.f k bt166.1 a0_2).bind fun bt170 => (some (strOfNums bt170.1))) else (some (strOfNums bt166.1)))))) else (none)) else (none)) = some r := by rw [if_pos rfl] at H; exact H
  clear H
  have H := H1
  clear H1
  by_cases c4 : 0 ≤ a0_0
  ·rw [if_pos c4] at H
   have c4b0 : decide (0 ≤ a0_0) = true := decide_eq_true c4
   clear c4
   by_cases c5 : a0_0 < 5
   ·rw [if_pos c5] at H
    have c5b0 : decide (a0_0 < 5) = true := decide_eq_true c5
    clear c5
    obtain ⟨y155, hy155⟩ : ∃ y_ : List Int, y_ = (([bt (⟨#[32, 119, 103, 115, 120]⟩ : ByteArray) a0_0] : List Int)) := ⟨_, rfl⟩
    replace H : (if a0_0 > 2 then ((spec_PutText.f k y155 a0_3).bind fun bt158 => ((spec_PutText.f k bt158.1 a0_4).bind fun bt162 => (some (strOfNums bt162.1)))) else ((spec_PutText.f k y155 a0_1).bind fun bt166 => (if a0_0 = 1 then ((spec_PutText.f k bt166.1 a0_2).bind fun bt170 => (some (strOfNums bt170.1))) else (some (strOfNums bt166.1))))) = some r := by first | (rw [hy155]; with_reducible exact H) | (have H2_ := (Option.bind_some _ _).symm.trans H; rw [hy155]; with_reducible exact H2_) | (have H2_ := (Option.bind_some _ _).symm.trans H; with_reducible exact H2_) | with_reducible exact H | (rw [hy155]; exact H) | exact H
    have Ny155 := AM hy155
    clear hy155
    by_cases c7 : a0_0 > 2
    ·rw [if_pos c7] at H
     have c7b0 : decide (2 < a0_0) = true := decide_eq_true c7
     clear c7
     replace H := Option.bind_eq_some_iff.mp H
     obtain ⟨⟨t158, t159⟩, A80, H⟩ := H
     replace H : ((spec_PutText.f k t158 a0_4).bind fun bt162 => (some (strOfNums bt162.1))) = some r := H
     have A8 := AM A80
     clear A80
     replace H := Option.bind_eq_some_iff.mp H
     obtain ⟨⟨t162, t163⟩, A90, H⟩ := H
     replace H : (some (strOfNums t162)) = some r := H
     have A9 := AM A90
     clear A90
     obtain rfl := Option.some.inj H
     go_enter Try.func77, Try.ntmps77
     go_wp2_with (first | ((with_reducible refine gate_dst (N := 1) rfl ?_); refine box_event ?hg (N := 1) ?hd (cs := #[.int .i64 a0_0, .string a0_1, .string a0_2, .string a0_3, .string a0_4]) (t := 113) ?hr ?_; (case hd => rfl); (case hg => rfl); (case hr => first | (go_simp; done) | (go_simp; rfl)); intro gb153 hg w10 hbox hb; have n0_ := AM (bP (by repeat (first | (with_reducible first | exact HB.out | apply bA | apply bN | apply b1) | exact HB.out)) hb); have n1_ := AM (hbox); have n2_ := AM ((by rw [hg]; exact (below_size (by repeat (first | (with_reducible first | exact HB.out | apply bA | apply bN | apply b1) | exact HB.out))) : w.heap.size ≤ gb153)); have n3_ := AM ((by rw [hg]; exact (below_size (by repeat (first | (with_reducible first | exact HB.out | apply bA | apply bN | apply b1) | exact HB.out))) : w.heap.size ≤ gb153)); clear HB; have HB := n0_; have BK153 := n1_; have GW153 := n2_; have GE153 := n3_; clear n0_ n1_ n2_ n3_; clear hb hbox hg; have hcz11_0 : w10.cell? ⟨gb153, 0, none⟩ = some (.int .i64 a0_0) := (kC BK153.out 0).trans rfl; have hcz11_1 : w10.cell? ⟨gb153, 1, none⟩ = some (.string a0_1) := (kC BK153.out 1).trans rfl; have hcz11_2 : w10.cell? ⟨gb153, 2, none⟩ = some (.string a0_2) := (kC BK153.out 2).trans rfl; have hcz11_3 : w10.cell? ⟨gb153, 3, none⟩ = some (.string a0_3) := (kC BK153.out 3).trans rfl; have hcz11_4 : w10.cell? ⟨gb153, 4, none⟩ = some (.string a0_4) := (kC BK153.out 4).trans rfl; have hfz11_0 := kF BK153.out 0; have hfz11_1 := kF BK153.out 1; have hfz11_2 := kF BK153.out 2; have hfz11_3 := kF BK153.out 3; have hfz11_4 := kF BK153.out 4) | ((with_reducible refine gate_callee (f := 156) rfl ?_); refine goesL_ (some 5) rfl rfl Try.func156 (by kernel_rfl) rfl #[.agg #[.int .i64 a0_0, .string a0_1, .string a0_2, .string a0_3, .string a0_4]] rfl (by (try simp only [mA, mC, mN]); first | done | rfl | (simp only [List.length_drop, List.length_take]; rfl)) ?_; (with_reducible refine (spec_RecOk.calls a0_0 a0_1 a0_2 a0_3 a0_4 true _ A2.out).mono ?_); rintro e w12 ⟨rfl, hb⟩; refine ⟨_, rfl, ?_⟩; have n0_ := AM (kB (g := gb153) (o := .cells #[.int .i64 a0_0, .string a0_1, .string a0_2, .string a0_3, .string a0_4] 113 (0, 0)) (by (with_reducible repeat (first | refine kN ?_ _ | refine blk_drew ?_ | refine kA ?_ _)); exact BK153.out) hb); have n1_ := AM (bP (by repeat (first | (with_reducible first | exact HB.out | apply bA | apply bN | apply b1 | refine bS ?_ GE153.out) | exact HB.out)) hb); clear BK153; clear HB; have BK153 := n0_; have HB := n1_; clear n0_ n1_; (try clear hb); (try clear hb2); (try clear hk); (try clear hi); have hcz13_0 : w12.cell? ⟨gb153, 0, none⟩ = some (.int .i64 a0_0) := (kC BK153.out 0).trans rfl; have hcz13_1 : w12.cell? ⟨gb153, 1, none⟩ = some (.string a0_1) := (kC BK153.out 1).trans rfl; have hcz13_2 : w12.cell? ⟨gb153, 2, none⟩ = some (.string a0_2) := (kC BK153.out 2).trans rfl; have hcz13_3 : w12.cell? ⟨gb153, 3, none⟩ = some (.string a0_3) := (kC BK153.out 3).trans rfl; have hcz13_4 : w12.cell? ⟨gb153, 4, none⟩ = some (.string a0_4) := (kC BK153.out 4).trans rfl; have hfz13_0 := kF BK153.out 0; have hfz13_1 := kF BK153.out 1; have hfz13_2 := kF BK153.out 2; have hfz13_3 := kF BK153.out 3; have hfz13_4 := kF BK153.out 4; have p6 : 0 ≤ (a0_0 : Int) := of_decide_eq_true (by first | (with_reducible assumption) | assumption); have q6 : a0_0 < (5 : Int) := of_decide_eq_true (by first | (with_reducible assumption) | assumption); have hx6 := bt_at (⟨#[32, 119, 103, 115, 120]⟩ : ByteArray) a0_0; replace p6 := eq_true p6; replace q6 := eq_true q6) | ((with_reducible refine gate_dst (N := 10) rfl ?_); refine Kd.R_lit (Kd.int .u8) _ 5 ?hg (N := 10) ?hd (xs := ([bt (⟨#[32, 119, 103, 115, 120]⟩ : ByteArray) a0_0] : List Int)) (inner := [.int .u8 (bt (⟨#[32, 119, 103, 115, 120]⟩ : ByteArray) a0_0)]) (ok := fun _ => True) (okp := fun _ => True) ?hr ?hp (fun _ hk => hk) trivial (Below.refl _ _) (Nat.le_refl _) (by simp) ?_; (case hd => rfl); (case hg => rfl); (case hr => first | (go_simp; done) | (go_simp; rfl)); (case hp => exact (Reps.one (show Kd.M (Kd.int .u8) _ _ _ (bt (⟨#[32, 119, 103, 115, 120]⟩ : ByteArray) a0_0) [.int .u8 (bt (⟨#[32, 119, 103, 115, 120]⟩ : ByteArray) a0_0)] from rfl) (Reps.none _ _))); intro v156 w14 ho15 hb hg_ hnew_; clear hg_ hnew_; (first | rw [← Ny155.out] at ho15 | (simp only [Int.reduceToNat] at ho15; rw [← Ny155.out] at ho15)); have n0_ := AM (Kd.R_lower ho15 (below_size (by repeat (first | (with_reducible first | exact HB.out | apply bA | apply bN | apply b1 | refine bS ?_ GE153.out) | exact HB.out)))); have n1_ := AM (kB (g := gb153) (o := .cells #[.int .i64 a0_0, .string a0_1, .string a0_2, .string a0_3, .string a0_4] 113 (0, 0)) (by (with_reducible repeat (first | refine kN ?_ _ | refine blk_drew ?_ | refine kA ?_ _)); exact BK153.out) hb); have n2_ := AM (bP (by repeat (first | (with_reducible first | exact HB.out | apply bA | apply bN | apply b1 | refine bS ?_ GE153.out) | exact HB.out)) hb); clear BK153; clear HB; have HO157 := n0_; have BK153 := n1_; have HB := n2_; clear n0_ n1_ n2_; clear hb ho15; have hcz16_0 : w14.cell? ⟨gb153, 0, none⟩ = some (.int .i64 a0_0) := (kC BK153.out 0).trans rfl; have hcz16_1 : w14.cell? ⟨gb153, 1, none⟩ = some (.string a0_1) := (kC BK153.out 1).trans rfl; have hcz16_2 : w14.cell? ⟨gb153, 2, none⟩ = some (.string a0_2) := (kC BK153.out 2).trans rfl; have hcz16_3 : w14.cell? ⟨gb153, 3, none⟩ = some (.string a0_3) := (kC BK153.out 3).trans rfl; have hcz16_4 : w14.cell? ⟨gb153, 4, none⟩ = some (.string a0_4) := (kC BK153.out 4).trans rfl; have hfz16_0 := kF BK153.out 0; have hfz16_1 := kF BK153.out 1; have hfz16_2 := kF BK153.out 2; have hfz16_3 := kF BK153.out 3; have hfz16_4 := kF BK153.out 4; obtain ⟨Ao17, co17, eo17⟩ := Kd.R_slice HO157.out; subst eo17) | ((with_reducible refine gate_callee (f := 93) rfl ?_); refine goesL_ (some 19) rfl rfl Try.func93 (by kernel_rfl) rfl #[.slice Ao17 y155.length co17, .string a0_3] rfl (by (try simp only [mA, mC, mN]); first | done | rfl | (simp only [List.length_drop, List.length_take]; rfl)) ?_; (with_reducible refine (spec_PutText.calls k _ _ y155 a0_3 t158 t159 _ ?side1 ?side2 A8.out).mono ?_); (case side1 => repeat (first | exact (Kd.R_reads' HO157.out).2.2 | (with_reducible refine Kd.C_alloc ?_ _) | (with_reducible refine Kd.C_drewN ?_ _) | (with_reducible refine Kd.C_drew ?_))); (case side2 => exact (Kd.R_reads' HO157.out).2.1); rintro e w18 ⟨v160, rfl, ho0, hb⟩; refine ⟨_, rfl, ?_⟩; have n0_ := AM (Kd.R_elder' (by (with_reducible repeat (first | apply Kd.R_alloc | apply Kd.R_drewN | apply Kd.R_drew)); exact HO157.out) (Kd.R_base ho0) hb); have n1_ := AM (Kd.R_lower (Kd.R_new' ho0 (Kd.R_lt (by (with_reducible repeat (first | apply Kd.R_alloc | apply Kd.R_drewN | apply Kd.R_drew)); exact HO157.out))) (below_size (by repeat (first | (with_reducible first | exact HB.out | apply bA | apply bN | apply b1 | refine bS ?_ GE153.out) | exact HB.out)))); have n2_ := AM (kB (g := gb153) (o := .cells #[.int .i64 a0_0, .string a0_1, .string a0_2, .string a0_3, .string a0_4] 113 (0, 0)) (by (with_reducible repeat (first | refine kN ?_ _ | refine blk_drew ?_ | refine kA ?_ _)); exact BK153.out) hb); have n3_ := AM (bP (by repeat (first | (with_reducible first | exact HB.out | apply bA | apply bN | apply b1 | refine bS ?_ GE153.out) | exact HB.out)) hb); clear HO157; clear BK153; clear HB; have HO157 := n0_; have HO161 := n1_; have BK153 := n2_; have HB := n3_; clear n0_ n1_ n2_ n3_; (try clear hb); (try clear hb2); (try clear hk); (try clear hi); (try clear ho0); have hcz19_0 : w18.cell? ⟨gb153, 0, none⟩ = some (.int .i64 a0_0) := (kC BK153.out 0).trans rfl; have hcz19_1 : w18.cell? ⟨gb153, 1, none⟩ = some (.string a0_1) := (kC BK153.out 1).trans rfl; have hcz19_2 : w18.cell? ⟨gb153, 2, none⟩ = some (.string a0_2) := (kC BK153.out 2).trans rfl; have hcz19_3 : w18.cell? ⟨gb153, 3, none⟩ = some (.string a0_3) := (kC BK153.out 3).trans rfl; have hcz19_4 : w18.cell? ⟨gb153, 4, none⟩ = some (.string a0_4) := (kC BK153.out 4).trans rfl; have hfz19_0 := kF BK153.out 0; have hfz19_1 := kF BK153.out 1; have hfz19_2 := kF BK153.out 2; have hfz19_3 := kF BK153.out 3; have hfz19_4 := kF BK153.out 4; obtain ⟨Ao20, co20, eo20⟩ := Kd.R_slice HO161.out; subst eo20) | ((with_reducible refine gate_callee (f := 93) rfl ?_); refine goesL_ (some 27) rfl rfl Try.func93 (by kernel_rfl) rfl #[.slice Ao20 t158.length co20, .string a0_4] rfl (by (try simp only [mA, mC, mN]); first | done | rfl | (simp only [List.length_drop, List.length_take]; rfl)) ?_; (with_reducible refine (spec_PutText.calls k _ _ t158 a0_4 t162 t163 _ ?side1 ?side2 A9.out).mono ?_); (case side1 => repeat (first | exact (Kd.R_reads' HO161.out).2.2 | (with_reducible refine Kd.C_alloc ?_ _) | (with_reducible refine Kd.C_drewN ?_ _) | (with_reducible refine Kd.C_drew ?_))); (case side2 => exact (Kd.R_reads' HO161.out).2.1); rintro e w21 ⟨v164, rfl, ho0, hb⟩; refine ⟨_, rfl, ?_⟩; have n0_ := AM (Kd.R_elder' (by (with_reducible repeat (first | apply Kd.R_alloc | apply Kd.R_drewN | apply Kd.R_drew)); exact HO157.out) (Kd.R_base ho0) hb); have n1_ := AM (Kd.R_elder' (by (with_reducible repeat (first | apply Kd.R_alloc | apply Kd.R_drewN | apply Kd.R_drew)); exact HO161.out) (Kd.R_base ho0) hb); have n2_ := AM (Kd.R_lower (Kd.R_new' (Kd.R_new' ho0 (Kd.R_lt (by (with_reducible repeat (first | apply Kd.R_alloc | apply Kd.R_drewN | apply Kd.R_drew)); exact HO157.out))) (Kd.R_lt (by (with_reducible repeat (first | apply Kd.R_alloc | apply Kd.R_drewN | apply Kd.R_drew)); exact HO161.out))) (below_size (by repeat (first | (with_reducible first | exact HB.out | apply bA | apply bN | apply b1 | refine bS ?_ GE153.out) | exact HB.out)))); have n3_ := AM (kB (g := gb153) (o := .cells #[.int .i64 a0_0, .string a0_1, .string a0_2, .string a0_3, .string a0_4] 113 (0, 0)) (by (with_reducible repeat (first | refine kN ?_ _ | refine blk_drew ?_ | refine kA ?_ _)); exact BK153.out) hb); have n4_ := AM (bP (by repeat (first | (with_reducible first | exact HB.out | apply bA | apply bN | apply b1 | refine bS ?_ GE153.out) | exact HB.out)) hb); clear HO157; clear HO161; clear BK153; clear HB; have HO157 := n0_; have HO161 := n1_; have HO165 := n2_; have BK153 := n3_; have HB := n4_; clear n0_ n1_ n2_ n3_ n4_; (try clear hb); (try clear hb2); (try clear hk); (try clear hi); (try clear ho0); have hcv22 := own_string (P := Try.prog) Try.underlying48 Try.underlying5 Try.underlying9 (Kd.own_of_R HO165.out)))
     go_ret
     exact ⟨by first | rfl | (simp [errW_none, errW_some] <;> rfl) | (simp [*, errW_none, errW_some] <;> rfl), by repeat (first | (with_reducible first | exact HB.out | apply bA | apply bN | apply b1 | refine bS ?_ GE153.out) | exact HB.out)⟩
    ·rw [if_neg c7] at H
     have c7b0 : decide (2 < a0_0) = false := decide_eq_false c7
     clear c7
     replace H := Option.bind_eq_some_iff.mp H
     obtain ⟨⟨t166, t167⟩, A230, H⟩ := H
     replace H : (if a0_0 = 1 then ((spec_PutText.f k t166 a0_2).bind fun bt170 => (some (strOfNums bt170.1))) else (some (strOfNums t166))) = some r := H
     have A23 := AM A230
     clear A230
     by_cases c24 : a0_0 = 1
     ·rw [if_pos c24] at H
      have c24b0 : (a0_0 == 1) = true := beq_iff_eq.mpr c24
      have c24b1 : (a0_0 != 1) = false := bne_eq_false_iff_eq.mpr c24
      clear c24
      replace H := Option.bind_eq_some_iff.mp H
      obtain ⟨⟨t170, t171⟩, A250, H⟩ := H
      replace H : (some (strOfNums t170)) = some r := H
      have A25 := AM A250
      clear A250
      obtain rfl := Option.some.inj H
      go_enter Try.func77, Try.ntmps77
      go_wp2_with (first | ((with_reducible refine gate_dst (N := 1) rfl ?_); refine box_event ?hg (N := 1) ?hd (cs := #[.int .i64 a0_0, .string a0_1, .string a0_2, .string a0_3, .string a0_4]) (t := 113) ?hr ?_; (case hd => rfl); (case hg => rfl); (case hr => first | (go_simp; done) | (go_simp; rfl)); intro gb153 hg w26 hbox hb; have n0_ := AM (bP (by repeat (first | (with_reducible first | exact HB.out | apply bA | apply bN | apply b1) | exact HB.out)) hb); have n1_ := AM (hbox); have n2_ := AM ((by rw [hg]; exact (below_size (by repeat (first | (with_reducible first | exact HB.out | apply bA | apply bN | apply b1) | exact HB.out))) : w.heap.size ≤ gb153)); have n3_ := AM ((by rw [hg]; exact (below_size (by repeat (first | (with_reducible first | exact HB.out | apply bA | apply bN | apply b1) | exact HB.out))) : w.heap.size ≤ gb153)); clear HB; have HB := n0_; have BK153 := n1_; have GW153 := n2_; have GE153 := n3_; clear n0_ n1_ n2_ n3_; clear hb hbox hg; have hcz27_0 : w26.cell? ⟨gb153, 0, none⟩ = some (.int .i64 a0_0) := (kC BK153.out 0).trans rfl; have hcz27_1 : w26.cell? ⟨gb153, 1, none⟩ = some (.string a0_1) := (kC BK153.out 1).trans rfl; have hcz27_2 : w26.cell? ⟨gb153, 2, none⟩ = some (.string a0_2) := (kC BK153.out 2).trans rfl; have hcz27_3 : w26.cell? ⟨gb153, 3, none⟩ = some (.string a0_3) := (kC BK153.out 3).trans rfl; have hcz27_4 : w26.cell? ⟨gb153, 4, none⟩ = some (.string a0_4) := (kC BK153.out 4).trans rfl; have hfz27_0 := kF BK153.out 0; have hfz27_1 := kF BK153.out 1; have hfz27_2 := kF BK153.out 2; have hfz27_3 := kF BK153.out 3; have hfz27_4 := kF BK153.out 4) | ((with_reducible refine gate_callee (f := 156) rfl ?_); refine goesL_ (some 5) rfl rfl Try.func156 (by kernel_rfl) rfl #[.agg #[.int .i64 a0_0, .string a0_1, .string a0_2, .string a0_3, .string a0_4]] rfl (by (try simp only [mA, mC, mN]); first | done | rfl | (simp only [List.length_drop, List.length_take]; rfl)) ?_; (with_reducible refine (spec_RecOk.calls a0_0 a0_1 a0_2 a0_3 a0_4 true _ A2.out).mono ?_); rintro e w28 ⟨rfl, hb⟩; refine ⟨_, rfl, ?_⟩; have n0_ := AM (kB (g := gb153) (o := .cells #[.int .i64 a0_0, .string a0_1, .string a0_2, .string a0_3, .string a0_4] 113 (0, 0)) (by (with_reducible repeat (first | refine kN ?_ _ | refine blk_drew ?_ | refine kA ?_ _)); exact BK153.out) hb); have n1_ := AM (bP (by repeat (first | (with_reducible first | exact HB.out | apply bA | apply bN | apply b1 | refine bS ?_ GE153.out) | exact HB.out)) hb); clear BK153; clear HB; have BK153 := n0_; have HB := n1_; clear n0_ n1_; (try clear hb); (try clear hb2); (try clear hk); (try clear hi); have hcz29_0 : w28.cell? ⟨gb153, 0, none⟩ = some (.int .i64 a0_0) := (kC BK153.out 0).trans rfl; have hcz29_1 : w28.cell? ⟨gb153, 1, none⟩ = some (.string a0_1) := (kC BK153.out 1).trans rfl; have hcz29_2 : w28.cell? ⟨gb153, 2, none⟩ = some (.string a0_2) := (kC BK153.out 2).trans rfl; have hcz29_3 : w28.cell? ⟨gb153, 3, none⟩ = some (.string a0_3) := (kC BK153.out 3).trans rfl; have hcz29_4 : w28.cell? ⟨gb153, 4, none⟩ = some (.string a0_4) := (kC BK153.out 4).trans rfl; have hfz29_0 := kF BK153.out 0; have hfz29_1 := kF BK153.out 1; have hfz29_2 := kF BK153.out 2; have hfz29_3 := kF BK153.out 3; have hfz29_4 := kF BK153.out 4; have p6 : 0 ≤ (a0_0 : Int) := of_decide_eq_true (by first | (with_reducible assumption) | assumption); have q6 : a0_0 < (5 : Int) := of_decide_eq_true (by first | (with_reducible assumption) | assumption); have hx6 := bt_at (⟨#[32, 119, 103, 115, 120]⟩ : ByteArray) a0_0; replace p6 := eq_true p6; replace q6 := eq_true q6) | ((with_reducible refine gate_dst (N := 10) rfl ?_); refine Kd.R_lit (Kd.int .u8) _ 5 ?hg (N := 10) ?hd (xs := ([bt (⟨#[32, 119, 103, 115, 120]⟩ : ByteArray) a0_0] : List Int)) (inner := [.int .u8 (bt (⟨#[32, 119, 103, 115, 120]⟩ : ByteArray) a0_0)]) (ok := fun _ => True) (okp := fun _ => True) ?hr ?hp (fun _ hk => hk) trivial (Below.refl _ _) (Nat.le_refl _) (by simp) ?_; (case hd => rfl); (case hg => rfl); (case hr => first | (go_simp; done) | (go_simp; rfl)); (case hp => exact (Reps.one (show Kd.M (Kd.int .u8) _ _ _ (bt (⟨#[32, 119, 103, 115, 120]⟩ : ByteArray) a0_0) [.int .u8 (bt (⟨#[32, 119, 103, 115, 120]⟩ : ByteArray) a0_0)] from rfl) (Reps.none _ _))); intro v156 w30 ho31 hb hg_ hnew_; clear hg_ hnew_; (first | rw [← Ny155.out] at ho31 | (simp only [Int.reduceToNat] at ho31; rw [← Ny155.out] at ho31)); have n0_ := AM (Kd.R_lower ho31 (below_size (by repeat (first | (with_reducible first | exact HB.out | apply bA | apply bN | apply b1 | refine bS ?_ GE153.out) | exact HB.out)))); have n1_ := AM (kB (g := gb153) (o := .cells #[.int .i64 a0_0, .string a0_1, .string a0_2, .string a0_3, .string a0_4] 113 (0, 0)) (by (with_reducible repeat (first | refine kN ?_ _ | refine blk_drew ?_ | refine kA ?_ _)); exact BK153.out) hb); have n2_ := AM (bP (by repeat (first | (with_reducible first | exact HB.out | apply bA | apply bN | apply b1 | refine bS ?_ GE153.out) | exact HB.out)) hb); clear BK153; clear HB; have HO157 := n0_; have BK153 := n1_; have HB := n2_; clear n0_ n1_ n2_; clear hb ho31; have hcz32_0 : w30.cell? ⟨gb153, 0, none⟩ = some (.int .i64 a0_0) := (kC BK153.out 0).trans rfl; have hcz32_1 : w30.cell? ⟨gb153, 1, none⟩ = some (.string a0_1) := (kC BK153.out 1).trans rfl; have hcz32_2 : w30.cell? ⟨gb153, 2, none⟩ = some (.string a0_2) := (kC BK153.out 2).trans rfl; have hcz32_3 : w30.cell? ⟨gb153, 3, none⟩ = some (.string a0_3) := (kC BK153.out 3).trans rfl; have hcz32_4 : w30.cell? ⟨gb153, 4, none⟩ = some (.string a0_4) := (kC BK153.out 4).trans rfl; have hfz32_0 := kF BK153.out 0; have hfz32_1 := kF BK153.out 1; have hfz32_2 := kF BK153.out 2; have hfz32_3 := kF BK153.out 3; have hfz32_4 := kF BK153.out 4; obtain ⟨Ao33, co33, eo33⟩ := Kd.R_slice HO157.out; subst eo33) | ((with_reducible refine gate_callee (f := 93) rfl ?_); refine goesL_ (some 36) rfl rfl Try.func93 (by kernel_rfl) rfl #[.slice Ao33 y155.length co33, .string a0_1] rfl (by (try simp only [mA, mC, mN]); first | done | rfl | (simp only [List.length_drop, List.length_take]; rfl)) ?_; (with_reducible refine (spec_PutText.calls k _ _ y155 a0_1 t166 t167 _ ?side1 ?side2 A23.out).mono ?_); (case side1 => repeat (first | exact (Kd.R_reads' HO157.out).2.2 | (with_reducible refine Kd.C_alloc ?_ _) | (with_reducible refine Kd.C_drewN ?_ _) | (with_reducible refine Kd.C_drew ?_))); (case side2 => exact (Kd.R_reads' HO157.out).2.1); rintro e w34 ⟨v168, rfl, ho0, hb⟩; refine ⟨_, rfl, ?_⟩; have n0_ := AM (Kd.R_elder' (by (with_reducible repeat (first | apply Kd.R_alloc | apply Kd.R_drewN | apply Kd.R_drew)); exact HO157.out) (Kd.R_base ho0) hb); have n1_ := AM (Kd.R_lower (Kd.R_new' ho0 (Kd.R_lt (by (with_reducible repeat (first | apply Kd.R_alloc | apply Kd.R_drewN | apply Kd.R_drew)); exact HO157.out))) (below_size (by repeat (first | (with_reducible first | exact HB.out | apply bA | apply bN | apply b1 | refine bS ?_ GE153.out) | exact HB.out)))); have n2_ := AM (kB (g := gb153) (o := .cells #[.int .i64 a0_0, .string a0_1, .string a0_2, .string a0_3, .string a0_4] 113 (0, 0)) (by (with_reducible repeat (first | refine kN ?_ _ | refine blk_drew ?_ | refine kA ?_ _)); exact BK153.out) hb); have n3_ := AM (bP (by repeat (first | (with_reducible first | exact HB.out | apply bA | apply bN | apply b1 | refine bS ?_ GE153.out) | exact HB.out)) hb); clear HO157; clear BK153; clear HB; have HO157 := n0_; have HO169 := n1_; have BK153 := n2_; have HB := n3_; clear n0_ n1_ n2_ n3_; (try clear hb); (try clear hb2); (try clear hk); (try clear hi); (try clear ho0); have hcz35_0 : w34.cell? ⟨gb153, 0, none⟩ = some (.int .i64 a0_0) := (kC BK153.out 0).trans rfl; have hcz35_1 : w34.cell? ⟨gb153, 1, none⟩ = some (.string a0_1) := (kC BK153.out 1).trans rfl; have hcz35_2 : w34.cell? ⟨gb153, 2, none⟩ = some (.string a0_2) := (kC BK153.out 2).trans rfl; have hcz35_3 : w34.cell? ⟨gb153, 3, none⟩ = some (.string a0_3) := (kC BK153.out 3).trans rfl; have hcz35_4 : w34.cell? ⟨gb153, 4, none⟩ = some (.string a0_4) := (kC BK153.out 4).trans rfl; have hfz35_0 := kF BK153.out 0; have hfz35_1 := kF BK153.out 1; have hfz35_2 := kF BK153.out 2; have hfz35_3 := kF BK153.out 3; have hfz35_4 := kF BK153.out 4; obtain ⟨Ao36, co36, eo36⟩ := Kd.R_slice HO169.out; subst eo36) | ((with_reducible refine gate_callee (f := 93) rfl ?_); refine goesL_ (some 46) rfl rfl Try.func93 (by kernel_rfl) rfl #[.slice Ao36 t166.length co36, .string a0_2] rfl (by (try simp only [mA, mC, mN]); first | done | rfl | (simp only [List.length_drop, List.length_take]; rfl)) ?_; (with_reducible refine (spec_PutText.calls k _ _ t166 a0_2 t170 t171 _ ?side1 ?side2 A25.out).mono ?_); (case side1 => repeat (first | exact (Kd.R_reads' HO169.out).2.2 | (with_reducible refine Kd.C_alloc ?_ _) | (with_reducible refine Kd.C_drewN ?_ _) | (with_reducible refine Kd.C_drew ?_))); (case side2 => exact (Kd.R_reads' HO169.out).2.1); rintro e w37 ⟨v172, rfl, ho0, hb⟩; refine ⟨_, rfl, ?_⟩; have n0_ := AM (Kd.R_elder' (by (with_reducible repeat (first | apply Kd.R_alloc | apply Kd.R_drewN | apply Kd.R_drew)); exact HO157.out) (Kd.R_base ho0) hb); have n1_ := AM (Kd.R_elder' (by (with_reducible repeat (first | apply Kd.R_alloc | apply Kd.R_drewN | apply Kd.R_drew)); exact HO169.out) (Kd.R_base ho0) hb); have n2_ := AM (Kd.R_lower (Kd.R_new' (Kd.R_new' ho0 (Kd.R_lt (by (with_reducible repeat (first | apply Kd.R_alloc | apply Kd.R_drewN | apply Kd.R_drew)); exact HO157.out))) (Kd.R_lt (by (with_reducible repeat (first | apply Kd.R_alloc | apply Kd.R_drewN | apply Kd.R_drew)); exact HO169.out))) (below_size (by repeat (first | (with_reducible first | exact HB.out | apply bA | apply bN | apply b1 | refine bS ?_ GE153.out) | exact HB.out)))); have n3_ := AM (kB (g := gb153) (o := .cells #[.int .i64 a0_0, .string a0_1, .string a0_2, .string a0_3, .string a0_4] 113 (0, 0)) (by (with_reducible repeat (first | refine kN ?_ _ | refine blk_drew ?_ | refine kA ?_ _)); exact BK153.out) hb); have n4_ := AM (bP (by repeat (first | (with_reducible first | exact HB.out | apply bA | apply bN | apply b1 | refine bS ?_ GE153.out) | exact HB.out)) hb); clear HO157; clear HO169; clear BK153; clear HB; have HO157 := n0_; have HO169 := n1_; have HO173 := n2_; have BK153 := n3_; have HB := n4_; clear n0_ n1_ n2_ n3_ n4_; (try clear hb); (try clear hb2); (try clear hk); (try clear hi); (try clear ho0); have hcv38 := own_string (P := Try.prog) Try.underlying48 Try.underlying5 Try.underlying9 (Kd.own_of_R HO173.out)))
      go_ret
      exact ⟨by first | rfl | (simp [errW_none, errW_some] <;> rfl) | (simp [*, errW_none, errW_some] <;> rfl), by repeat (first | (with_reducible first | exact HB.out | apply bA | apply bN | apply b1 | refine bS ?_ GE153.out) | exact HB.out)⟩
     ·rw [if_neg c24] at H
      have c24b0 : (a0_0 == 1) = false := beq_eq_false_iff_ne.mpr c24
      have c24b1 : (a0_0 != 1) = true := bne_iff_ne.mpr c24
      obtain rfl := Option.some.inj H
      go_enter Try.func77, Try.ntmps77
      go_wp2_with (first | ((with_reducible refine gate_dst (N := 1) rfl ?_); refine box_event ?hg (N := 1) ?hd (cs := #[.int .i64 a0_0, .string a0_1, .string a0_2, .string a0_3, .string a0_4]) (t := 113) ?hr ?_; (case hd => rfl); (case hg => rfl); (case hr => first | (go_simp; done) | (go_simp; rfl)); intro gb153 hg w39 hbox hb; have n0_ := AM (bP (by repeat (first | (with_reducible first | exact HB.out | apply bA | apply bN | apply b1) | exact HB.out)) hb); have n1_ := AM (hbox); have n2_ := AM ((by rw [hg]; exact (below_size (by repeat (first | (with_reducible first | exact HB.out | apply bA | apply bN | apply b1) | exact HB.out))) : w.heap.size ≤ gb153)); have n3_ := AM ((by rw [hg]; exact (below_size (by repeat (first | (with_reducible first | exact HB.out | apply bA | apply bN | apply b1) | exact HB.out))) : w.heap.size ≤ gb153)); clear HB; have HB := n0_; have BK153 := n1_; have GW153 := n2_; have GE153 := n3_; clear n0_ n1_ n2_ n3_; clear hb hbox hg; have hcz40_0 : w39.cell? ⟨gb153, 0, none⟩ = some (.int .i64 a0_0) := (kC BK153.out 0).trans rfl; have hcz40_1 : w39.cell? ⟨gb153, 1, none⟩ = some (.string a0_1) := (kC BK153.out 1).trans rfl; have hcz40_2 : w39.cell? ⟨gb153, 2, none⟩ = some (.string a0_2) := (kC BK153.out 2).trans rfl; have hcz40_3 : w39.cell? ⟨gb153, 3, none⟩ = some (.string a0_3) := (kC BK153.out 3).trans rfl; have hcz40_4 : w39.cell? ⟨gb153, 4, none⟩ = some (.string a0_4) := (kC BK153.out 4).trans rfl; have hfz40_0 := kF BK153.out 0; have hfz40_1 := kF BK153.out 1; have hfz40_2 := kF BK153.out 2; have hfz40_3 := kF BK153.out 3; have hfz40_4 := kF BK153.out 4) | ((with_reducible refine gate_callee (f := 156) rfl ?_); refine goesL_ (some 5) rfl rfl Try.func156 (by kernel_rfl) rfl #[.agg #[.int .i64 a0_0, .string a0_1, .string a0_2, .string a0_3, .string a0_4]] rfl (by (try simp only [mA, mC, mN]); first | done | rfl | (simp only [List.length_drop, List.length_take]; rfl)) ?_; (with_reducible refine (spec_RecOk.calls a0_0 a0_1 a0_2 a0_3 a0_4 true _ A2.out).mono ?_); rintro e w41 ⟨rfl, hb⟩; refine ⟨_, rfl, ?_⟩; have n0_ := AM (kB (g := gb153) (o := .cells #[.int .i64 a0_0, .string a0_1, .string a0_2, .string a0_3, .string a0_4] 113 (0, 0)) (by (with_reducible repeat (first | refine kN ?_ _ | refine blk_drew ?_ | refine kA ?_ _)); exact BK153.out) hb); have n1_ := AM (bP (by repeat (first | (with_reducible first | exact HB.out | apply bA | apply bN | apply b1 | refine bS ?_ GE153.out) | exact HB.out)) hb); clear BK153; clear HB; have BK153 := n0_; have HB := n1_; clear n0_ n1_; (try clear hb); (try clear hb2); (try clear hk); (try clear hi); have hcz42_0 : w41.cell? ⟨gb153, 0, none⟩ = some (.int .i64 a0_0) := (kC BK153.out 0).trans rfl; have hcz42_1 : w41.cell? ⟨gb153, 1, none⟩ = some (.string a0_1) := (kC BK153.out 1).trans rfl; have hcz42_2 : w41.cell? ⟨gb153, 2, none⟩ = some (.string a0_2) := (kC BK153.out 2).trans rfl; have hcz42_3 : w41.cell? ⟨gb153, 3, none⟩ = some (.string a0_3) := (kC BK153.out 3).trans rfl; have hcz42_4 : w41.cell? ⟨gb153, 4, none⟩ = some (.string a0_4) := (kC BK153.out 4).trans rfl; have hfz42_0 := kF BK153.out 0; have hfz42_1 := kF BK153.out 1; have hfz42_2 := kF BK153.out 2; have hfz42_3 := kF BK153.out 3; have hfz42_4 := kF BK153.out 4; have p6 : 0 ≤ (a0_0 : Int) := of_decide_eq_true (by first | (with_reducible assumption) | assumption); have q6 : a0_0 < (5 : Int) := of_decide_eq_true (by first | (with_reducible assumption) | assumption); have hx6 := bt_at (⟨#[32, 119, 103, 115, 120]⟩ : ByteArray) a0_0; replace p6 := eq_true p6; replace q6 := eq_true q6) | ((with_reducible refine gate_dst (N := 10) rfl ?_); refine Kd.R_lit (Kd.int .u8) _ 5 ?hg (N := 10) ?hd (xs := ([bt (⟨#[32, 119, 103, 115, 120]⟩ : ByteArray) a0_0] : List Int)) (inner := [.int .u8 (bt (⟨#[32, 119, 103, 115, 120]⟩ : ByteArray) a0_0)]) (ok := fun _ => True) (okp := fun _ => True) ?hr ?hp (fun _ hk => hk) trivial (Below.refl _ _) (Nat.le_refl _) (by simp) ?_; (case hd => rfl); (case hg => rfl); (case hr => first | (go_simp; done) | (go_simp; rfl)); (case hp => exact (Reps.one (show Kd.M (Kd.int .u8) _ _ _ (bt (⟨#[32, 119, 103, 115, 120]⟩ : ByteArray) a0_0) [.int .u8 (bt (⟨#[32, 119, 103, 115, 120]⟩ : ByteArray) a0_0)] from rfl) (Reps.none _ _))); intro v156 w43 ho44 hb hg_ hnew_; clear hg_ hnew_; (first | rw [← Ny155.out] at ho44 | (simp only [Int.reduceToNat] at ho44; rw [← Ny155.out] at ho44)); have n0_ := AM (Kd.R_lower ho44 (below_size (by repeat (first | (with_reducible first | exact HB.out | apply bA | apply bN | apply b1 | refine bS ?_ GE153.out) | exact HB.out)))); have n1_ := AM (kB (g := gb153) (o := .cells #[.int .i64 a0_0, .string a0_1, .string a0_2, .string a0_3, .string a0_4] 113 (0, 0)) (by (with_reducible repeat (first | refine kN ?_ _ | refine blk_drew ?_ | refine kA ?_ _)); exact BK153.out) hb); have n2_ := AM (bP (by repeat (first | (with_reducible first | exact HB.out | apply bA | apply bN | apply b1 | refine bS ?_ GE153.out) | exact HB.out)) hb); clear BK153; clear HB; have HO157 := n0_; have BK153 := n1_; have HB := n2_; clear n0_ n1_ n2_; clear hb ho44; have hcz45_0 : w43.cell? ⟨gb153, 0, none⟩ = some (.int .i64 a0_0) := (kC BK153.out 0).trans rfl; have hcz45_1 : w43.cell? ⟨gb153, 1, none⟩ = some (.string a0_1) := (kC BK153.out 1).trans rfl; have hcz45_2 : w43.cell? ⟨gb153, 2, none⟩ = some (.string a0_2) := (kC BK153.out 2).trans rfl; have hcz45_3 : w43.cell? ⟨gb153, 3, none⟩ = some (.string a0_3) := (kC BK153.out 3).trans rfl; have hcz45_4 : w43.cell? ⟨gb153, 4, none⟩ = some (.string a0_4) := (kC BK153.out 4).trans rfl; have hfz45_0 := kF BK153.out 0; have hfz45_1 := kF BK153.out 1; have hfz45_2 := kF BK153.out 2; have hfz45_3 := kF BK153.out 3; have hfz45_4 := kF BK153.out 4; obtain ⟨Ao46, co46, eo46⟩ := Kd.R_slice HO157.out; subst eo46) | ((with_reducible refine gate_callee (f := 93) rfl ?_); refine goesL_ (some 36) rfl rfl Try.func93 (by kernel_rfl) rfl #[.slice Ao46 y155.length co46, .string a0_1] rfl (by (try simp only [mA, mC, mN]); first | done | rfl | (simp only [List.length_drop, List.length_take]; rfl)) ?_; (with_reducible refine (spec_PutText.calls k _ _ y155 a0_1 t166 t167 _ ?side1 ?side2 A23.out).mono ?_); (case side1 => repeat (first | exact (Kd.R_reads' HO157.out).2.2 | (with_reducible refine Kd.C_alloc ?_ _) | (with_reducible refine Kd.C_drewN ?_ _) | (with_reducible refine Kd.C_drew ?_))); (case side2 => exact (Kd.R_reads' HO157.out).2.1); rintro e w47 ⟨v168, rfl, ho0, hb⟩; refine ⟨_, rfl, ?_⟩; have n0_ := AM (Kd.R_elder' (by (with_reducible repeat (first | apply Kd.R_alloc | apply Kd.R_drewN | apply Kd.R_drew)); exact HO157.out) (Kd.R_base ho0) hb); have n1_ := AM (Kd.R_lower (Kd.R_new' ho0 (Kd.R_lt (by (with_reducible repeat (first | apply Kd.R_alloc | apply Kd.R_drewN | apply Kd.R_drew)); exact HO157.out))) (below_size (by repeat (first | (with_reducible first | exact HB.out | apply bA | apply bN | apply b1 | refine bS ?_ GE153.out) | exact HB.out)))); have n2_ := AM (kB (g := gb153) (o := .cells #[.int .i64 a0_0, .string a0_1, .string a0_2, .string a0_3, .string a0_4] 113 (0, 0)) (by (with_reducible repeat (first | refine kN ?_ _ | refine blk_drew ?_ | refine kA ?_ _)); exact BK153.out) hb); have n3_ := AM (bP (by repeat (first | (with_reducible first | exact HB.out | apply bA | apply bN | apply b1 | refine bS ?_ GE153.out) | exact HB.out)) hb); clear HO157; clear BK153; clear HB; have HO157 := n0_; have HO169 := n1_; have BK153 := n2_; have HB := n3_; clear n0_ n1_ n2_ n3_; (try clear hb); (try clear hb2); (try clear hk); (try clear hi); (try clear ho0); have hcz48_0 : w47.cell? ⟨gb153, 0, none⟩ = some (.int .i64 a0_0) := (kC BK153.out 0).trans rfl; have hcz48_1 : w47.cell? ⟨gb153, 1, none⟩ = some (.string a0_1) := (kC BK153.out 1).trans rfl; have hcz48_2 : w47.cell? ⟨gb153, 2, none⟩ = some (.string a0_2) := (kC BK153.out 2).trans rfl; have hcz48_3 : w47.cell? ⟨gb153, 3, none⟩ = some (.string a0_3) := (kC BK153.out 3).trans rfl; have hcz48_4 : w47.cell? ⟨gb153, 4, none⟩ = some (.string a0_4) := (kC BK153.out 4).trans rfl; have hfz48_0 := kF BK153.out 0; have hfz48_1 := kF BK153.out 1; have hfz48_2 := kF BK153.out 2; have hfz48_3 := kF BK153.out 3; have hfz48_4 := kF BK153.out 4; have hcv49 := own_string (P := Try.prog) Try.underlying48 Try.underlying5 Try.underlying9 (Kd.own_of_R HO169.out)))
      go_ret
      exact ⟨by first | rfl | (simp [errW_none, errW_some] <;> rfl) | (simp [*, errW_none, errW_some] <;> rfl), by repeat (first | (with_reducible first | exact HB.out | apply bA | apply bN | apply b1 | refine bS ?_ GE153.out) | exact HB.out)⟩
   ·rw [if_neg c5] at H
    exact absurd H (by simp)
  ·rw [if_neg c4] at H
   exact absurd H (by simp)
 ·replace c3 := Bool.eq_false_iff.mpr c3
  subst c3
  have H1 : (some (⟨#[]⟩ : ByteArray)) = some r := by rw [if_neg (show ¬ (false = true) by decide)] at H; exact H
  clear H
  have H := H1
  clear H1
  obtain rfl := Option.some.inj H
  go_enter Try.func77, Try.ntmps77
  go_wp2_with (first | ((with_reducible refine gate_dst (N := 1) rfl ?_); refine box_event ?hg (N := 1) ?hd (cs := #[.int .i64 a0_0, .string a0_1, .string a0_2, .string a0_3, .string a0_4]) (t := 113) ?hr ?_; (case hd => rfl); (case hg => rfl); (case hr => first | (go_simp; done) | (go_simp; rfl)); intro gb153 hg w50 hbox hb; have n0_ := AM (bP (by repeat (first | (with_reducible first | exact HB.out | apply bA | apply bN | apply b1) | exact HB.out)) hb); have n1_ := AM (hbox); have n2_ := AM ((by rw [hg]; exact (below_size (by repeat (first | (with_reducible first | exact HB.out | apply bA | apply bN | apply b1) | exact HB.out))) : w.heap.size ≤ gb153)); have n3_ := AM ((by rw [hg]; exact (below_size (by repeat (first | (with_reducible first | exact HB.out | apply bA | apply bN | apply b1) | exact HB.out))) : w.heap.size ≤ gb153)); clear HB; have HB := n0_; have BK153 := n1_; have GW153 := n2_; have GE153 := n3_; clear n0_ n1_ n2_ n3_; clear hb hbox hg; have hcz51_0 : w50.cell? ⟨gb153, 0, none⟩ = some (.int .i64 a0_0) := (kC BK153.out 0).trans rfl; have hcz51_1 : w50.cell? ⟨gb153, 1, none⟩ = some (.string a0_1) := (kC BK153.out 1).trans rfl; have hcz51_2 : w50.cell? ⟨gb153, 2, none⟩ = some (.string a0_2) := (kC BK153.out 2).trans rfl; have hcz51_3 : w50.cell? ⟨gb153, 3, none⟩ = some (.string a0_3) := (kC BK153.out 3).trans rfl; have hcz51_4 : w50.cell? ⟨gb153, 4, none⟩ = some (.string a0_4) := (kC BK153.out 4).trans rfl; have hfz51_0 := kF BK153.out 0; have hfz51_1 := kF BK153.out 1; have hfz51_2 := kF BK153.out 2; have hfz51_3 := kF BK153.out 3; have hfz51_4 := kF BK153.out 4) | ((with_reducible refine gate_callee (f := 156) rfl ?_); refine goesL_ (some 5) rfl rfl Try.func156 (by kernel_rfl) rfl #[.agg #[.int .i64 a0_0, .string a0_1, .string a0_2, .string a0_3, .string a0_4]] rfl (by (try simp only [mA, mC, mN]); first | done | rfl | (simp only [List.length_drop, List.length_take]; rfl)) ?_; (with_reducible refine (spec_RecOk.calls a0_0 a0_1 a0_2 a0_3 a0_4 false _ A2.out).mono ?_); rintro e w52 ⟨rfl, hb⟩; refine ⟨_, rfl, ?_⟩; have n0_ := AM (kB (g := gb153) (o := .cells #[.int .i64 a0_0, .string a0_1, .string a0_2, .string a0_3, .string a0_4] 113 (0, 0)) (by (with_reducible repeat (first | refine kN ?_ _ | refine blk_drew ?_ | refine kA ?_ _)); exact BK153.out) hb); have n1_ := AM (bP (by repeat (first | (with_reducible first | exact HB.out | apply bA | apply bN | apply b1 | refine bS ?_ GE153.out) | exact HB.out)) hb); clear BK153; clear HB; have BK153 := n0_; have HB := n1_; clear n0_ n1_; (try clear hb); (try clear hb2); (try clear hk); (try clear hi)))
  go_ret
  exact ⟨by first | rfl | (simp [errW_none, errW_some] <;> rfl) | (simp [*, errW_none, errW_some] <;> rfl), by repeat (first | (with_reducible first | exact HB.out | apply bA | apply bN | apply b1 | refine bS ?_ GE153.out) | exact HB.out)⟩

end Go.Proofs.Ytlbeppaimfpchaa.PFnExactPrepEdits
