/- The law FnExactRangeHas holds: whatever arguments the given row speaks of, the call returns true and the arguments read as before. No condition is added. The machine's side is the kit's print; the arguments are opened cell by cell. -/
import Derived.Test.YtioafkmgonmogaaRows
import Derived.Test.YtioafkmgonmogaaPFnExactRangeHasx1
import Derived.Test.YtioafkmgonmogaaCells
import Derived.Test.YtioafkmgonmogaaPureFnExactRangeHas
import Derived.WalkKit
import Derived.ProofKit
import Derived.OpenShut
import Derived.ShutString
import Derived.ChangeOld
import Derived.Below
import Derived.Carry
import Derived.SizedLaws
namespace Go.Proofs.Ytioafkmgonmogaa.fnExactRangeHas
open Go.ChangeShapes Go.WideShapes Go.ChangeAt Go.RowKit Cells
set_option linter.unusedVariables false
theorem own : ownKnob Try.prog.godebug = none := by kernel_rfl
theorem laidOut : laidOutB Try.prog = true := by kernel_rfl
theorem ct0 : Try.prog.cellTypes Try.prog.depth 32 = some [9, 9] := by kernel_rfl
theorem co0 : Try.prog.cellsOf 32 = 2 := by kernel_rfl
set_option maxRecDepth 100000 in
theorem lifted (os : Os) (started : os.Started) (H : Type) (enc : TypeId × Value → H) :
    ReturnsInHanded {} Try.checked os 8 .any (Rows.fnExactRangeHasSpec.pre6 enc Try.prog Try.f8 Rows.fnExactRangeHasRow.domain false) (Rows.fnExactRangeHasSpec.post enc Try.prog Try.f8 false true false false) := by
  refine returnsInHanded_of_change_sized (C := Try.checked) own started (by kernel_rfl) Try.func8
    (ChangeSpec.witness6 (enc := enc) (C := Try.checked) false ⟨#[], #[.agg #[.string ByteArray.empty, .string ByteArray.empty], .string ByteArray.empty], []⟩ 8 (by kernel_rfl) (by kernel_rfl) (by kernel_rfl) (by kernel_rfl)) ?_
  intro W base args ds gs before hval0 hW hcnd hsz0 _
  have hval : ∀ (j : Nat) t v, Try.f8.params[j]? = some t → args[j]? = some v → Value.okWide Try.prog W .any base t v := hval0
  have hW' := hW
  obtain ⟨p, q, hA0, hV, rfl, hfz, hnd⟩ := hW
  have hA : DataW.TrodAll enc Try.prog W 0 (fun _ => true) true Try.f8.params.toList args.toList ds p := hA0
  rw [Try.params8] at hA hval
  obtain ⟨v0, vs0, d0, ds0, p0, q0, hargs, rfl, rfl, h0, r0⟩ := trodAll_cons hA
  obtain ⟨v1, vs1, d1, ds1, p1, q1, rfl, rfl, rfl, h1, r1⟩ := trodAll_cons r0
  obtain ⟨rfl, rfl, rfl⟩ := trodAll_nil r1
  obtain rfl : args = #[v0, v1] := by cases args; simp_all
  obtain ⟨rfl, rfl⟩ := trodVars_none hV
  have lt0 : ∀ x ∈ p0, x.block < W.heap.size := by obtain ⟨m, hm⟩ := h0; exact DataW.trod_lt m _ _ _ hm
  obtain ⟨cs0, rfl, hl0, hc0⟩ := open_cells Try.underlying32 ct0 co0 (hval 0 32 v0 rfl rfl)
  obtain ⟨c0_0, c0_1, rfl⟩ := list2 hl0
  obtain ⟨a0_0, rfl, wa0_0⟩ := cell_str Try.underlying9 (hc0 0 9 c0_0 rfl rfl)
  obtain ⟨a0_1, rfl, wa0_1⟩ := cell_str Try.underlying9 (hc0 1 9 c0_1 rfl rfl)
  clear hc0 hl0
  have lt1 : ∀ x ∈ p1, x.block < W.heap.size := by obtain ⟨m, hm⟩ := h1; exact DataW.trod_lt m _ _ _ hm
  obtain ⟨a1, rfl, wa1⟩ := val_str Try.underlying9 (hval 1 9 v1 rfl rfl)
  clear hA0 hval0 hsz0
  have hk := Pure.FnExactRangeHas a0_0 a0_1 a1 wa0_0 wa0_1 wa1
  refine (PFnExactRangeHas.laws_FnExactRangeHas.calls a0_0 a0_1 a1 true W hk).mono fun e W' ⟨he, bel0⟩ => ?_
  have bel : Below W.heap.size W W' := bel0
  subst he
  exact ⟨_, rfl, _, _, _, [], _, [], hW', trodAll_mk1 (shut_bool Try.underlying4 _), (trodAll_cons_mk (Below.trod laidOut (by kernel_rfl) (of_decide_eq_true (by kernel_rfl)) h0 bel lt0) (trodAll_cons_mk (Below.trod laidOut (by kernel_rfl) (of_decide_eq_true (by kernel_rfl)) h1 bel lt1) trodAll_mk0)), rfl, bel.frame _, fun h => by cases h⟩
theorem over : Rows.fnExactRangeHasRow.holds Try.pinned (OpenSpec.ofChange Rows.fnExactRangeHasSpec) :=
  OpenClaim.holds_of_wide 8 Try.f8 rfl rfl rfl rfl rfl rfl rfl ⟨rfl, rfl, rfl, rfl, rfl⟩ rfl rfl rfl rfl rfl (by kernel_rfl) Try.func8 (by kernel_rfl)
    (of_decide_eq_true (by kernel_rfl)) (by unfold Func.isWrapper; first | (rw [if_pos (by decide +kernel)]; kernel_rfl) | (rw [if_neg (by decide +kernel)]; exact ⟨rfl, rfl⟩))
    (fun os started H enc _ => lifted os started H enc)
theorem proved : Rows.FnExactRangeHasSaid := over
#print axioms proved
end Go.Proofs.Ytioafkmgonmogaa.fnExactRangeHas
namespace Go.Proofs.Ytioafkmgonmogaa
/-- The row, under a short name, for the claim. -/
theorem fnExactRangeHas_holds : Rows.FnExactRangeHasSaid := fnExactRangeHas.proved
end Go.Proofs.Ytioafkmgonmogaa
