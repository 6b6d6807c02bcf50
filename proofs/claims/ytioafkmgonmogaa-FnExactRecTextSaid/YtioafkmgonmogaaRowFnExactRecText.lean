/- The law FnExactRecText holds: whatever arguments the given row speaks of, the call returns true and the arguments read as before. No condition is added. The machine's side is the kit's print; the arguments are opened cell by cell. -/
import Derived.Test.YtioafkmgonmogaaRows
import Derived.Test.YtioafkmgonmogaaPFnExactRecTextx4
import Derived.Test.YtioafkmgonmogaaCells
import Derived.Test.YtioafkmgonmogaaPureFnExactRecText
import Derived.WalkKit
import Derived.ProofKit
import Derived.OpenShut
import Derived.ShutString
import Derived.ChangeOld
import Derived.Below
import Derived.Carry
import Derived.SizedLaws
namespace Go.Proofs.Ytioafkmgonmogaa.fnExactRecText
open Go.ChangeShapes Go.WideShapes Go.ChangeAt Go.RowKit Cells
set_option linter.unusedVariables false
theorem own : ownKnob Try.prog.godebug = none := by kernel_rfl
theorem laidOut : laidOutB Try.prog = true := by kernel_rfl
theorem ct0 : Try.prog.cellTypes Try.prog.depth 50 = some [3, 9, 9, 9, 9] := by kernel_rfl
theorem co0 : Try.prog.cellsOf 50 = 5 := by kernel_rfl
set_option maxRecDepth 100000 in
theorem lifted (os : Os) (started : os.Started) (H : Type) (enc : TypeId × Value → H) :
    ReturnsInHanded {} Try.checked os 14 .any (Rows.fnExactRecTextSpec.pre6 enc Try.prog Try.f14 Rows.fnExactRecTextRow.domain false) (Rows.fnExactRecTextSpec.post enc Try.prog Try.f14 false true false false) := by
  refine returnsInHanded_of_change_sized (C := Try.checked) own started (by kernel_rfl) Try.func14
    (ChangeSpec.witness6 (enc := enc) (C := Try.checked) false ⟨#[], #[.agg #[.int .i64 0, .string ByteArray.empty, .string ByteArray.empty, .string ByteArray.empty, .string ByteArray.empty]], []⟩ 8 (by kernel_rfl) (by kernel_rfl) (by kernel_rfl) (by kernel_rfl)) ?_
  intro W base args ds gs before hval0 hW hcnd hsz0 _
  have hval : ∀ (j : Nat) t v, Try.f14.params[j]? = some t → args[j]? = some v → Value.okWide Try.prog W .any base t v := hval0
  have hW' := hW
  obtain ⟨p, q, hA0, hV, rfl, hfz, hnd⟩ := hW
  have hA : DataW.TrodAll enc Try.prog W 0 (fun _ => true) true Try.f14.params.toList args.toList ds p := hA0
  rw [Try.params14] at hA hval
  obtain ⟨v0, vs0, d0, ds0, p0, q0, hargs, rfl, rfl, h0, r0⟩ := trodAll_cons hA
  obtain ⟨rfl, rfl, rfl⟩ := trodAll_nil r0
  obtain rfl : args = #[v0] := by cases args; simp_all
  obtain ⟨rfl, rfl⟩ := trodVars_none hV
  have lt0 : ∀ x ∈ p0, x.block < W.heap.size := by obtain ⟨m, hm⟩ := h0; exact DataW.trod_lt m _ _ _ hm
  obtain ⟨cs0, rfl, hl0, hc0⟩ := open_cells Try.underlying50 ct0 co0 (hval 0 50 v0 rfl rfl)
  obtain ⟨c0_0, c0_1, c0_2, c0_3, c0_4, rfl⟩ := list5 hl0
  obtain ⟨a0_0, rfl, wa0_0⟩ := cell_int Try.underlying3 (hc0 0 3 c0_0 rfl rfl)
  obtain ⟨a0_1, rfl, wa0_1⟩ := cell_str Try.underlying9 (hc0 1 9 c0_1 rfl rfl)
  obtain ⟨a0_2, rfl, wa0_2⟩ := cell_str Try.underlying9 (hc0 2 9 c0_2 rfl rfl)
  obtain ⟨a0_3, rfl, wa0_3⟩ := cell_str Try.underlying9 (hc0 3 9 c0_3 rfl rfl)
  obtain ⟨a0_4, rfl, wa0_4⟩ := cell_str Try.underlying9 (hc0 4 9 c0_4 rfl rfl)
  clear hc0 hl0
  clear hA0 hval0 hsz0
  obtain ⟨k, hk⟩ := Pure.FnExactRecText a0_0 a0_1 a0_2 a0_3 a0_4 wa0_0 wa0_1 wa0_2 wa0_3 wa0_4
  refine (PFnExactRecText.laws_FnExactRecText.calls k a0_0 a0_1 a0_2 a0_3 a0_4 true W hk).mono fun e W' ⟨he, bel0⟩ => ?_
  have bel : Below W.heap.size W W' := bel0
  subst he
  exact ⟨_, rfl, _, _, _, [], _, [], hW', trodAll_mk1 (shut_bool Try.underlying4 _), (trodAll_cons_mk (Below.trod laidOut (by kernel_rfl) (of_decide_eq_true (by kernel_rfl)) h0 bel lt0) trodAll_mk0), rfl, bel.frame _, fun h => by cases h⟩
theorem over : Rows.fnExactRecTextRow.holds Try.pinned (OpenSpec.ofChange Rows.fnExactRecTextSpec) :=
  OpenClaim.holds_of_wide 14 Try.f14 rfl rfl rfl rfl rfl rfl rfl ⟨rfl, rfl, rfl, rfl, rfl⟩ rfl rfl rfl rfl rfl (by kernel_rfl) Try.func14 (by kernel_rfl)
    (of_decide_eq_true (by kernel_rfl)) (by unfold Func.isWrapper; first | (rw [if_pos (by decide +kernel)]; kernel_rfl) | (rw [if_neg (by decide +kernel)]; exact ⟨rfl, rfl⟩))
    (fun os started H enc _ => lifted os started H enc)
theorem proved : Rows.FnExactRecTextSaid := over
#print axioms proved
end Go.Proofs.Ytioafkmgonmogaa.fnExactRecText
namespace Go.Proofs.Ytioafkmgonmogaa
/-- The row, under a short name, for the claim. -/
theorem fnExactRecText_holds : Rows.FnExactRecTextSaid := fnExactRecText.proved
end Go.Proofs.Ytioafkmgonmogaa
