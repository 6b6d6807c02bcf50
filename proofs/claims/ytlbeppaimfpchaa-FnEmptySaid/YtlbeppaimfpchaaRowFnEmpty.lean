/- The law FnEmpty holds: whatever arguments the given row speaks of, the call returns true and the arguments read as before. No condition is added. -/
import Derived.Test.YtlbeppaimfpchaaRows
import Derived.Test.YtlbeppaimfpchaaKb
import Derived.Test.YtlbeppaimfpchaaRa
namespace Go.Proofs.Ytlbeppaimfpchaa.fnEmpty
open Go.ChangeShapes Go.WideShapes Go.ChangeAt Go.RowKit
open Go.ChangeMaps (open_string shut_string)
set_option linter.unusedVariables false
theorem own : ownKnob Try.prog.godebug = none := by kernel_rfl
theorem laidOut : laidOutB Try.prog = true := by kernel_rfl
open Vm in
theorem openBytes (w : World) (base : Nat) : OpensT Try.prog w base true 48 [48] 1 (fun l : List UInt8 => [.row 1 encB l]) (fun l => l.length ≤ 9223372036854775807 ∧ ∀ y ∈ l, True) :=
  opens_slice Try.underlying48 (by kernel_rfl) encB_len (opens_u8 Try.underlying5)
set_option maxRecDepth 100000 in
theorem lifted (os : Os) (started : os.Started) (H : Type) (enc : TypeId × Value → H) :
    ReturnsInHanded {} Try.checked os 9 .any (Rows.fnEmptySpec.pre6 enc Try.prog Try.f9 Rows.fnEmptyRow.domain false) (Rows.fnEmptySpec.post enc Try.prog Try.f9 false true false false) := by
  refine returnsInHanded_of_change_sized (C := Try.checked) own started (by kernel_rfl) Try.func9
    (ChangeSpec.witness6 (enc := enc) (C := Try.checked) false ⟨#[], #[.slice none 0 0], []⟩ 8 (by kernel_rfl) (by kernel_rfl) (by kernel_rfl) (by kernel_rfl)) ?_
  intro W base args ds gs before hval0 hW hcnd hsz0 _
  have hval : ∀ (j : Nat) t v, Try.f9.params[j]? = some t → args[j]? = some v → Value.okWide Try.prog W .any base t v := hval0
  have hW' := hW
  obtain ⟨p, q, hA0, hV, rfl, hfz, hnd⟩ := hW
  have hA : DataW.TrodAll enc Try.prog W 0 (fun _ => true) true Try.f9.params.toList args.toList ds p := hA0
  rw [Try.params9] at hA hval
  obtain ⟨v0, vs0, d0, ds0, p0, q0, hargs, rfl, rfl, h0, r0⟩ := trodAll_cons hA
  obtain ⟨rfl, rfl, rfl⟩ := trodAll_nil r0
  obtain rfl : args = #[v0] := by cases args; simp_all
  obtain ⟨rfl, rfl⟩ := trodVars_none hV
  have lt0 : ∀ x ∈ p0, x.block < W.heap.size := by obtain ⟨m, hm⟩ := h0; exact DataW.trod_lt m _ _ _ hm
  obtain ⟨a0, hb0, c0⟩ := Vm.arg_slice Try.underlying48 (hval 0 48 v0 rfl rfl) h0 (openBytes W base)
  clear hA0 hval0 hsz0
  have hF0 : ∀ y, ¬ Vm.AnyF [fun _ => False] y := fun y ⟨F, hF, hy⟩ => by
    simp at hF; subst hF; exact hy
  have hD0 : Vm.DisF [fun _ => False] := by simp [Vm.DisF]
  refine (Vm.law_calls (R := fun x => x < W.heap.size) (Fs := [fun _ => False]) Vm.lawEmpty_ok Try.call9 ⟨a0⟩ (fun _ _ h => h.2) rfl (args := [v0]) ⟨c0, trivial⟩ hF0 hD0 (fun _ h => h)).mono fun e W' ⟨he, bel0⟩ => ?_
  have bel : Below W.heap.size W W' := bel0
  subst he
  exact ⟨_, rfl, _, _, _, [], _, [], hW', trodAll_mk1 (shut_bool Try.underlying4 _), (trodAll_cons_mk (Below.trod laidOut (by kernel_rfl) (of_decide_eq_true (by kernel_rfl)) h0 bel lt0) trodAll_mk0), rfl, bel.frame _, fun h => by cases h⟩
theorem over : Rows.fnEmptyRow.holds Try.pinned (OpenSpec.ofChange Rows.fnEmptySpec) :=
  OpenClaim.holds_of_wide 9 Try.f9 rfl rfl rfl rfl rfl rfl rfl ⟨rfl, rfl, rfl, rfl, rfl⟩ rfl rfl rfl rfl rfl (by kernel_rfl) Try.func9 (by kernel_rfl)
    (of_decide_eq_true (by kernel_rfl)) (by unfold Func.isWrapper; first | (rw [if_pos (by decide +kernel)]; kernel_rfl) | (rw [if_neg (by decide +kernel)]; exact ⟨rfl, rfl⟩))
    (fun os started H enc _ => lifted os started H enc)
theorem proved : Rows.FnEmptySaid := over
#print axioms proved
end Go.Proofs.Ytlbeppaimfpchaa.fnEmpty
namespace Go.Proofs.Ytlbeppaimfpchaa
/-- The row, under a short name, for the claim. -/
theorem fnEmpty_holds : Rows.FnEmptySaid := fnEmpty.proved
end Go.Proofs.Ytlbeppaimfpchaa
