/- The law FnExactMsgBytes holds: whatever arguments the given row speaks of, the call returns true and the arguments read as before. No condition is added. -/
import Derived.Test.YtlbeppaimfpchaaRows
import Derived.Test.YtlbeppaimfpchaaKa
import Derived.Test.YtlbeppaimfpchaaRa
namespace Go.Proofs.Ytlbeppaimfpchaa.fnExactMsgBytes
open Go.ChangeShapes Go.WideShapes Go.ChangeAt Go.RowKit
open Go.ChangeMaps (open_string shut_string)
set_option linter.unusedVariables false
theorem own : ownKnob Try.prog.godebug = none := by kernel_rfl
theorem laidOut : laidOutB Try.prog = true := by kernel_rfl
open Vm in
theorem openRange (w : World) (base : Nat) (c : Bool) : OpensT Try.prog w base c 41 [9, 9] 2 RngX.ds rngB0 := by
  have h := opens_struct (w := w) (base := base) (c := c) Try.underlying41 (by kernel_rfl) (opensF_cons rfl (by kernel_rfl) (opens_string Try.underlying9) (opensF_one rfl (by kernel_rfl) (opens_string Try.underlying9)))
  refine opens_map (fun a => ⟨a.1, a.2⟩) h (fun _ => rfl) ?_
  exact fun _ h => h
open Vm in
theorem openTx (w : World) (base : Nat) (c : Bool) : OpensT Try.prog w base c 23 [3, 3, 3] 3 TxX.ds (fun x => intB x.c ∧ intB x.e ∧ intB x.n) := by
  have h := opens_struct (w := w) (base := base) (c := c) Try.underlying23 (by kernel_rfl) (opensF_cons rfl (by kernel_rfl) (opens_int Try.underlying3) (opensF_cons rfl (by kernel_rfl) (opens_int Try.underlying3) (opensF_one rfl (by kernel_rfl) (opens_int Try.underlying3))))
  exact opens_map (fun a => ⟨a.1, a.2.1, a.2.2⟩) h (fun _ => rfl) (fun _ h => h)
open Vm in
theorem openRange1 (w : World) (base : Nat) : OpensT Try.prog w base true 41 [9, 9] 2 RngX.ds rngB0 := openRange w base true
open Vm in
theorem openTx1 (w : World) (base : Nat) : OpensT Try.prog w base true 23 [3, 3, 3] 3 TxX.ds (fun x => intB x.c ∧ intB x.e ∧ intB x.n) := openTx w base true
open Vm in
theorem openAsk (w : World) (base : Nat) (c : Bool) : OpensT Try.prog w base c 43 [3, 9, 9, 9, 9, 3, 4] 7 AskX.ds askB0 := by
  have h := opens_struct (w := w) (base := base) (c := c) Try.underlying43 (by kernel_rfl) (opensF_cons rfl (by kernel_rfl) (opens_int Try.underlying3) (opensF_cons rfl (by kernel_rfl) (opens_string Try.underlying9) (opensF_cons rfl (by kernel_rfl) (opens_string Try.underlying9) (opensF_cons rfl (by kernel_rfl) (openRange w base c) (opensF_cons rfl (by kernel_rfl) (opens_int Try.underlying3) (opensF_one rfl (by kernel_rfl) (opens_bool Try.underlying4)))))))
  refine opens_map (fun a => ⟨a.1, a.2.1, a.2.2.1, a.2.2.2.1, a.2.2.2.2.1, a.2.2.2.2.2⟩) h (fun _ => rfl) ?_
  exact fun _ h => ⟨h.2.1, h.2.2.1, h.2.2.2.1⟩
open Vm in
theorem openPair (w : World) (base : Nat) (c : Bool) : OpensT Try.prog w base c 188 [9, 9] 2 RngX.ds rngB0 := by
  have h := opens_struct (w := w) (base := base) (c := c) Try.underlying188 (by kernel_rfl) (opensF_cons rfl (by kernel_rfl) (opens_string Try.underlying9) (opensF_one rfl (by kernel_rfl) (opens_string Try.underlying9)))
  refine opens_map (fun a => ⟨a.1, a.2⟩) h (fun _ => rfl) ?_
  exact fun _ h => h
open Vm in
theorem openMsg (w : World) (base : Nat) : OpensT Try.prog w base true 46 [3, 3, 3, 3, 3, 3, 3, 3, 9, 9, 9, 9, 3, 4, 3, 44, 4] 17 MsgX.ds msgB0 := by
  have h := opens_struct (w := w) (base := base) (c := true) Try.underlying46 (by kernel_rfl) (opensF_cons rfl (by kernel_rfl) (opens_int Try.underlying3) (opensF_cons rfl (by kernel_rfl) (openTx w base true) (opensF_cons rfl (by kernel_rfl) (opens_int Try.underlying3) (opensF_cons rfl (by kernel_rfl) (opens_int Try.underlying3) (opensF_cons rfl (by kernel_rfl) (opens_int Try.underlying3) (opensF_cons rfl (by kernel_rfl) (openAsk w base true) (opensF_cons rfl (by kernel_rfl) (opens_int Try.underlying3) (opensF_cons rfl (by kernel_rfl) (opens_slice (sz := 2) (enc := RngX.ds) Try.underlying44 (by kernel_rfl) (fun _ => rfl) (openPair w base false)) (opensF_one rfl (by kernel_rfl) (opens_bool Try.underlying4))))))))))
  refine opens_map (fun a => ⟨a.1, a.2.1, a.2.2.1, a.2.2.2.1, a.2.2.2.2.1, a.2.2.2.2.2.1, a.2.2.2.2.2.2.1, a.2.2.2.2.2.2.2.1, a.2.2.2.2.2.2.2.2⟩) h (fun _ => rfl) ?_
  exact fun _ h => ⟨h.2.2.2.2.2.1, h.2.2.2.2.2.2.2.1⟩
set_option maxRecDepth 100000 in
theorem lifted (os : Os) (started : os.Started) (H : Type) (enc : TypeId × Value → H) :
    ReturnsInHanded {} Try.checked os 4 .any (Rows.fnExactMsgBytesSpec.pre6 enc Try.prog Try.f4 Rows.fnExactMsgBytesRow.domain false) (Rows.fnExactMsgBytesSpec.post enc Try.prog Try.f4 false true false false) := by
  refine returnsInHanded_of_change_sized (C := Try.checked) own started (by kernel_rfl) Try.func4
    (ChangeSpec.witness6 (enc := enc) (C := Try.checked) false ⟨#[], #[.agg #[.int .i64 0, .int .i64 0, .int .i64 0, .int .i64 0, .int .i64 0, .int .i64 0, .int .i64 0, .int .i64 0, .string ByteArray.empty, .string ByteArray.empty, .string ByteArray.empty, .string ByteArray.empty, .int .i64 0, .bool false, .int .i64 0, .slice none 0 0, .bool false]], []⟩ 8 (by kernel_rfl) (by kernel_rfl) (by kernel_rfl) (by kernel_rfl)) ?_
  intro W base args ds gs before hval0 hW hcnd hsz0 _
  have hval : ∀ (j : Nat) t v, Try.f4.params[j]? = some t → args[j]? = some v → Value.okWide Try.prog W .any base t v := hval0
  have hW' := hW
  obtain ⟨p, q, hA0, hV, rfl, hfz, hnd⟩ := hW
  have hA : DataW.TrodAll enc Try.prog W 0 (fun _ => true) true Try.f4.params.toList args.toList ds p := hA0
  rw [Try.params4] at hA hval
  obtain ⟨v0, vs0, d0, ds0, p0, q0, hargs, rfl, rfl, h0, r0⟩ := trodAll_cons hA
  obtain ⟨rfl, rfl, rfl⟩ := trodAll_nil r0
  obtain rfl : args = #[v0] := by cases args; simp_all
  obtain ⟨rfl, rfl⟩ := trodVars_none hV
  have lt0 : ∀ x ∈ p0, x.block < W.heap.size := by obtain ⟨m, hm⟩ := h0; exact DataW.trod_lt m _ _ _ hm
  obtain ⟨a0, hb0, c0⟩ := Vm.arg_struct Try.underlying46 (by kernel_rfl) (hval 0 46 v0 rfl rfl) h0 (openMsg W base)
  clear hA0 hval0 hsz0
  have hF0 : ∀ y, ¬ Vm.AnyF [fun _ => False] y := fun y ⟨F, hF, hy⟩ => by
    simp at hF; subst hF; exact hy
  have hD0 : Vm.DisF [fun _ => False] := by simp [Vm.DisF]
  refine (Vm.law_calls (R := fun x => x < W.heap.size) (Fs := [fun _ => False]) Vm.lawMsgBytes_ok Try.call4 ⟨a0, hb0⟩ (fun _ _ h => h.2) rfl (args := [v0]) ⟨c0, trivial⟩ hF0 hD0 (fun _ h => h)).mono fun e W' ⟨he, bel0⟩ => ?_
  have bel : Below W.heap.size W W' := bel0
  subst he
  exact ⟨_, rfl, _, _, _, [], _, [], hW', trodAll_mk1 (shut_bool Try.underlying4 _), (trodAll_cons_mk (Below.trod laidOut (by kernel_rfl) (of_decide_eq_true (by kernel_rfl)) h0 bel lt0) trodAll_mk0), rfl, bel.frame _, fun h => by cases h⟩
theorem over : Rows.fnExactMsgBytesRow.holds Try.pinned (OpenSpec.ofChange Rows.fnExactMsgBytesSpec) :=
  OpenClaim.holds_of_wide 4 Try.f4 rfl rfl rfl rfl rfl rfl rfl ⟨rfl, rfl, rfl, rfl, rfl⟩ rfl rfl rfl rfl rfl (by kernel_rfl) Try.func4 (by kernel_rfl)
    (of_decide_eq_true (by kernel_rfl)) (by unfold Func.isWrapper; first | (rw [if_pos (by decide +kernel)]; kernel_rfl) | (rw [if_neg (by decide +kernel)]; exact ⟨rfl, rfl⟩))
    (fun os started H enc _ => lifted os started H enc)
theorem proved : Rows.FnExactMsgBytesSaid := over
#print axioms proved
end Go.Proofs.Ytlbeppaimfpchaa.fnExactMsgBytes
namespace Go.Proofs.Ytlbeppaimfpchaa
/-- The row, under a short name, for the claim. -/
theorem fnExactMsgBytes_holds : Rows.FnExactMsgBytesSaid := fnExactMsgBytes.proved
end Go.Proofs.Ytlbeppaimfpchaa
