/- The law FnExactData holds: whatever arguments the given row speaks of, the call returns true and the arguments read as before. No condition is added. -/
import Derived.Test.YtedffkngbjlgdaaRows
import Derived.Test.YtedffkngbjlgdaaKb
import Derived.Test.YtedffkngbjlgdaaRa
namespace Go.Proofs.Ytedffkngbjlgdaa.fnExactData
open Go.ChangeShapes Go.WideShapes Go.ChangeAt Go.RowKit
open Go.ChangeMaps (open_string shut_string)
set_option linter.unusedVariables false
theorem own : ownKnob Try.prog.godebug = none := by kernel_rfl
theorem laidOut : laidOutB Try.prog = true := by kernel_rfl
open Vm in
theorem openPair (w : World) (base : Nat) (c : Bool) : OpensT Try.prog w base c 140 [9, 9] 2 RngX.ds rngB0 := by
  have h := opens_struct (w := w) (base := base) (c := c) Try.underlying140 (by kernel_rfl) (opensF_cons rfl (by kernel_rfl) (opens_string Try.underlying9) (opensF_one rfl (by kernel_rfl) (opens_string Try.underlying9)))
  refine opens_map (fun a => ⟨a.1, a.2⟩) h (fun _ => rfl) ?_
  exact fun _ h => h
open Vm in
theorem openNode (w : World) (base : Nat) (c : Bool) : OpensT Try.prog w base c 88 [84, 85, 86] 3 NodeX.ds nodeB0 := by
  have h := opens_struct (w := w) (base := base) (c := c) Try.underlying88 (by kernel_rfl) (opensF_cons rfl (by kernel_rfl) (opens_slice_in (sz := 2) (enc := RngX.ds) Try.underlying84 (by kernel_rfl) (fun _ => rfl) (openPair w base false) (by decide)) (opensF_cons rfl (by kernel_rfl) (opens_slice_in (sz := 1) (enc := strE1) Try.underlying85 (by kernel_rfl) (fun _ => rfl) (opens_string Try.underlying9) (by decide)) (opensF_one rfl (by kernel_rfl) (opens_slice_in (sz := 1) (enc := intE1) Try.underlying86 (by kernel_rfl) (fun _ => rfl) (opens_int Try.underlying3) (by decide)))))
  refine opens_map (fun a => ⟨a.1, a.2.1, a.2.2⟩) h (fun _ => rfl) ?_
  exact fun _ h => ⟨h.1, h.2.1, h.2.2.1⟩
open Vm in
theorem openTree (w : World) (base : Nat) : OpensT Try.prog w base true 24 [22] 1 treeDs nodesB0 := by
  have h := opens_struct (w := w) (base := base) (c := true) Try.underlying24 (by kernel_rfl) (opensF_one rfl (by kernel_rfl) (opens_slice_in (sz := 3) (enc := NodeX.ds) Try.underlying22 (by kernel_rfl) (fun _ => rfl) (openNode w base false) (by decide)))
  exact opens_map id h (fun _ => rfl) (fun _ h => h)
open Vm in
theorem openPairs (w : World) (base : Nat) : OpensT Try.prog w base true 84 [84] 1 (fun l : List RngX => [.row 2 RngX.ds l]) (fun l => l.length ≤ 9223372036854775807 ∧ ∀ y ∈ l, rngB0 y) :=
  opens_slice Try.underlying84 (by kernel_rfl) (fun _ => rfl) (openPair w base false)
open Vm in
theorem openEdit (w : World) (base : Nat) (c : Bool) : OpensT Try.prog w base c 71 [9, 9, 4] 3 EdX.ds edB0 := by
  have h := opens_struct (w := w) (base := base) (c := c) Try.underlying71 (by kernel_rfl) (opensF_cons rfl (by kernel_rfl) (opens_string Try.underlying9) (opensF_cons rfl (by kernel_rfl) (opens_string Try.underlying9) (opensF_one rfl (by kernel_rfl) (opens_bool Try.underlying4))))
  refine opens_map (fun a => ⟨a.1, a.2.1, a.2.2⟩) h (fun _ => rfl) ?_
  exact fun _ h => ⟨h.1, h.2.1⟩
open Vm in
theorem openEdits (w : World) (base : Nat) : OpensT Try.prog w base true 35 [35] 1 (fun l : List EdX => [.row 3 EdX.ds l]) (fun l => l.length ≤ 9223372036854775807 ∧ ∀ y ∈ l, edB0 y) :=
  opens_slice Try.underlying35 (by kernel_rfl) (fun _ => rfl) (openEdit w base false)
set_option maxRecDepth 100000 in
theorem lifted (os : Os) (started : os.Started) (H : Type) (enc : TypeId × Value → H) :
    ReturnsInHanded {} Try.checked os 4 .any (Rows.fnExactDataSpec.pre6 enc Try.prog Try.f4 Rows.fnExactDataRow.domain false) (Rows.fnExactDataSpec.post enc Try.prog Try.f4 false true false false) := by
  refine returnsInHanded_of_change_sized (C := Try.checked) own started (by kernel_rfl) Try.func4
    (ChangeSpec.witness6 (enc := enc) (C := Try.checked) false ⟨#[], #[.agg #[.slice none 0 0], .slice none 0 0], []⟩ 8 (by kernel_rfl) (by kernel_rfl) (by kernel_rfl) (by kernel_rfl)) ?_
  intro W base args ds gs before hval0 hW hcnd hsz0 _
  have hval : ∀ (j : Nat) t v, Try.f4.params[j]? = some t → args[j]? = some v → Value.okWide Try.prog W .any base t v := hval0
  have hW' := hW
  obtain ⟨p, q, hA0, hV, rfl, hfz, hnd⟩ := hW
  have hA : DataW.TrodAll enc Try.prog W 0 (fun _ => true) true Try.f4.params.toList args.toList ds p := hA0
  rw [Try.params4] at hA hval
  obtain ⟨v0, vs0, d0, ds0, p0, q0, hargs, rfl, rfl, h0, r0⟩ := trodAll_cons hA
  obtain ⟨v1, vs1, d1, ds1, p1, q1, rfl, rfl, rfl, h1, r1⟩ := trodAll_cons r0
  obtain ⟨rfl, rfl, rfl⟩ := trodAll_nil r1
  obtain rfl : args = #[v0, v1] := by cases args; simp_all
  obtain ⟨rfl, rfl⟩ := trodVars_none hV
  have lt0 : ∀ x ∈ p0, x.block < W.heap.size := by obtain ⟨m, hm⟩ := h0; exact DataW.trod_lt m _ _ _ hm
  obtain ⟨a0, hb0, c0⟩ := Vm.arg_struct Try.underlying24 (by kernel_rfl) (hval 0 24 v0 rfl rfl) h0 (openTree W base)
  have lt1 : ∀ x ∈ p1, x.block < W.heap.size := by obtain ⟨m, hm⟩ := h1; exact DataW.trod_lt m _ _ _ hm
  obtain ⟨a1, hb1, c1⟩ := Vm.arg_slice Try.underlying35 (hval 1 35 v1 rfl rfl) h1 (openEdits W base)
  clear hA0 hval0 hsz0
  have hF0 : ∀ y, ¬ Vm.AnyF [fun _ => False, fun _ => False] y := fun y ⟨F, hF, hy⟩ => by
    simp at hF; subst hF; exact hy
  have hD0 : Vm.DisF [fun _ => False, fun _ => False] := by simp [Vm.DisF]
  refine (Vm.law_calls (R := fun x => x < W.heap.size) (Fs := [fun _ => False, fun _ => False]) Vm.lawData_ok Try.call4 ⟨a0, a1, hb0, hb1⟩ (fun _ _ h => h.2) rfl (args := [v0, v1]) ⟨c0, c1, trivial⟩ hF0 hD0 (fun _ h => h)).mono fun e W' ⟨he, bel0⟩ => ?_
  have bel : Below W.heap.size W W' := bel0
  subst he
  exact ⟨_, rfl, _, _, _, [], _, [], hW', trodAll_mk1 (shut_bool Try.underlying4 _), (trodAll_cons_mk (Below.trod laidOut (by kernel_rfl) (of_decide_eq_true (by kernel_rfl)) h0 bel lt0) (trodAll_cons_mk (Below.trod laidOut (by kernel_rfl) (of_decide_eq_true (by kernel_rfl)) h1 bel lt1) trodAll_mk0)), rfl, bel.frame _, fun h => by cases h⟩
theorem over : Rows.fnExactDataRow.holds Try.pinned (OpenSpec.ofChange Rows.fnExactDataSpec) :=
  OpenClaim.holds_of_wide 4 Try.f4 rfl rfl rfl rfl rfl rfl rfl ⟨rfl, rfl, rfl, rfl, rfl⟩ rfl rfl rfl rfl rfl (by kernel_rfl) Try.func4 (by kernel_rfl)
    (of_decide_eq_true (by kernel_rfl)) (by unfold Func.isWrapper; first | (rw [if_pos (by decide +kernel)]; kernel_rfl) | (rw [if_neg (by decide +kernel)]; exact ⟨rfl, rfl⟩))
    (fun os started H enc _ => lifted os started H enc)
theorem proved : Rows.FnExactDataSaid := over
#print axioms proved
end Go.Proofs.Ytedffkngbjlgdaa.fnExactData
namespace Go.Proofs.Ytedffkngbjlgdaa
/-- The row, under a short name, for the claim. -/
theorem fnExactData_holds : Rows.FnExactDataSaid := fnExactData.proved
end Go.Proofs.Ytedffkngbjlgdaa
