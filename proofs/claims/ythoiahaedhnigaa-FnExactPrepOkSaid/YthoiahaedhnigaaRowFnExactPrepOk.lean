/- The law FnExactPrepOk holds: whatever arguments the given row speaks of, the call returns true and the arguments read as before. No condition is added. The machine's side is the kit's print; the arguments are opened cell by cell, what lies on the heap too. -/
import Derived.Test.YthoiahaedhnigaaRows
import Derived.Test.YthoiahaedhnigaaPFnExactPrepOkx5
import Derived.Test.YthoiahaedhnigaaCells
import Derived.Test.YthoiahaedhnigaaDeep
import Derived.Test.YthoiahaedhnigaaPureFnExactPrepOk
import Derived.WalkKit
import Derived.ProofKit
import Derived.OpenShut
import Derived.ShutString
import Derived.ChangeOld
import Derived.Below
import Derived.Carry
import Derived.SizedLaws
namespace Go.Proofs.Ythoiahaedhnigaa.fnExactPrepOk
open Go.ChangeShapes Go.WideShapes Go.ChangeAt Go.RowKit Cells DeepOpen Go.Proofs.Ythoiahaedhnigaa.PFnExactPrepOk Go.Proofs.YthoiahaedhnigaaW.PrintWords
set_option linter.unusedVariables false
theorem own : ownKnob Try.prog.godebug = none := by kernel_rfl
theorem laidOut : laidOutB Try.prog = true := by kernel_rfl
theorem open77 (w : World) : Opens Try.prog w 77 k77 (fun x => (StrOk x.f0 ∧ StrOk x.f1)) := by
  have h := opens_struct (w := w) Try.underlying77 (d := _) (by kernel_rfl) (opensF_cons rfl (by kernel_rfl) (opens_string Try.underlying9) (opensF_one rfl (by kernel_rfl) (opens_string Try.underlying9)))
  exact opens_iso (fun a => ⟨a.1, a.2⟩) (fun _ => rfl) h
theorem open160 (w : World) : Opens Try.prog w 160 k160 (fun x => (IntOk x.f0 ∧ StrOk x.f1 ∧ StrOk x.f2 ∧ (StrOk x.f3.f0 ∧ StrOk x.f3.f1))) := by
  have h := opens_struct (w := w) Try.underlying160 (d := _) (by kernel_rfl) (opensF_cons rfl (by kernel_rfl) (opens_int Try.underlying3) (opensF_cons rfl (by kernel_rfl) (opens_string Try.underlying9) (opensF_cons rfl (by kernel_rfl) (opens_string Try.underlying9) (opensF_one rfl (by kernel_rfl) (open77 w)))))
  exact opens_iso (fun a => ⟨a.1, a.2.1, a.2.2.1, a.2.2.2⟩) (fun _ => rfl) h
theorem top0 (w : World) : Opens Try.prog w 38 (Kd.pair (Kd.pair (Kd.int .i64) (Kd.pair (Kd.int .i64) (Kd.int .i64))) (Kd.slice 160 k160)) (fun x => ((IntOk x.1.1 ∧ (IntOk x.1.2.1 ∧ IntOk x.1.2.2)) ∧ (x.2.length ≤ 9223372036854775807 ∧ ∀ y ∈ x.2, (IntOk y.f0 ∧ StrOk y.f1 ∧ StrOk y.f2 ∧ (StrOk y.f3.f0 ∧ StrOk y.f3.f1))))) := by
  have h := (opens_struct (w := w) Try.underlying38 (by kernel_rfl) (opensF_cons rfl (by kernel_rfl) (opens_struct Try.underlying35 (by kernel_rfl) (opensF_cons rfl (by kernel_rfl) (opens_int Try.underlying3) (opensF_cons rfl (by kernel_rfl) (opens_int Try.underlying3) (opensF_one rfl (by kernel_rfl) (opens_int Try.underlying3))))) (opensF_one rfl (by kernel_rfl) (opens_slice Try.underlying36 (by kernel_rfl) (open160 w)))))
  exact h
set_option maxRecDepth 100000 in
theorem lifted (os : Os) (started : os.Started) (H : Type) (enc : TypeId × Value → H) :
    ReturnsInHanded {} Try.checked os 4 .any (Rows.fnExactPrepOkSpec.pre6 enc Try.prog Try.f4 Rows.fnExactPrepOkRow.domain false) (Rows.fnExactPrepOkSpec.post enc Try.prog Try.f4 false true false false) := by
  refine returnsInHanded_of_change_sized (C := Try.checked) own started (by kernel_rfl) Try.func4
    (ChangeSpec.witness6 (enc := enc) (C := Try.checked) false ⟨#[], #[.agg #[.int .i64 0, .int .i64 0, .int .i64 0, .slice none 0 0]], []⟩ 8 (by kernel_rfl) (by kernel_rfl) (by kernel_rfl) (by kernel_rfl)) ?_
  intro W base args ds gs before hval0 hW hcnd hsz0 _
  have hval : ∀ (j : Nat) t v, Try.f4.params[j]? = some t → args[j]? = some v → Value.okWide Try.prog W .any base t v := hval0
  have hW' := hW
  obtain ⟨p, q, hA0, hV, rfl, hfz, hnd⟩ := hW
  have hA : DataW.TrodAll enc Try.prog W 0 (fun _ => true) true Try.f4.params.toList args.toList ds p := hA0
  rw [Try.params4] at hA hval
  obtain ⟨v0, vs0, d0, ds0, p0, q0, hargs, rfl, rfl, h0, r0⟩ := trodAll_cons hA
  obtain ⟨rfl, rfl, rfl⟩ := trodAll_nil r0
  obtain rfl : args = #[v0] := by cases args; simp_all
  obtain ⟨rfl, rfl⟩ := trodVars_none hV
  have lt0 : ∀ x ∈ p0, x.block < W.heap.size := by obtain ⟨m, hm⟩ := h0; exact DataW.trod_lt m _ _ _ hm
  obtain ⟨cs0, rfl⟩ := open_agg Try.underlying38 (hval 0 38 v0 rfl rfl)
  obtain ⟨m0, hm0⟩ := h0
  obtain ⟨⟨⟨a0_0, ⟨a0_1, a0_2⟩⟩, l0_3⟩, hK0, hB0⟩ := top0 W H enc m0 cs0 _ hm0
  obtain ⟨_, _, rfl, ⟨_, _, rfl, rfl, ⟨_, _, rfl, rfl, rfl⟩⟩, ⟨A0_3, c0_3, rfl, hc0_3, hr0_3⟩⟩ := hK0
  obtain ⟨⟨wa0_0, ⟨wa0_1, wa0_2⟩⟩, wl0_3⟩ := hB0
  clear hA0 hval0 hsz0
  obtain ⟨k, hk⟩ := Pure.FnExactPrepOk a0_0 a0_1 a0_2 l0_3 wa0_0 wa0_1 wa0_2 wl0_3
  refine (PFnExactPrepOk.laws_FnExactPrepOk.calls k a0_0 a0_1 a0_2 A0_3 c0_3 l0_3 true W hr0_3 hc0_3 hk).mono fun e W' ⟨he, bel0⟩ => ?_
  have bel : Below W.heap.size W W' := bel0
  subst he
  exact ⟨_, rfl, _, _, _, [], _, [], hW', trodAll_mk1 (shut_bool Try.underlying4 _), (trodAll_cons_mk (Below.trod laidOut (by kernel_rfl) (of_decide_eq_true (by kernel_rfl)) ⟨m0, hm0⟩ bel lt0) trodAll_mk0), rfl, bel.frame _, fun h => by cases h⟩
theorem over : Rows.fnExactPrepOkRow.holds Try.pinned (OpenSpec.ofChange Rows.fnExactPrepOkSpec) :=
  OpenClaim.holds_of_wide 4 Try.f4 rfl rfl rfl rfl rfl rfl rfl ⟨rfl, rfl, rfl, rfl, rfl⟩ rfl rfl rfl rfl rfl (by kernel_rfl) Try.func4 (by kernel_rfl)
    (of_decide_eq_true (by kernel_rfl)) (by unfold Func.isWrapper; first | (rw [if_pos (by decide +kernel)]; kernel_rfl) | (rw [if_neg (by decide +kernel)]; exact ⟨rfl, rfl⟩))
    (fun os started H enc _ => lifted os started H enc)
theorem proved : Rows.FnExactPrepOkSaid := over
#print axioms proved
end Go.Proofs.Ythoiahaedhnigaa.fnExactPrepOk
namespace Go.Proofs.Ythoiahaedhnigaa
/-- The row, under a short name, for the claim. -/
theorem fnExactPrepOk_holds : Rows.FnExactPrepOkSaid := fnExactPrepOk.proved
end Go.Proofs.Ythoiahaedhnigaa
