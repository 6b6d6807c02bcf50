/- The law FnExactPrepEdits holds: whatever arguments the given row speaks of, the call returns true and the arguments read as before. No condition is added. The machine's side is the kit's print; the arguments are opened cell by cell, what lies on the heap too. -/
import Derived.Test.YtlbeppaimfpchaaRows
import Derived.Test.YtlbeppaimfpchaaPFnExactPrepEditsx14
import Derived.Test.YtlbeppaimfpchaaCells
import Derived.Test.YtlbeppaimfpchaaDeep
import Derived.Test.YtlbeppaimfpchaaPureFnExactPrepEdits
import Derived.WalkKit
import Derived.ProofKit
import Derived.OpenShut
import Derived.ShutString
import Derived.ChangeOld
import Derived.Below
import Derived.Carry
import Derived.SizedLaws
namespace Go.Proofs.Ytlbeppaimfpchaa.fnExactPrepEdits
open Go.ChangeShapes Go.WideShapes Go.ChangeAt Go.RowKit Cells DeepOpen Go.Proofs.Ytlbeppaimfpchaa.PFnExactPrepEdits Go.Proofs.YtlbeppaimfpchaaW.PrintWords
set_option linter.unusedVariables false
theorem own : ownKnob Try.prog.godebug = none := by kernel_rfl
theorem laidOut : laidOutB Try.prog = true := by kernel_rfl
theorem open41 (w : World) : Opens Try.prog w 41 k41 (fun x => (StrOk x.f0 ∧ StrOk x.f1)) := by
  have h := opens_struct (w := w) Try.underlying41 (d := _) (by kernel_rfl) (opensF_cons rfl (by kernel_rfl) (opens_string Try.underlying9) (opensF_one rfl (by kernel_rfl) (opens_string Try.underlying9)))
  exact opens_iso (fun a => ⟨a.1, a.2⟩) (fun _ => rfl) h
theorem open195 (w : World) : Opens Try.prog w 195 k195 (fun x => (IntOk x.f0 ∧ StrOk x.f1 ∧ StrOk x.f2 ∧ (StrOk x.f3.f0 ∧ StrOk x.f3.f1))) := by
  have h := opens_struct (w := w) Try.underlying195 (d := _) (by kernel_rfl) (opensF_cons rfl (by kernel_rfl) (opens_int Try.underlying3) (opensF_cons rfl (by kernel_rfl) (opens_string Try.underlying9) (opensF_cons rfl (by kernel_rfl) (opens_string Try.underlying9) (opensF_one rfl (by kernel_rfl) (open41 w)))))
  exact opens_iso (fun a => ⟨a.1, a.2.1, a.2.2.1, a.2.2.2⟩) (fun _ => rfl) h
theorem top0 (w : World) : Opens Try.prog w 26 (Kd.pair (Kd.pair (Kd.int .i64) (Kd.pair (Kd.int .i64) (Kd.int .i64))) (Kd.slice 195 k195)) (fun x => ((IntOk x.1.1 ∧ (IntOk x.1.2.1 ∧ IntOk x.1.2.2)) ∧ (x.2.length ≤ 9223372036854775807 ∧ ∀ y ∈ x.2, (IntOk y.f0 ∧ StrOk y.f1 ∧ StrOk y.f2 ∧ (StrOk y.f3.f0 ∧ StrOk y.f3.f1))))) := by
  have h := (opens_struct (w := w) Try.underlying26 (by kernel_rfl) (opensF_cons rfl (by kernel_rfl) (opens_struct Try.underlying23 (by kernel_rfl) (opensF_cons rfl (by kernel_rfl) (opens_int Try.underlying3) (opensF_cons rfl (by kernel_rfl) (opens_int Try.underlying3) (opensF_one rfl (by kernel_rfl) (opens_int Try.underlying3))))) (opensF_one rfl (by kernel_rfl) (opens_slice Try.underlying24 (by kernel_rfl) (open195 w)))))
  exact h
set_option maxRecDepth 100000 in
theorem lifted (os : Os) (started : os.Started) (H : Type) (enc : TypeId × Value → H) :
    ReturnsInHanded {} Try.checked os 3 .any (Rows.fnExactPrepEditsSpec.pre6 enc Try.prog Try.f3 Rows.fnExactPrepEditsRow.domain false) (Rows.fnExactPrepEditsSpec.post enc Try.prog Try.f3 false true false false) := by
  refine returnsInHanded_of_change_sized (C := Try.checked) own started (by kernel_rfl) Try.func3
    (ChangeSpec.witness6 (enc := enc) (C := Try.checked) false ⟨#[], #[.agg #[.int .i64 0, .int .i64 0, .int .i64 0, .slice none 0 0]], []⟩ 8 (by kernel_rfl) (by kernel_rfl) (by kernel_rfl) (by kernel_rfl)) ?_
  intro W base args ds gs before hval0 hW hcnd hsz0 _
  have hval : ∀ (j : Nat) t v, Try.f3.params[j]? = some t → args[j]? = some v → Value.okWide Try.prog W .any base t v := hval0
  have hW' := hW
  obtain ⟨p, q, hA0, hV, rfl, hfz, hnd⟩ := hW
  have hA : DataW.TrodAll enc Try.prog W 0 (fun _ => true) true Try.f3.params.toList args.toList ds p := hA0
  rw [Try.params3] at hA hval
  obtain ⟨v0, vs0, d0, ds0, p0, q0, hargs, rfl, rfl, h0, r0⟩ := trodAll_cons hA
  obtain ⟨rfl, rfl, rfl⟩ := trodAll_nil r0
  obtain rfl : args = #[v0] := by cases args; simp_all
  obtain ⟨rfl, rfl⟩ := trodVars_none hV
  have lt0 : ∀ x ∈ p0, x.block < W.heap.size := by obtain ⟨m, hm⟩ := h0; exact DataW.trod_lt m _ _ _ hm
  obtain ⟨cs0, rfl⟩ := open_agg Try.underlying26 (hval 0 26 v0 rfl rfl)
  obtain ⟨m0, hm0⟩ := h0
  obtain ⟨⟨⟨a0_0, ⟨a0_1, a0_2⟩⟩, l0_3⟩, hK0, hB0⟩ := top0 W H enc m0 cs0 _ hm0
  obtain ⟨_, _, rfl, ⟨_, _, rfl, rfl, ⟨_, _, rfl, rfl, rfl⟩⟩, ⟨A0_3, c0_3, rfl, hc0_3, hr0_3⟩⟩ := hK0
  obtain ⟨⟨wa0_0, ⟨wa0_1, wa0_2⟩⟩, wl0_3⟩ := hB0
  clear hA0 hval0 hsz0
  obtain ⟨k, hk⟩ := Pure.FnExactPrepEdits a0_0 a0_1 a0_2 l0_3 wa0_0 wa0_1 wa0_2 wl0_3
  refine (PFnExactPrepEdits.laws_FnExactPrepEdits.calls k a0_0 a0_1 a0_2 A0_3 c0_3 l0_3 true W hr0_3 hc0_3 hk).mono fun e W' ⟨he, bel0⟩ => ?_
  have bel : Below W.heap.size W W' := bel0
  subst he
  exact ⟨_, rfl, _, _, _, [], _, [], hW', trodAll_mk1 (shut_bool Try.underlying4 _), (trodAll_cons_mk (Below.trod laidOut (by kernel_rfl) (of_decide_eq_true (by kernel_rfl)) ⟨m0, hm0⟩ bel lt0) trodAll_mk0), rfl, bel.frame _, fun h => by cases h⟩
theorem over : Rows.fnExactPrepEditsRow.holds Try.pinned (OpenSpec.ofChange Rows.fnExactPrepEditsSpec) :=
  OpenClaim.holds_of_wide 3 Try.f3 rfl rfl rfl rfl rfl rfl rfl ⟨rfl, rfl, rfl, rfl, rfl⟩ rfl rfl rfl rfl rfl (by kernel_rfl) Try.func3 (by kernel_rfl)
    (of_decide_eq_true (by kernel_rfl)) (by unfold Func.isWrapper; first | (rw [if_pos (by decide +kernel)]; kernel_rfl) | (rw [if_neg (by decide +kernel)]; exact ⟨rfl, rfl⟩))
    (fun os started H enc _ => lifted os started H enc)
theorem proved : Rows.FnExactPrepEditsSaid := over
#print axioms proved
end Go.Proofs.Ytlbeppaimfpchaa.fnExactPrepEdits
namespace Go.Proofs.Ytlbeppaimfpchaa
/-- The row, under a short name, for the claim. -/
theorem fnExactPrepEdits_holds : Rows.FnExactPrepEditsSaid := fnExactPrepEdits.proved
end Go.Proofs.Ytlbeppaimfpchaa
