/- The law FnExactLastOf holds: whatever arguments the given row speaks of, the call returns true and the arguments read as before. No condition is added. -/
import Derived.Test.YtedffkngbjlgdaaDoorRows
import Derived.Test.YtedffkngbjlgdaaDoorTie
import Derived.Test.YtedffkngbjlgdaaDoorCards
import Derived.Lay
import Derived.LaidByTextLater
import Derived.Test.YtedffkngbjlgdaaDoorKb
import Derived.Test.YtedffkngbjlgdaaDoorRa
namespace Go.Proofs.YtedffkngbjlgdaaDoor.fnExactLastOf
open Go.ChangeShapes Go.WideShapes Go.ChangeAt Go.RowKit
open Go.ChangeMaps (open_string shut_string)
set_option linter.unusedVariables false
theorem own : ownKnob Tryd.prog.godebug = none := by kernel_rfl
theorem laidOut : laidOutB Tryd.prog = true := by kernel_rfl
open Vm in
theorem openPair (w : World) (base : Nat) (c : Bool) : OpensT Tryd.prog w base c 94 [9, 9] 2 RngX.ds rngB0 := by
  have h := opens_struct (w := w) (base := base) (c := c) Tryd.underlying94 (by kernel_rfl) (opensF_cons rfl (by kernel_rfl) (opens_string Tryd.underlying9) (opensF_one rfl (by kernel_rfl) (opens_string Tryd.underlying9)))
  refine opens_map (fun a => ⟨a.1, a.2⟩) h (fun _ => rfl) ?_
  exact fun _ h => h
open Vm in
theorem openNode (w : World) (base : Nat) (c : Bool) : OpensT Tryd.prog w base c 52 [48, 49, 50] 3 NodeX.ds nodeB0 := by
  have h := opens_struct (w := w) (base := base) (c := c) Tryd.underlying52 (by kernel_rfl) (opensF_cons rfl (by kernel_rfl) (opens_slice_in (sz := 2) (enc := RngX.ds) Tryd.underlying48 (by kernel_rfl) (fun _ => rfl) (openPair w base false) (by decide)) (opensF_cons rfl (by kernel_rfl) (opens_slice_in (sz := 1) (enc := strE1) Tryd.underlying49 (by kernel_rfl) (fun _ => rfl) (opens_string Tryd.underlying9) (by decide)) (opensF_one rfl (by kernel_rfl) (opens_slice_in (sz := 1) (enc := intE1) Tryd.underlying50 (by kernel_rfl) (fun _ => rfl) (opens_int Tryd.underlying3) (by decide)))))
  refine opens_map (fun a => ⟨a.1, a.2.1, a.2.2⟩) h (fun _ => rfl) ?_
  exact fun _ h => ⟨h.1, h.2.1, h.2.2.1⟩
open Vm in
theorem openTree (w : World) (base : Nat) : OpensT Tryd.prog w base true 24 [22] 1 treeDs nodesB0 := by
  have h := opens_struct (w := w) (base := base) (c := true) Tryd.underlying24 (by kernel_rfl) (opensF_one rfl (by kernel_rfl) (opens_slice_in (sz := 3) (enc := NodeX.ds) Tryd.underlying22 (by kernel_rfl) (fun _ => rfl) (openNode w base false) (by decide)))
  exact opens_map id h (fun _ => rfl) (fun _ h => h)
open Vm in
theorem openPairs (w : World) (base : Nat) : OpensT Tryd.prog w base true 48 [48] 1 (fun l : List RngX => [.row 2 RngX.ds l]) (fun l => l.length ≤ 9223372036854775807 ∧ ∀ y ∈ l, rngB0 y) :=
  opens_slice Tryd.underlying48 (by kernel_rfl) (fun _ => rfl) (openPair w base false)
noncomputable def laidWorld (os : Os) : World := World.laidAll Tryd.prog os Rows.fnExactLastOfRow.laid
theorem laidWorld_met (os : Os) (args : Array Value) : laidMetH Tryd.prog Rows.fnExactLastOfRow.laid ((laidWorld os).forCall (fun _ _ => 0) ⟨#[], args, []⟩).memory :=
  laidMetH_of_parts (laidMet_laidAll args (by kernel_rfl) (by kernel_rfl)) (by kernel_rfl)
set_option maxRecDepth 100000 in
theorem lifted (os : Os) (started : os.Started) (H : Type) (enc : TypeId × Value → H) :
    ReturnsInHanded {} Tryd.checked os 3 .any (fun w args => (Rows.fnExactLastOfSpec.pre enc Tryd.prog Tryd.f3 [] false w args ∧ laidMetH Tryd.prog Rows.fnExactLastOfRow.laid w) ∧ sizedMet enc Tryd.prog Tryd.f3 (OpenSpec.ofChange Rows.fnExactLastOfSpec) false w args) (Rows.fnExactLastOfSpec.post enc Tryd.prog Tryd.f3 false true false false) := by
  refine returnsInHanded_of_change_and (C := Tryd.checked) (X := fun w _ => laidMetH Tryd.prog Rows.fnExactLastOfRow.laid w) (fun _ _ _ hh h => h.of_heap hh) own started (by kernel_rfl) Tryd.func3
    (ChangeSpec.witness_at (enc := enc) (C := Tryd.checked) (os := os) (X := fun w _ => laidMetH Tryd.prog Rows.fnExactLastOfRow.laid w) false (laidWorld os) #[.agg #[.slice none 0 0], .int .i64 0] 8 rfl (by kernel_rfl) (by kernel_rfl) (by kernel_rfl) (by kernel_rfl) (by kernel_rfl) (laidWorld_met os _)) ?_
  intro W base args ds gs before hval0 hW hcnd hsz0 hL _
  have hval : ∀ (j : Nat) t v, Tryd.f3.params[j]? = some t → args[j]? = some v → Value.okWide Tryd.prog W .any base t v := hval0
  have hW' := hW
  obtain ⟨p, q, hA0, hV, rfl, hfz, hnd⟩ := hW
  have hA : DataW.TrodAll enc Tryd.prog W 0 (fun _ => true) true Tryd.f3.params.toList args.toList ds p := hA0
  rw [Tryd.params3] at hA hval
  obtain ⟨v0, vs0, d0, ds0, p0, q0, hargs, rfl, rfl, h0, r0⟩ := trodAll_cons hA
  obtain ⟨v1, vs1, d1, ds1, p1, q1, rfl, rfl, rfl, h1, r1⟩ := trodAll_cons r0
  obtain ⟨rfl, rfl, rfl⟩ := trodAll_nil r1
  obtain rfl : args = #[v0, v1] := by cases args; simp_all
  obtain ⟨rfl, rfl⟩ := trodVars_none hV
  have lt0 : ∀ x ∈ p0, x.block < W.heap.size := by obtain ⟨m, hm⟩ := h0; exact DataW.trod_lt m _ _ _ hm
  obtain ⟨a0, hb0, c0⟩ := Vm.arg_struct Tryd.underlying24 (by kernel_rfl) (hval 0 24 v0 rfl rfl) h0 (openTree W base)
  have lt1 : ∀ x ∈ p1, x.block < W.heap.size := by obtain ⟨m, hm⟩ := h1; exact DataW.trod_lt m _ _ _ hm
  obtain ⟨a1, rfl, hb1⟩ := open_int Tryd.underlying3 (hval 1 3 v1 rfl rfl) h1
  clear hA0 hval0 hsz0
  have hF0 : ∀ y, ¬ Vm.AnyF [fun _ => False, fun _ => False] y := fun y ⟨F, hF, hy⟩ => by
    simp at hF; subst hF; exact hy
  have hD0 : Vm.DisF [fun _ => False, fun _ => False] := by simp [Vm.DisF]
  refine (Vm.law_calls (R := fun x => x < W.heap.size) (Fs := [fun _ => False, fun _ => False]) Vm.lawLastOf_ok Tryd.call3 ⟨a0, a1, hb0, (Vm.i64_wf hb1.2.2).1, (Vm.i64_wf hb1.2.2).2⟩ (fun _ _ h => h.2) rfl (args := [v0, .int .i64 a1]) ⟨c0, Vm.argLf rfl, trivial⟩ hF0 hD0 (fun _ h => h)).mono fun e W' ⟨he, bel0⟩ => ?_
  have bel : Below W.heap.size W W' := bel0
  subst he
  exact ⟨_, rfl, _, _, _, [], _, [], hW', trodAll_mk1 (shut_bool Tryd.underlying4 _), (trodAll_cons_mk (Below.trod laidOut (by kernel_rfl) (of_decide_eq_true (by kernel_rfl)) h0 bel lt0) (trodAll_cons_mk (Below.trod laidOut (by kernel_rfl) (of_decide_eq_true (by kernel_rfl)) h1 bel lt1) trodAll_mk0)), rfl, bel.frame _, fun h => by cases h⟩
theorem over : Rows.fnExactLastOfRow.holds Tryd.pinned (OpenSpec.ofChange Rows.fnExactLastOfSpec) :=
  OpenClaim.holds_of_wide 3 Tryd.f3 rfl rfl rfl rfl rfl rfl rfl ⟨rfl, rfl, rfl, rfl, rfl⟩ rfl rfl rfl rfl rfl (by kernel_rfl) Tryd.func3 (by kernel_rfl)
    (of_decide_eq_true (by kernel_rfl)) (by unfold Func.isWrapper; first | (rw [if_pos (by decide +kernel)]; kernel_rfl) | (rw [if_neg (by decide +kernel)]; exact ⟨rfl, rfl⟩))
    (fun os started H enc _ => lifted os started H enc)
theorem proved : Rows.FnExactLastOfSaid := over
end Go.Proofs.YtedffkngbjlgdaaDoor.fnExactLastOf
namespace Go.Proofs.YtedffkngbjlgdaaDoor
open Go
theorem fnExactLastOf_card : Rows.FnExactLastOfCardSaid :=
  Claim7.holds_tied_plain_at .later [] [.data, .pinned] true (true, "d57924bd78ed4b69c9ccaf2bdb847ae7b0774c283a831dbdf218a22201406cff") false
    fnExactLastOf.proved (fun _ h => by cases h) (by kernel_rfl) (fun _ h => by cases h) fnExactLastOf_row_tie rfl ⟨rfl, rfl⟩ (by kernel_rfl) rfl
    (fun f fn hf hfn => by
      obtain rfl : f = 3 := Option.some.inj ((show Tryd.prog.funcNamed "loop.example/g00392/laws.FnExactLastOf" = some 3 by kernel_rfl).symm.trans hf) |>.symm
      obtain rfl : fn = Tryd.f3 := (Option.some.inj (Tryd.func3.symm.trans hfn)).symm
      exact ⟨by kernel_rfl, fun j t ht => by
        rw [Tryd.params3] at ht
        have hm : t ∈ [24, 3] := by simpa using Array.mem_of_getElem? ht
        have hall : ([24, 3].all fun u => !Tryd.prog.wantsStandIn u) = true := by kernel_rfl
        exact (show Tryd.prog.wantsStandIn t = false by simpa using List.all_eq_true.1 hall t hm)⟩)
    (by kernel_rfl)
#print axioms fnExactLastOf_card
end Go.Proofs.YtedffkngbjlgdaaDoor
