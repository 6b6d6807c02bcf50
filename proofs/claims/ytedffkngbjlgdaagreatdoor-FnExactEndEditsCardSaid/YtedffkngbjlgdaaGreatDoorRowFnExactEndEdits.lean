/- The law FnExactEndEdits holds: whatever arguments the given row speaks of, the call returns true and the arguments read as before. No condition is added. -/
import Derived.Test.YtedffkngbjlgdaaGreatDoorRows
import Derived.Test.YtedffkngbjlgdaaGreatDoorTie
import Derived.Test.YtedffkngbjlgdaaGreatDoorCards
import Derived.Lay
import Derived.LaidByTextLater
import Derived.Test.YtedffkngbjlgdaaGreatDoorKc
import Derived.Test.YtedffkngbjlgdaaGreatDoorRa
namespace Go.Proofs.YtedffkngbjlgdaaGreatDoor.fnExactEndEdits
open Go.ChangeShapes Go.WideShapes Go.ChangeAt Go.RowKit
open Go.ChangeMaps (open_string shut_string)
set_option linter.unusedVariables false
theorem own : ownKnob Tryz.prog.godebug = none := by kernel_rfl
theorem laidOut : laidOutB Tryz.prog = true := by kernel_rfl
open Vm in
theorem openTx (w : World) (base : Nat) (c : Bool) : OpensT Tryz.prog w base c 26 [3, 3, 3] 3 TxX.ds (fun x => intB x.c ∧ intB x.e ∧ intB x.n) := by
  have h := opens_struct (w := w) (base := base) (c := c) Tryz.underlying26 (by kernel_rfl) (opensF_cons rfl (by kernel_rfl) (opens_int Tryz.underlying3) (opensF_cons rfl (by kernel_rfl) (opens_int Tryz.underlying3) (opensF_one rfl (by kernel_rfl) (opens_int Tryz.underlying3))))
  exact opens_map (fun a => ⟨a.1, a.2.1, a.2.2⟩) h (fun _ => rfl) (fun _ h => h)
open Vm in
theorem openTx1 (w : World) (base : Nat) : OpensT Tryz.prog w base true 26 [3, 3, 3] 3 TxX.ds (fun x => intB x.c ∧ intB x.e ∧ intB x.n) := openTx w base true
open Vm in
theorem openPair (w : World) (base : Nat) (c : Bool) : OpensT Tryz.prog w base c 205 [9, 9] 2 RngX.ds rngB0 := by
  have h := opens_struct (w := w) (base := base) (c := c) Tryz.underlying205 (by kernel_rfl) (opensF_cons rfl (by kernel_rfl) (opens_string Tryz.underlying9) (opensF_one rfl (by kernel_rfl) (opens_string Tryz.underlying9)))
  refine opens_map (fun a => ⟨a.1, a.2⟩) h (fun _ => rfl) ?_
  exact fun _ h => h
open Vm in
theorem openNode (w : World) (base : Nat) (c : Bool) : OpensT Tryz.prog w base c 112 [108, 109, 110] 3 NodeX.ds nodeB0 := by
  have h := opens_struct (w := w) (base := base) (c := c) Tryz.underlying112 (by kernel_rfl) (opensF_cons rfl (by kernel_rfl) (opens_slice_in (sz := 2) (enc := RngX.ds) Tryz.underlying108 (by kernel_rfl) (fun _ => rfl) (openPair w base false) (by decide)) (opensF_cons rfl (by kernel_rfl) (opens_slice_in (sz := 1) (enc := strE1) Tryz.underlying109 (by kernel_rfl) (fun _ => rfl) (opens_string Tryz.underlying9) (by decide)) (opensF_one rfl (by kernel_rfl) (opens_slice_in (sz := 1) (enc := intE1) Tryz.underlying110 (by kernel_rfl) (fun _ => rfl) (opens_int Tryz.underlying3) (by decide)))))
  refine opens_map (fun a => ⟨a.1, a.2.1, a.2.2⟩) h (fun _ => rfl) ?_
  exact fun _ h => ⟨h.1, h.2.1, h.2.2.1⟩
open Vm in
theorem openTree (w : World) (base : Nat) : OpensT Tryz.prog w base true 24 [22] 1 treeDs nodesB0 := by
  have h := opens_struct (w := w) (base := base) (c := true) Tryz.underlying24 (by kernel_rfl) (opensF_one rfl (by kernel_rfl) (opens_slice_in (sz := 3) (enc := NodeX.ds) Tryz.underlying22 (by kernel_rfl) (fun _ => rfl) (openNode w base false) (by decide)))
  exact opens_map id h (fun _ => rfl) (fun _ h => h)
open Vm in
theorem openPairs (w : World) (base : Nat) : OpensT Tryz.prog w base true 108 [108] 1 (fun l : List RngX => [.row 2 RngX.ds l]) (fun l => l.length ≤ 9223372036854775807 ∧ ∀ y ∈ l, rngB0 y) :=
  opens_slice Tryz.underlying108 (by kernel_rfl) (fun _ => rfl) (openPair w base false)
noncomputable def laidWorld (os : Os) : World := World.laidAll Tryz.prog os Rows.fnExactEndEditsRow.laid
theorem laidWorld_met (os : Os) (args : Array Value) : laidMetH Tryz.prog Rows.fnExactEndEditsRow.laid ((laidWorld os).forCall (fun _ _ => 0) ⟨#[], args, []⟩).memory :=
  laidMetH_of_parts (laidMet_laidAll args (by kernel_rfl) (by kernel_rfl)) (by kernel_rfl)
set_option maxRecDepth 100000 in
theorem lifted (os : Os) (started : os.Started) (H : Type) (enc : TypeId × Value → H) :
    ReturnsInHanded {} Tryz.checked os 3 .any (fun w args => (Rows.fnExactEndEditsSpec.pre enc Tryz.prog Tryz.f3 [] false w args ∧ laidMetH Tryz.prog Rows.fnExactEndEditsRow.laid w) ∧ sizedMet enc Tryz.prog Tryz.f3 (OpenSpec.ofChange Rows.fnExactEndEditsSpec) false w args) (Rows.fnExactEndEditsSpec.post enc Tryz.prog Tryz.f3 false true false false) := by
  refine returnsInHanded_of_change_and (C := Tryz.checked) (X := fun w _ => laidMetH Tryz.prog Rows.fnExactEndEditsRow.laid w) (fun _ _ _ hh h => h.of_heap hh) own started (by kernel_rfl) Tryz.func3
    (ChangeSpec.witness_at (enc := enc) (C := Tryz.checked) (os := os) (X := fun w _ => laidMetH Tryz.prog Rows.fnExactEndEditsRow.laid w) false (laidWorld os) #[.agg #[.slice none 0 0], .agg #[.int .i64 0, .int .i64 0, .int .i64 0], .bool false] 8 rfl (by kernel_rfl) (by kernel_rfl) (by kernel_rfl) (by kernel_rfl) (by kernel_rfl) (laidWorld_met os _)) ?_
  intro W base args ds gs before hval0 hW hcnd hsz0 hL _
  have hval : ∀ (j : Nat) t v, Tryz.f3.params[j]? = some t → args[j]? = some v → Value.okWide Tryz.prog W .any base t v := hval0
  have hW' := hW
  obtain ⟨p, q, hA0, hV, rfl, hfz, hnd⟩ := hW
  have hA : DataW.TrodAll enc Tryz.prog W 0 (fun _ => true) true Tryz.f3.params.toList args.toList ds p := hA0
  rw [Tryz.params3] at hA hval
  obtain ⟨v0, vs0, d0, ds0, p0, q0, hargs, rfl, rfl, h0, r0⟩ := trodAll_cons hA
  obtain ⟨v1, vs1, d1, ds1, p1, q1, rfl, rfl, rfl, h1, r1⟩ := trodAll_cons r0
  obtain ⟨v2, vs2, d2, ds2, p2, q2, rfl, rfl, rfl, h2, r2⟩ := trodAll_cons r1
  obtain ⟨rfl, rfl, rfl⟩ := trodAll_nil r2
  obtain rfl : args = #[v0, v1, v2] := by cases args; simp_all
  obtain ⟨rfl, rfl⟩ := trodVars_none hV
  have lt0 : ∀ x ∈ p0, x.block < W.heap.size := by obtain ⟨m, hm⟩ := h0; exact DataW.trod_lt m _ _ _ hm
  obtain ⟨a0, hb0, c0⟩ := Vm.arg_struct Tryz.underlying24 (by kernel_rfl) (hval 0 24 v0 rfl rfl) h0 (openTree W base)
  have lt1 : ∀ x ∈ p1, x.block < W.heap.size := by obtain ⟨m, hm⟩ := h1; exact DataW.trod_lt m _ _ _ hm
  obtain ⟨a1, hb1, c1⟩ := Vm.arg_struct Tryz.underlying26 (by kernel_rfl) (hval 1 26 v1 rfl rfl) h1 (openTx1 W base)
  have lt2 : ∀ x ∈ p2, x.block < W.heap.size := by obtain ⟨m, hm⟩ := h2; exact DataW.trod_lt m _ _ _ hm
  obtain ⟨a2, rfl, hb2⟩ := open_bool Tryz.underlying4 (hval 2 4 v2 rfl rfl) h2
  clear hA0 hval0 hsz0
  have hF0 : ∀ y, ¬ Vm.AnyF [fun _ => False, fun _ => False, fun _ => False] y := fun y ⟨F, hF, hy⟩ => by
    simp at hF; subst hF; exact hy
  have hD0 : Vm.DisF [fun _ => False, fun _ => False, fun _ => False] := by simp [Vm.DisF]
  refine (Vm.law_calls (R := fun x => x < W.heap.size) (Fs := [fun _ => False, fun _ => False, fun _ => False]) Vm.lawEndEdits_ok Tryz.call3 ⟨a0, a1, a2, hb0⟩ (fun _ _ h => h.2) rfl (args := [v0, v1, .bool a2]) ⟨c0, c1, Vm.argLf rfl, trivial⟩ hF0 hD0 (fun _ h => h)).mono fun e W' ⟨he, bel0⟩ => ?_
  have bel : Below W.heap.size W W' := bel0
  subst he
  exact ⟨_, rfl, _, _, _, [], _, [], hW', trodAll_mk1 (shut_bool Tryz.underlying4 _), (trodAll_cons_mk (Below.trod laidOut (by kernel_rfl) (of_decide_eq_true (by kernel_rfl)) h0 bel lt0) (trodAll_cons_mk (Below.trod laidOut (by kernel_rfl) (of_decide_eq_true (by kernel_rfl)) h1 bel lt1) (trodAll_cons_mk (Below.trod laidOut (by kernel_rfl) (of_decide_eq_true (by kernel_rfl)) h2 bel lt2) trodAll_mk0))), rfl, bel.frame _, fun h => by cases h⟩
theorem over : Rows.fnExactEndEditsRow.holds Tryz.pinned (OpenSpec.ofChange Rows.fnExactEndEditsSpec) :=
  OpenClaim.holds_of_wide 3 Tryz.f3 rfl rfl rfl rfl rfl rfl rfl ⟨rfl, rfl, rfl, rfl, rfl⟩ rfl rfl rfl rfl rfl (by kernel_rfl) Tryz.func3 (by kernel_rfl)
    (of_decide_eq_true (by kernel_rfl)) (by unfold Func.isWrapper; first | (rw [if_pos (by decide +kernel)]; kernel_rfl) | (rw [if_neg (by decide +kernel)]; exact ⟨rfl, rfl⟩))
    (fun os started H enc _ => lifted os started H enc)
theorem proved : Rows.FnExactEndEditsSaid := over
end Go.Proofs.YtedffkngbjlgdaaGreatDoor.fnExactEndEdits
namespace Go.Proofs.YtedffkngbjlgdaaGreatDoor
open Go
theorem fnExactEndEdits_card : Rows.FnExactEndEditsCardSaid :=
  Claim7.holds_tied_plain_at .later [] [.data, .pinned] true (true, "d81c3e9f8a2035c7c147b3e28919856b498c47561068928382a4b0b7c4aa55e1") false
    fnExactEndEdits.proved (fun _ h => by cases h) (by kernel_rfl) (fun _ h => by cases h) fnExactEndEdits_row_tie rfl ⟨rfl, rfl⟩ (by kernel_rfl) rfl
    (fun f fn hf hfn => by
      obtain rfl : f = 3 := Option.some.inj ((show Tryz.prog.funcNamed "loop.example/g00392/laws.FnExactEndEdits" = some 3 by kernel_rfl).symm.trans hf) |>.symm
      obtain rfl : fn = Tryz.f3 := (Option.some.inj (Tryz.func3.symm.trans hfn)).symm
      exact ⟨by kernel_rfl, fun j t ht => by
        rw [Tryz.params3] at ht
        have hm : t ∈ [24, 26, 4] := by simpa using Array.mem_of_getElem? ht
        have hall : ([24, 26, 4].all fun u => !Tryz.prog.wantsStandIn u) = true := by kernel_rfl
        exact (show Tryz.prog.wantsStandIn t = false by simpa using List.all_eq_true.1 hall t hm)⟩)
    (by kernel_rfl)
#print axioms fnExactEndEdits_card
end Go.Proofs.YtedffkngbjlgdaaGreatDoor
