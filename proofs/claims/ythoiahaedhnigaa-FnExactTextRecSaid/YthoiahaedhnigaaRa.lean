/- From contracts to rows: a law that only reads, and what lies behind its arguments. -/
import Derived.Test.YthoiahaedhnigaaKa
import Derived.WalkKit
import Derived.ProofKit
import Derived.OpenShut
import Derived.ShutString
import Derived.ChangeArms
import Derived.ChangeOld
import Derived.DataReads
import Derived.Below
import Derived.Carry
import Derived.SizedLaws
namespace Go.Vm
open Go.RowKit Go.Proofs Go.ChangeShapes Go.WideShapes Go.ChangeAt
set_option linter.unusedVariables false
set_option linter.unusedSimpArgs false

theorem Own.lf_eq {w : World} {F : Nat → Prop} {v u : Value} (h : Own w F v (.lf u)) : v = u := by cases h; rfl

/-- A law's call. -/
theorem law_calls {P : Program} {f : Nat} {c : Con} (h : FnOk P f c) (hcall : ∀ (args : Array Value) (w : World), (callFunc f args).run P w = .ok (.enter f args) w) (x : c.X) (hpost : ∀ outs res, c.post x outs res → res = [[.lf (.bool true)]]) (hres : c.res = [false])
    {w : World} {args : List Value} {R : Nat → Prop} {Fs : List (Nat → Prop)} (hA : ArgsR w R R c.params (c.ins x) args Fs) (hF : ∀ y, ¬ AnyF Fs y) (hD : DisF Fs) (hR : ∀ y, R y → y < w.heap.size) :
    Calls P f args.toArray w fun e w' => e = .returned (.bool true) ∧ Below w.heap.size w w' := by
  have key : ∀ v w', (∃ outs res N rs Hs Os, Out c x w args R Fs v w' outs res N rs Hs Os) → v = .bool true ∧ Below w.heap.size w w' := by
    rintro v w' ⟨outs, res, N, rs, Hs, Os, o⟩
    have hr := hpost outs res o.post
    have h1 := o.res
    rw [hr, hres] at h1
    refine ⟨?_, o.shape.os, o.shape.tape, o.shape.output, o.shape.size, fun b hb => o.frame b hb (hF b)⟩
    have h3 := o.ret
    cases rs with
    | nil => cases Hs <;> exact h1.elim
    | cons u rs =>
      cases Hs with
      | nil => exact h1.elim
      | cons F Hs =>
        obtain ⟨⟨cs, hc, hl, G, g1, _⟩, h4⟩ := h1
        cases rs with
        | cons _ _ => cases Hs <;> exact h4.elim
        | nil =>
          obtain ⟨rfl, _⟩ := hc
          have h2 := g1 0 (by simp)
          have h3 : v = u := h3
          rw [h3]
          simp only [List.getD_cons_zero] at h2
          unfold ResD at h2
          split at h2
          · exact h2.lf_eq
          · exact h2.1.lf_inv.1
  rcases h x w args R R Fs hA hD (fun y hy => absurd hy (hF y)) (fun _ h => h) hR with ⟨fn, h1, h2, h3, h4⟩ | ⟨v, w', h1, _⟩
  · exact h4.mono fun e w' ⟨v, e1, ho⟩ => by
      obtain ⟨rfl, hb⟩ := key v w' ho
      exact ⟨e1, hb⟩
  · rw [hcall] at h1; cases h1

/-- A value without addresses, as an argument. -/
theorem argLf {w : World} {R : Nat → Prop} {v : Value} (h : isSc v = true) : ∃ cs, CellsOf false v cs ∧ Part (ArgD .rd w R R) cs [.lf v] (fun _ => False) :=
  ⟨[v], ⟨rfl, isSc_one h⟩, rfl, fun _ _ => False, fun f hf => by
    obtain rfl : f = 0 := by simpa using hf
    exact ⟨.lf h, fun _ h => h⟩, fun _ _ _ _ _ _ h => h.elim, fun x => ⟨fun h => h.elim, fun ⟨_, _, h⟩ => h⟩⟩
end Go.Vm
