/- A verified evaluator for Go code: a function keeps its contract where the evaluator says so. -/
import Derived.Test.YtedffkngbjlgdaaGreatDoorVm6d
namespace Go.Vm
open Go.RowKit
set_option linter.unusedVariables false
set_option linter.unusedSimpArgs false

section
variable {P : Program} {T : Tab} {S : Cons} {w w' : World} {v : Value}

/-- A function keeps its contract at one ghost. -/
def FnOkAt (P : Program) (f : FuncId) (c : Con) (x : c.X) : Prop :=
  ∀ (w : World) (args : List Value) (R Kp : Nat → Prop) (Fs : List (Nat → Prop)), ArgsR w R Kp c.params (c.ins x) args Fs → DisF Fs → (∀ y, AnyF Fs y → ¬ R y ∧ Cl w y) → (∀ y, Kp y → R y) → (∀ y, R y → y < w.heap.size) →
    Does P f args w fun v w' => ∃ outs res N rs Hs Os, Out c x w args Kp Fs v w' outs res N rs Hs Os

theorem fnOk_of {f : FuncId} {c : Con} (h : ∀ x, FnOkAt P f c x) : FnOk P f c := fun x w args R Kp Fs => h x w args R Kp Fs

theorem ArgsR.len {R Kp : Nat → Prop} : ∀ {ps : List (Mode × Bool)} {dss : List (List D)} {vs : List Value} {Fs : List (Nat → Prop)}, ArgsR w R Kp ps dss vs Fs → vs.length = ps.length
  | [], [], [], [], _ => rfl
  | (m, g) :: ps, ds :: dss, v :: vs, F :: Fs, h => by simp [ArgsR.len h.2]

theorem ArgsR.lt {R Kp : Nat → Prop} : ∀ {ps : List (Mode × Bool)} {dss : List (List D)} {vs : List Value} {Fs : List (Nat → Prop)}, ArgsR w R Kp ps dss vs Fs → ∀ y, AnyF Fs y → y < w.heap.size
  | [], [], [], [], _, y, hy => absurd hy AnyF_nil
  | (m, g) :: ps, ds :: dss, v :: vs, F :: Fs, h, y, hy => by
    rcases AnyF_cons.1 hy with hy | hy
    · obtain ⟨⟨cs, hc, hl, G, g1, g2, g3⟩, _⟩ := h
      obtain ⟨f, hf, hG⟩ := (g3 y).1 hy
      have := g1 f hf
      cases m with
      | rd => exact absurd hG (this.2 y)
      | keep => exact absurd hG (this.2 y)
      | «mut» => exact Own.lt this y hG
      | take => exact Own.lt this y hG
    · exact h.2.lt y hy

theorem ResR.mono {own : Bool} {Kp Kp' : Nat → Prop} (hK : ∀ x, Kp x → Kp' x) : ∀ {gs : List Bool} {dss : List (List D)} {vs : List Value} {Fs : List (Nat → Prop)}, ResR own w Kp gs dss vs Fs → ResR own w Kp' gs dss vs Fs
  | [], [], [], [], _ => trivial
  | g :: gs, ds :: dss, v :: vs, F :: Fs, h => by
    obtain ⟨⟨cs, hc, hl, G, g1, g2, g3⟩, h2⟩ := h
    refine ⟨⟨cs, hc, hl, G, fun f hf => ?_, g2, g3⟩, h2.mono hK⟩
    have := g1 f hf
    cases own with
    | true => exact Own.mono this hK
    | false => exact ⟨this.1.mono hK, this.2⟩

def FitsN (n : Nat) : Code → Bool
  | .region _ ops _ => ops.toList.all fun o => match o.dst with | some d => Nat.blt d n | none => true
  | .seq a b => match FitsN n a with | true => FitsN n b | false => false
  | .cond _ a b => match FitsN n a with | true => FitsN n b | false => false
  | .block _ c => FitsN n c
  | .loop c => FitsN n c
  | _ => true

theorem FitsN.ok {C : Ctx} : ∀ {c : Code}, FitsN C.nt c = true → Fits C c
  | .region _ ops _, h => by
    intro o ho d hd
    simp only [FitsN, List.all_eq_true] at h
    have := h o ho
    rw [hd] at this
    rwa [Nat.blt_eq] at this
  | .seq a b, h => by
    simp only [FitsN] at h
    split at h
    · rename_i h1; exact ⟨FitsN.ok h1, FitsN.ok h⟩
    · cases h
  | .cond _ a b, h => by
    simp only [FitsN] at h
    split at h
    · rename_i h1; exact ⟨FitsN.ok h1, FitsN.ok h⟩
    · cases h
  | .block _ c, h => FitsN.ok (c := c) h
  | .loop c, h => FitsN.ok (c := c) h
  | .skip, _ => trivial
  | .ret, _ => trivial
  | .exit _, _ => trivial
  | .rangeFunc _ _ _ _, _ => trivial
  | .scope _, _ => trivial
  | .label _, _ => trivial
  | .goto _, _ => trivial
  | .refuse _, _ => trivial

/-- What is asked of a function ahead of its contract. -/
structure IsFn (P : Program) (f : FuncId) (fn : Func) (code : Code) (np : Nat) : Prop where
  row : P.funcs[f]? = some fn
  body : fn.body = some code
  name : (fn.name == "runtime.NumGoroutine") = false
  fits : FitsN fn.ntmps code = true
  np : Nat.ble np fn.ntmps = true
  nt : Nat.ble fn.ntmps 1000000 = true

theorem fn_at (hT : TOk P T) (hS : SOk P S) (hm : P.follows .mixedOrders = true) {f : FuncId} {fn : Func} {code : Code} {c : Con} {x : c.X}
    (hf : IsFn P f fn code c.params.length) (h : evFn T S c fn code x) : FnOkAt P f c x := by
  intro w args R Kp Fs hA hDis hFR hKR hR
  have hlen := hA.len
  refine .inl ⟨fn, hf.row, hf.name, by rw [hf.body]; rfl, calls_of_wp hf.row hf.body ?_⟩
  have hnp := Nat.le_of_ble_eq_true hf.np
  let C : Ctx := ⟨w, AnyF Fs, R, Kp, fn.ntmps, fun n => args.getD (n - 1000000) undef, Nat.le_of_ble_eq_true hf.nt⟩
  let a : Act := { tmps := args.toArray ++ Array.replicate (fn.ntmps - args.toArray.size) undef, defers := [] }
  let E : Env := ⟨fun _ => none, fun _ _ => False, R, Kp⟩
  show code.wp P (bodyPost P fn _) a w
  have hs0 : Hs C w E [] := ⟨fun t o ho => by simp [lookO] at ho, fun t u _ ht => by simp [lookO] at ht, fun t ht => by simp [lookO] at ht, hKR, hR, fun t ht => by simp [lookO] at ht,
    fun x h => h, fun x h => h, fun x h => .inl h, fun x h => .inl h⟩
  have hget : ∀ i, i < args.length → a.tmps.getD i undef = args.getD i undef := by
    intro i hi
    simp only [a, Array.getD_eq_getD_getElem?, List.getD_eq_getElem?_getD]
    rw [Array.getElem?_append_left (by simpa using hi)]
    simp
  obtain ⟨s', h', E', hk, hs', hsl⟩ := start_sound (C := C) (tv := C.tv a) c.params (c.ins x) args Fs 0 [] [] E _ hs0 rfl rfl (fun m _ u o ho => by simp [lookO] at ho)
    (fun k m hm => by simp [look, men] at hm) (fun k => .inl rfl) (fun i hi => by
      have h1 : i < 1000000 := by have := Nat.le_of_ble_eq_true hf.nt; omega
      refine ⟨?_, ?_⟩
      · simp only [Nat.zero_add, Ctx.tv]
        rw [if_neg (by omega)]
        exact hget i hi
      · simp only [Nat.zero_add, Ctx.tv]
        rw [if_pos (by omega)]
        show args.getD (1000000 + i - 1000000) undef = _
        rw [Nat.add_sub_cancel_left]) hA hDis (fun F hF y hy => ⟨hA.lt y ⟨F, hF, hy⟩, ⟨.inr ⟨F, hF, hy⟩, (hFR y ⟨F, hF, hy⟩).2⟩, (hFR y ⟨F, hF, hy⟩).1, fun t ht => by simp [lookO] at ht⟩) h
  have hrel : Rel C E' s' h' a w := ⟨hs'.ob, hs'.dis, hs'.disR, hs'.KR, hs'.Rlt, hs'.Fin, hs'.R0, hs'.K0, hs'.Rin, hs'.Kin, hsl, by
    show a.tmps.size = fn.ntmps
    simp only [a, Array.size_append, List.size_toArray, Array.size_replicate]; omega, Shape.refl w, fun b _ _ => rfl, rfl⟩
  refine wp_mono (ev_sound hT hS hm code s' h' E' a w _ (FitsN.ok hf.fits) hrel hk) fun e a' w' hq => ?_
  have fin : ∀ {s h E}, Rel C E s h a' w' → (resVals T s h fn.results.toList c.res fun vs => mvRes c.resOwn vs h fun res h'' => endOuts s c.params 0 h'' fun outs => Done (c.post x outs res)) →
      a'.defers = [] ∧ ∃ v, (results fn a'.tmps).run P w' = .ok v w' ∧ ∃ u, Ending.returned v = .returned u ∧ ∃ outs res N rs Hs Os, Out c x w args Kp Fs u w' outs res N rs Hs Os := by
    intro s h E r hk
    obtain ⟨Vss, vs, hk, hrun, hl1, hl2, hcs⟩ := resVals_sound hT r _ _ _ hk
    obtain ⟨v, hrv, hret⟩ := run_results hrun
    obtain ⟨res, h1, E1, Hs1, hk, mv1, hD1, hR1⟩ := mvRes_sound c.resOwn Vss E h c.res vs _ r.hs ⟨hl1, hl2, hcs⟩ hk
    obtain ⟨outs, h2, E2, Os, hk, mv2, hD2, hO⟩ := endOuts_sound (tv := C.tv a') s c.params 0 E1 h1 args _ mv1.hs hlen (fun i hi => by
      simp only [Nat.zero_add, Ctx.tv]
      rw [if_pos (by omega)]
      show args.getD (1000000 + i - 1000000) undef = _
      rw [Nat.add_sub_cancel_left]) (fun k => (r.sl k).imp id fun q => VR.mono (Shape.refl w') _ _ (fun u _ => mv1.tr.sub u) q) hk
    obtain ⟨mv, hdj⟩ := mv1.trans mv2
    refine ⟨r.defers, v, hrv, v, rfl, outs, res, fun y => E2.Kp y ∧ C.ok y, vs, Hs1, Os, ⟨hk.out, r.shape, fun b hb hn => r.frame b hb hn, fun y hy => ⟨mv.hs.Rlt y (mv.hs.KR y hy.1), hy.2⟩, ?_, hret, hO.mono (fun y hy => ?_), DisF_append.2 ⟨hD1, hD2, fun y hy => hdj y hy⟩, ?_, fun y hy => by
      obtain ⟨t, ht, hF⟩ := mv.src y (AnyF_append.1 hy)
      exact (r.Fin t ht y hF).2.2⟩⟩
    · refine (hR1.mono mv2.tr.K).mono fun y hy => ?_
      rcases mv.hs.Kin y hy with h1 | h1
      · exact .inl h1
      · exact .inr ⟨hy, h1⟩
    · rcases mv.hs.Kin y hy with h1 | h1
      · exact .inl h1
      · exact .inr ⟨hy, h1⟩
    · intro y hy
      have hy' := AnyF_append.1 hy
      obtain ⟨t, ht, hF⟩ := mv.src y hy'
      obtain ⟨h1, h2, _⟩ := r.Fin t ht y hF
      exact ⟨h1, fun hN => mv.disR y hy' (mv.hs.KR y hN.1), h2⟩
  cases e with
  | normal =>
    obtain ⟨E2, s2, h2, r2, hk2⟩ := hq
    exact fin r2 hk2
  | ret =>
    obtain ⟨E2, s2, h2, r2, hk2⟩ := hq
    exact fin r2 hk2
  | exit n =>
    obtain ⟨E2, s2, h2, r2, hk2⟩ := hq
    exact hk2.elim
  | goto l => exact hq.elim
  | panic ch => exact hq.elim
  | outgrown => exact hq.elim

/-- Only ghosts of a lesser measure. -/
def Con.below (c : Con) (m : c.X → Nat) (n : Nat) : Con :=
  { X := { x : c.X // m x < n }, params := c.params, res := c.res, resOwn := c.resOwn, ins := fun x => c.ins x.1, post := fun x => c.post x.1 }

theorem fn_rec {f : FuncId} {c : Con} (m : c.X → Nat) (h : ∀ n, FnOk P f (c.below m n) → ∀ x, m x = n → FnOkAt P f c x) : FnOk P f c := by
  have key : ∀ n, FnOk P f (c.below m n) := by
    intro n
    induction n with
    | zero => exact fun x => absurd x.2 (Nat.not_lt_zero _)
    | succ n ih =>
      rintro ⟨x, hx⟩ w args R Kp Fs h1 h2 h3 h4 h5
      have step : FnOkAt P f c x := by
        rcases Nat.lt_or_ge (m x) n with h6 | h6
        · intro w args R Kp Fs h1 h2 h3 h4 h5
          rcases ih ⟨x, h6⟩ w args R Kp Fs h1 h2 h3 h4 h5 with ⟨fn, a1, a2, a3, a4⟩ | ⟨v, w', a1, outs, res, N, rs, Hs, Os, o⟩
          · exact .inl ⟨fn, a1, a2, a3, a4.mono fun e w' ⟨v, e1, outs, res, N, rs, Hs, Os, o⟩ => ⟨v, e1, outs, res, N, rs, Hs, Os, ⟨o.1, o.2, o.3, o.4, o.5, o.6, o.7, o.8, o.9, o.10⟩⟩⟩
          · exact .inr ⟨v, w', a1, outs, res, N, rs, Hs, Os, ⟨o.1, o.2, o.3, o.4, o.5, o.6, o.7, o.8, o.9, o.10⟩⟩
        · exact h n ih x (Nat.le_antisymm (Nat.le_of_lt_succ hx) h6)
      rcases step w args R Kp Fs h1 h2 h3 h4 h5 with ⟨fn, a1, a2, a3, a4⟩ | ⟨v, w', a1, outs, res, N, rs, Hs, Os, o⟩
      · exact .inl ⟨fn, a1, a2, a3, a4.mono fun e w' ⟨v, e1, outs, res, N, rs, Hs, Os, o⟩ => ⟨v, e1, outs, res, N, rs, Hs, Os, ⟨o.1, o.2, o.3, o.4, o.5, o.6, o.7, o.8, o.9, o.10⟩⟩⟩
      · exact .inr ⟨v, w', a1, outs, res, N, rs, Hs, Os, ⟨o.1, o.2, o.3, o.4, o.5, o.6, o.7, o.8, o.9, o.10⟩⟩
  exact fnOk_of fun x => h (m x) (key _) x rfl
end
end Go.Vm
