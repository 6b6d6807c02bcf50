/- A verified evaluator for Go code: what a contract says of the machine; arguments. -/
import Derived.Test.YtedffkngbjlgdaaGreatDoorVm4f
namespace Go.Vm
open Go.RowKit
set_option linter.unusedVariables false
set_option linter.unusedSimpArgs false

/-- The cells of an argument or a result. -/
def CellsOf (g : Bool) (v : Value) (cs : List Value) : Prop :=
  match g with
  | true => v = .agg cs.toArray ∧ ∀ c ∈ cs, c.oneCell' = true
  | false => cs = [v] ∧ v.oneCell' = true

/-- Cells that hold deep data, each by its own blocks. -/
def Part (D1 : (Nat → Prop) → Value → D → Prop) (cs : List Value) (ds : List D) (F : Nat → Prop) : Prop :=
  cs.length = ds.length ∧ ∃ G : Nat → Nat → Prop, (∀ f, f < ds.length → D1 (G f) (cs.getD f undef) (ds.getD f .dead)) ∧ (∀ f g, f < ds.length → g < ds.length → f ≠ g → ∀ x, G f x → ¬ G g x) ∧
    ∀ x, F x ↔ ∃ f, f < ds.length ∧ G f x

def ArgD (m : Mode) (w : World) (R Kp : Nat → Prop) (F : Nat → Prop) (v : Value) (d : D) : Prop :=
  match m with
  | .rd => Ro w R v d ∧ ∀ x, ¬ F x
  | .keep => Ro w Kp v d ∧ ∀ x, ¬ F x
  | .mut => Own w Kp F v d
  | .take => Own w Kp F v d

def ArgsR (w : World) (R Kp : Nat → Prop) : List (Mode × Bool) → List (List D) → List Value → List (Nat → Prop) → Prop
  | [], [], [], [] => True
  | (m, g) :: ps, ds :: dss, v :: vs, F :: Fs => (∃ cs, CellsOf g v cs ∧ Part (ArgD m w R Kp) cs ds F) ∧ ArgsR w R Kp ps dss vs Fs
  | _, _, _, _ => False

def AnyF (Fs : List (Nat → Prop)) (x : Nat) : Prop := ∃ F ∈ Fs, F x
def DisF (Fs : List (Nat → Prop)) : Prop := Fs.Pairwise fun F G => ∀ x, F x → ¬ G x

def resK' (own : Bool) : Kind := match own with | true => .own | false => .ro
def ResD (own : Bool) (w : World) (Kp : Nat → Prop) (F : Nat → Prop) (v : Value) (d : D) : Prop :=
  match own with
  | true => Own w Kp F v d
  | false => Ro w Kp v d ∧ ∀ x, ¬ F x

def ResR (own : Bool) (w : World) (Kp : Nat → Prop) : List Bool → List (List D) → List Value → List (Nat → Prop) → Prop
  | [], [], [], [] => True
  | g :: gs, ds :: dss, v :: vs, F :: Fs => (∃ cs, CellsOf g v cs ∧ Part (ResD own w Kp) cs ds F) ∧ ResR own w Kp gs dss vs Fs
  | _, _, _, _ => False

def retR : List Value → Value → Prop
  | [u], v => v = u
  | us, v => v = .tuple us.toArray

/-- Those of a list that belong to parameters that are given to change: of a struct its cells. -/
def mutsW : List (Mode × Bool) → List Value → List Value
  | (.mut, false) :: ps, v :: vs => v :: mutsW ps vs
  | (.mut, true) :: ps, v :: vs => v.cells.toList ++ mutsW ps vs
  | (_, _) :: ps, _ :: vs => mutsW ps vs
  | _, _ => []
def aggCs : V → List V
  | .agg cs => cs
  | _ => []
def mutsV : List (Mode × Bool) → List (Option Nat × V) → List (Option Nat × V)
  | (.mut, false) :: ps, v :: vs => v :: mutsV ps vs
  | (.mut, true) :: ps, v :: vs => capVals (aggCs v.2) ++ mutsV ps vs
  | (_, _) :: ps, _ :: vs => mutsV ps vs
  | _, _ => []

def OutsR (w : World) (Kp : Nat → Prop) : List Value → List (List D) → List (Nat → Prop) → Prop
  | [], [], [] => True
  | v :: vs, [d] :: os, F :: Fs => Own w Kp F v d ∧ OutsR w Kp vs os Fs
  | _, _, _ => False

/-- What a function's return leaves behind. -/
structure Out (c : Con) (x : c.X) (w : World) (args : List Value) (Kp : Nat → Prop) (Fs : List (Nat → Prop)) (v : Value) (w' : World) (outs res : List (List D)) (N : Nat → Prop) (rs : List Value) (Hs Os : List (Nat → Prop)) : Prop where
  post : c.post x outs res
  shape : Shape w w'
  frame : ∀ b, b < w.heap.size → ¬ AnyF Fs b → w'.heap[b]? = w.heap[b]?
  new : ∀ x, N x → x < w'.heap.size ∧ (w.heap.size ≤ x ∨ AnyF Fs x)
  res : ResR c.resOwn w' (fun x => Kp x ∨ N x) c.res res rs Hs
  ret : retR rs v
  outs : OutsR w' (fun x => Kp x ∨ N x) (mutsW c.params args) outs Os
  dis : DisF (Hs ++ Os)
  src : ∀ x, AnyF (Hs ++ Os) x → x < w'.heap.size ∧ ¬ N x ∧ (w.heap.size ≤ x ∨ AnyF Fs x)
  cl : ∀ x, AnyF (Hs ++ Os) x → Cl w' x

/-- A function comes to an end. -/
def Does (P : Program) (f : FuncId) (args : List Value) (w : World) (R : Value → World → Prop) : Prop :=
  (∃ fn, P.funcs[f]? = some fn ∧ (fn.name == "runtime.NumGoroutine") = false ∧ fn.body.isNone = false ∧ Calls P f args.toArray w fun e w' => ∃ v, e = .returned v ∧ R v w') ∨
  ∃ v w', (callFunc f args.toArray).run P w = .ok (.value v) w' ∧ R v w'

/-- A function keeps its contract. -/
def FnOk (P : Program) (f : FuncId) (c : Con) : Prop :=
  ∀ (x : c.X) (w : World) (args : List Value) (R Kp : Nat → Prop) (Fs : List (Nat → Prop)), ArgsR w R Kp c.params (c.ins x) args Fs → DisF Fs → (∀ y, AnyF Fs y → ¬ R y ∧ Cl w y) → (∀ y, Kp y → R y) → (∀ y, R y → y < w.heap.size) →
    Does P f args w fun v w' => ∃ outs res N rs Hs Os, Out c x w args Kp Fs v w' outs res N rs Hs Os

def SOk (P : Program) (S : Cons) : Prop := ∀ p ∈ S, FnOk P p.1 p.2

theorem con_ok {P : Program} {S : Cons} (hS : SOk P S) {f : Nat} {K : Con → Prop} (h : con S f K) : ∃ c, FnOk P f c ∧ K c := by
  induction S with
  | nil => exact h.elim
  | cons p S ih =>
    obtain ⟨k, c⟩ := p
    simp only [con] at h
    split at h
    · rename_i e
      obtain rfl := nbeq_eq e
      exact ⟨c, hS (k, c) (List.mem_cons_self ..), h⟩
    · exact ih (fun p hp => hS p (List.mem_cons_of_mem _ hp)) h

theorem AnyF_cons {F : Nat → Prop} {Fs : List (Nat → Prop)} {x : Nat} : AnyF (F :: Fs) x ↔ F x ∨ AnyF Fs x := by simp [AnyF]
theorem AnyF_nil {x : Nat} : ¬ AnyF [] x := by simp [AnyF]
theorem AnyF_append {Fs Gs : List (Nat → Prop)} {x : Nat} : AnyF (Fs ++ Gs) x ↔ AnyF Fs x ∨ AnyF Gs x := by
  simp [AnyF, or_and_right, exists_or]
theorem DisF_cons {F : Nat → Prop} {Fs : List (Nat → Prop)} : DisF (F :: Fs) ↔ (∀ x, F x → ¬ AnyF Fs x) ∧ DisF Fs := by
  simp only [DisF, List.pairwise_cons, AnyF]
  exact and_congr_left fun _ => ⟨fun h x hx ⟨G, hG, hx'⟩ => h G hG x hx hx', fun h G hG x hx hx' => h x hx ⟨G, hG, hx'⟩⟩
theorem DisF_append {Fs Gs : List (Nat → Prop)} : DisF (Fs ++ Gs) ↔ DisF Fs ∧ DisF Gs ∧ ∀ x, AnyF Fs x → ¬ AnyF Gs x := by
  induction Fs with
  | nil => exact ⟨fun h => ⟨List.Pairwise.nil, h, fun x hx => absurd hx AnyF_nil⟩, fun h => h.2.1⟩
  | cons F Fs ih =>
    rw [List.cons_append, DisF_cons, DisF_cons, ih]
    constructor
    · rintro ⟨h1, h2, h3, h4⟩
      refine ⟨⟨fun x hx hh => h1 x hx (AnyF_append.2 (.inl hh)), h2⟩, h3, fun x hx hh => ?_⟩
      rcases AnyF_cons.1 hx with hx | hx
      · exact h1 x hx (AnyF_append.2 (.inr hh))
      · exact h4 x hx hh
    · rintro ⟨⟨h1, h2⟩, h3, h4⟩
      refine ⟨fun x hx hh => ?_, h2, h3, fun x hx => h4 x (AnyF_cons.2 (.inr hx))⟩
      rcases AnyF_append.1 hh with hh | hh
      · exact h1 x hx hh
      · exact h4 x (AnyF_cons.2 (.inl hx)) hh

/-- The values of some arguments. -/
def VRl (w : World) (E : Env) (g : Nat → Option Ob) : List (Option Nat × V) → List Value → Prop
  | [], [] => True
  | (_, c) :: cs, x :: vs => (c ≠ .dead → VR w E g c x) ∧ VRl w E g cs vs
  | _, _ => False
theorem VRl.mono {w w' : World} {E E' : Env} {g g' : Nat → Option Ob} (hs : Shape w w') (hsub : ∀ t, Sub E g E' g' t) : ∀ {cs : List (Option Nat × V)} {vs : List Value}, VRl w E g cs vs → VRl w' E' g' cs vs
  | [], [], _ => trivial
  | (_, c) :: cs, x :: vs, h => ⟨fun hc => VR.mono hs c x (fun t _ => hsub t) (h.1 hc), VRl.mono hs hsub h.2⟩
  | [], _ :: _, h => h.elim
  | (_, _) :: _, [], h => h.elim

def MutR (E : Env) (h : Hp) : Option Nat × V → MT → Prop
  | (_, v), .row t sz => v = .sl t none ∧ ∃ o, lookO h t = some o ∧ o.sz = sz ∧ o.own = true
  | _, .leaf => True
  | (_, v), .box t sz x => v = .pt t 0 0 ∧ ∃ o, lookO h t = some o ∧ o.sz = sz ∧ o.len = 1 ∧ o.own = true
def TsR (E : Env) (h : Hp) : List (Option Nat × V) → List MT → Prop
  | [], [] => True
  | v :: vs, t :: ts => MutR E h v t ∧ TsR E h vs ts
  | _, _ => False
theorem TsR.back {E E' : Env} {h h' : Hp} (hs : ∀ t, Sub E (lookO h) E' (lookO h') t) : ∀ {vs : List (Option Nat × V)} {ts : List MT}, TsR E' h' vs ts → TsR E h vs ts
  | [], [], _ => trivial
  | (x, v) :: vs, t :: ts, hh => by
    refine ⟨?_, hh.2.back hs⟩
    have h1 := hh.1
    cases t with
    | leaf => trivial
    | row t sz =>
      obtain ⟨e, o, h2, h3, h4⟩ := h1
      obtain ⟨o', g1, g2, g3, g4, g5⟩ := hs t o h2
      exact ⟨e, o', g1, g2.trans h3, g4 h4⟩
    | box t sz x =>
      obtain ⟨e, o, h2, h3, h5, h4⟩ := h1
      obtain ⟨o', g1, g2, g3, g4, g5⟩ := hs t o h2
      exact ⟨e, o', g1, g2.trans h3, g3.trans h5, g4 h4⟩
  | [], _ :: _, h => h.elim
  | (_, _) :: _, [], h => h.elim

theorem one_VR {w : World} {E : Env} {g : Nat → Option Ob} {V : V} {v : Value} (hv : VR w E g V v) (h1 : ∀ cs, V ≠ .tup cs) (h2 : ∀ cs, V ≠ .agg cs) : v.oneCell' = true := by
  cases V with
  | lf u => obtain ⟨rfl, hu⟩ := hv; exact isSc_one hu
  | dead => exact hv
  | sl t cut => exact hv.1
  | pt t i f => obtain ⟨⟨ad, rfl⟩, _⟩ := hv; rfl
  | agg cs => exact absurd rfl (h2 cs)
  | tup cs => exact absurd rfl (h1 cs)
  | fn f cs => obtain ⟨vs, rfl, _⟩ := hv; rfl

section
variable {P : Program} {T : Tab} {S : Cons} {C : Ctx} {E E1 : Env} {s : Sl} {h h1 : Hp} {w w' : World} {v : Value} {V : Vm.V} {tmp : Option Nat} {b : Bool}

theorem rdDs_tup {g : Nat → Option Ob} {cs : List Vm.V} {K : List D → Prop} (hk : rdDs fuel g [.tup cs] K) : False := by
  simp [fuel, rdDs, rdD] at hk
theorem mvDs_tup {own : Bool} {cs : List Vm.V} {K : List D → Hp → Prop} (hk : mvDs fuel own h [.tup cs] K) : False := by
  simp [fuel, mvDs, mvD] at hk

theorem argK_dead {m : Mode} {K : List D → Hp → List MT → Prop} (hk : argK m b tmp .dead h K) : False := by
  cases b <;> cases m <;> simp [argK, fuel, rdDs, rdD, mvDs, mvD] at hk

theorem argK_rd {K : List D → Hp → List MT → Prop} {Kp : Nat → Prop} (r : Hs C w E h) (hv : VR w E (lookO h) V v) (hk : argK .rd b tmp V h K) :
    ∃ ds, K ds h [] ∧ ∃ cs, CellsOf b v cs ∧ Part (ArgD .rd w (Rd E (lookO h)) Kp) cs ds fun _ => False := by
  have main : ∀ (Vs : List Vm.V) (vs : List Value), CellsOf b v vs → VRs w E (lookO h) Vs vs → (∀ x ∈ vs, x.oneCell' = true) → (rdDs fuel (lookO h) Vs fun ds => K ds h []) →
      ∃ ds, K ds h [] ∧ ∃ cs, CellsOf b v cs ∧ Part (ArgD .rd w (Rd E (lookO h)) Kp) cs ds fun _ => False := by
    intro Vs vs hc h1 h2 hk
    obtain ⟨ds, hk, hl, hr⟩ := rdDs_sound r.obs fuel Vs vs _ h1 h2 hk
    exact ⟨ds, hk, vs, hc, by rw [hl, h1.length], fun _ _ => False, fun f hf => ⟨hr f (by omega), fun _ h => h⟩, fun _ _ _ _ _ _ h => h.elim, fun x => ⟨fun h => h.elim, fun ⟨_, _, h⟩ => h⟩⟩
  cases b with
  | true =>
    cases V with
    | agg cs => obtain ⟨vs, rfl, h1, h2⟩ := hv; exact main cs vs ⟨rfl, h2⟩ h1 h2 hk
    | _ => exact hk.elim
  | false =>
    have key : ∀ (h1 : ∀ cs, V ≠ .agg cs), (rdDs fuel (lookO h) [V] fun ds => K ds h []) → ∃ ds, K ds h [] ∧ ∃ cs, CellsOf false v cs ∧ Part (ArgD .rd w (Rd E (lookO h)) Kp) cs ds fun _ => False := by
      intro h1 hk
      have h2 := one_VR hv (by rintro cs rfl; exact rdDs_tup hk) h1
      exact main [V] [v] ⟨rfl, h2⟩ ⟨v, [], rfl, hv, rfl⟩ (by simpa using h2) hk
    cases V with
    | agg cs => exact hk.elim
    | _ => exact key (by intro cs h; cases h) hk

def mvMode (own : Bool) : Mode := match own with | true => .take | false => .keep

theorem argK_mv {K : List D → Hp → List MT → Prop} (own : Bool) (r : Hs C w E h) (hv : VR w E (lookO h) V v) (hk : argK (mvMode own) b tmp V h K) :
    ∃ ds h' E' F, K ds h' [] ∧ Mv C w E h E' h' F ∧ ∃ cs, CellsOf b v cs ∧ Part (MvD own w E') cs ds F := by
  have main : ∀ (Vs : List Vm.V) (vs : List Value), CellsOf b v vs → VRs w E (lookO h) Vs vs → (∀ x ∈ vs, x.oneCell' = true) → (mvDs fuel own h Vs fun ds h' => K ds h' []) →
      ∃ ds h' E' F, K ds h' [] ∧ Mv C w E h E' h' F ∧ ∃ cs, CellsOf b v cs ∧ Part (MvD own w E') cs ds F := by
    intro Vs vs hc h1 h2 hk
    obtain ⟨ds, h', E', G, hk, mv, hl, hd, hdis⟩ := mvDs_sound fuel own E h Vs vs _ r h1 h2 hk
    exact ⟨ds, h', E', _, hk, mv, vs, hc, by rw [hl, h1.length], G, fun f hf => hd f (by omega), fun f g hf hg => hdis f g (by omega) (by omega), fun x => by rw [hl]⟩
  cases b with
  | true =>
    cases V with
    | agg cs =>
      obtain ⟨vs, rfl, h1, h2⟩ := hv
      exact main cs vs ⟨rfl, h2⟩ h1 h2 (by cases own <;> exact hk)
    | _ => cases own <;> exact hk.elim
  | false =>
    have key : ∀ (h1 : ∀ cs, V ≠ .agg cs), (mvDs fuel own h [V] fun ds h' => K ds h' []) → ∃ ds h' E' F, K ds h' [] ∧ Mv C w E h E' h' F ∧ ∃ cs, CellsOf false v cs ∧ Part (MvD own w E') cs ds F := by
      intro h1 hk
      have h2 := one_VR hv (by rintro cs rfl; exact mvDs_tup hk) h1
      exact main [V] [v] ⟨rfl, h2⟩ ⟨v, [], rfl, hv, rfl⟩ (by simpa using h2) hk
    cases V with
    | agg cs => cases own <;> exact hk.elim
    | _ => exact key (by intro cs h; cases h) (by cases own <;> exact hk)

theorem argK_mut {K : List D → Hp → List MT → Prop} (r : Hs C w E h) (hv : VR w E (lookO h) V v) (hk : argK .mut false tmp V h K) :
    ∃ d h' E' F t, K [d] h' [t] ∧ Mv C w E h E' h' F ∧ Own w E'.Kp F v d ∧ MutR E h (tmp, V) t := by
    have hz : True := trivial
    cases V with
    | sl t cut =>
      cases cut with
      | none =>
        simp only [argK] at hk
        split at hk
        · rename_i sz α enc l e
          have hm : mvD 1 true h (.sl t none) fun d h' => K [d] h' [.row t sz] := by simp only [mvD, e]; exact hk
          obtain ⟨d, h', E', F, hk, mv, ho⟩ := mvD_sound 1 true E h _ v _ r hv hm
          exact ⟨d, h', E', F, _, hk, mv, ho, rfl, _, e, rfl, rfl⟩
        · exact hk.elim
      | some p => exact hk.elim
    | pt t i f =>
      have hk' : i = 0 ∧ f = 0 := by
        cases i <;> cases f <;> first | exact ⟨rfl, rfl⟩ | exact hk.elim
      obtain ⟨rfl, rfl⟩ := hk'
      simp only [argK] at hk
      split at hk
      · rename_i x sz cs e
        have hm : mvD (fuel + 1) true h (.pt t 0 0) fun d h' => K [d] h' [.box t sz x] := by simp only [mvD, e]; exact hk
        obtain ⟨d, h', E', F, hk, mv, ho⟩ := mvD_sound (fuel + 1) true E h _ v _ r hv hm
        exact ⟨d, h', E', F, _, hk, mv, ho, rfl, _, e, rfl, rfl, rfl⟩
      · exact hk.elim
    | lf u => exact hk.elim
    | dead => exact hk.elim
    | agg cs => exact hk.elim
    | tup cs => exact hk.elim
    | fn f cs => exact hk.elim

theorem appV_eq0 {β : Type _} (l m : List β) : appV l m = l ++ m := by
  induction l with
  | nil => rfl
  | cons x l ih => simp [appV, ih]
theorem TsR.app {E : Env} {h : Hp} : ∀ {vs us : List (Option Nat × Vm.V)} {ts rs : List MT}, TsR E h vs ts → TsR E h us rs → TsR E h (vs ++ us) (ts ++ rs)
  | [], us, [], rs, _, h2 => h2
  | v :: vs, us, t :: ts, rs, h1, h2 => ⟨h1.1, TsR.app h1.2 h2⟩
  | [], us, _ :: _, rs, h1, _ => h1.elim
  | _ :: _, us, [], rs, h1, _ => h1.elim

theorem mutCs_sound : ∀ (cs : List Vm.V) (vs : List Value) (E : Env) (h : Hp) (K : List D → Hp → List MT → Prop), Hs C w E h → VRs w E (lookO h) cs vs → (∀ x ∈ vs, x.oneCell' = true) → mutCs cs h K →
    ∃ (ds : List D) (h' : Hp) (E' : Env) (G : Nat → Nat → Prop) (ts : List MT), K ds h' ts ∧ Mv C w E h E' h' (fun x => ∃ i, i < cs.length ∧ G i x) ∧ ds.length = cs.length ∧ (∀ i, i < cs.length → Own w E'.Kp (G i) (vs.getD i undef) (ds.getD i .dead)) ∧
      (∀ i j, i < cs.length → j < cs.length → i ≠ j → ∀ x, G i x → ¬ G j x) ∧ TsR E h (capVals cs) ts
  | [], vs, E, h, K, r, hv, h1, hk => by
    refine ⟨[], h, E, fun _ _ => False, [], by simpa [mutCs] using hk, Mv.none r (Tr.refl E h) (fun x hx => ?_), rfl, fun i hi => by simp at hi, fun i j hi => by simp at hi, trivial⟩
    obtain ⟨i, hi, hx⟩ := hx; exact hx
  | c :: cs, vs, E, h, K, r, hv, h1, hk => by
    obtain ⟨x, xs, rfl, h2, h3⟩ := hv
    have step : ∀ (d : D) (h' : Hp) (E' : Env) (F : Nat → Prop) (t : MT), (mutCs cs h' fun ds h'' ts => K (d :: ds) h'' (t :: ts)) → Mv C w E h E' h' F → Own w E'.Kp F x d → MutR E h (none, c) t →
        ∃ (ds : List D) (h' : Hp) (E' : Env) (G : Nat → Nat → Prop) (ts : List MT), K ds h' ts ∧ Mv C w E h E' h' (fun x => ∃ i, i < (c :: cs).length ∧ G i x) ∧ ds.length = (c :: cs).length ∧ (∀ i, i < (c :: cs).length → Own w E'.Kp (G i) ((x :: xs).getD i undef) (ds.getD i .dead)) ∧
        (∀ i j, i < (c :: cs).length → j < (c :: cs).length → i ≠ j → ∀ x, G i x → ¬ G j x) ∧ TsR E h (capVals (c :: cs)) ts := by
      intro d h' E' F t hk mv hd hM
      obtain ⟨ds, h'', E'', G, ts, hk, mv2, hl, hds, hdis, hT⟩ := mutCs_sound cs xs E' h' _ mv.hs (VRs.mono (Shape.refl w) _ _ (fun u _ => mv.tr.sub u) h3) (fun y hy => h1 y (by simp [hy])) hk
      obtain ⟨mv3, hF⟩ := mv.trans mv2
      refine ⟨d :: ds, h'', E'', fun i => match i with | 0 => F | i + 1 => G i, _, hk, ⟨mv3.hs, mv3.tr, fun x hx => mv3.src x ?_, fun t ht x hx hh => mv3.disF t ht x hx ?_, fun x hx => mv3.disR x ?_⟩, by simp [hl], fun i hi => ?_, fun i j hi hj hne x hx hx' => ?_, hM, hT.back mv.tr.sub⟩
      · obtain ⟨i, hi, hx⟩ := hx
        cases i with
        | zero => exact .inl hx
        | succ i => exact .inr ⟨i, by simpa using hi, hx⟩
      · obtain ⟨i, hi, hx⟩ := hh
        cases i with
        | zero => exact .inl hx
        | succ i => exact .inr ⟨i, by simpa using hi, hx⟩
      · obtain ⟨i, hi, hx⟩ := hx
        cases i with
        | zero => exact .inl hx
        | succ i => exact .inr ⟨i, by simpa using hi, hx⟩
      · cases i with
        | zero => exact hd.mono mv2.tr.K
        | succ i => simpa using hds i (by simpa using hi)
      · cases i with
        | zero => cases j with
          | zero => exact hne rfl
          | succ j => exact hF x hx ⟨j, by simpa using hj, hx'⟩
        | succ i => cases j with
          | zero => exact hF x hx' ⟨i, by simpa using hi, hx⟩
          | succ j => exact hdis i j (by simpa using hi) (by simpa using hj) (fun e => hne (by rw [e])) x hx hx'
    unfold mutCs at hk
    split at hk
    · obtain ⟨sz, α, enc, hz, hk⟩ := hk
      obtain ⟨rfl, _⟩ := h2
      exact step _ _ _ _ _ hk (Mv.refl r) (.nil hz fun _ h => h) trivial
    · obtain ⟨rfl, hu⟩ := h2
      exact step _ _ _ _ _ hk (Mv.refl r) (.lf hu fun _ h => h) trivial
    · rename_i t
      split at hk
      · rename_i sz α enc l e
        have hm : mvD 1 true h (.sl t none) fun d h' => d = .row sz enc l ∧ h' = (t, none) :: h := by simp only [mvD, e]; exact ⟨rfl, trivial⟩
        obtain ⟨d, h', E', F, ⟨rfl, rfl⟩, mv, ho⟩ := mvD_sound 1 true E h _ x _ r h2 hm
        exact step _ _ _ _ _ hk mv ho ⟨rfl, _, e, rfl, rfl⟩
      · exact hk.elim
    · exact hk.elim

/-- What is a struct that is given to change is one. -/
def AggR : List (Mode × Bool) → List (Option Nat × Vm.V) → Prop
  | p :: ps, v :: vs => (p = (.mut, true) → ∃ cs, v.2 = .agg cs) ∧ AggR ps vs
  | _, _ => True

theorem ArgsR.mono {R R' Kp Kp' : Nat → Prop} (hR : ∀ x, R x → R' x) (hK : ∀ x, Kp x → Kp' x) : ∀ {ps : List (Mode × Bool)} {dss : List (List D)} {vs : List Value} {Fs : List (Nat → Prop)}, ArgsR w R Kp ps dss vs Fs → ArgsR w R' Kp' ps dss vs Fs
  | [], [], [], [], _ => trivial
  | (m, g) :: ps, ds :: dss, v :: vs, F :: Fs, h => by
    obtain ⟨⟨cs, h1, h2, G, h3, h4⟩, h5⟩ := h
    refine ⟨⟨cs, h1, h2, G, fun f hf => ?_, h4⟩, h5.mono hR hK⟩
    have := h3 f hf
    cases m with
    | rd => exact ⟨this.1.mono hR, this.2⟩
    | keep => exact ⟨this.1.mono hK, this.2⟩
    | «mut» => exact this.mono hK
    | take => exact this.mono hK

/-- The arguments, as the callee takes them. -/
theorem argsK_sound : ∀ (ps : List (Mode × Bool)) (args : List (Option Nat × Vm.V)) (vs : List Value) (E : Env) (h : Hp) (K : List (List D) → Hp → List MT → Prop), Hs C w E h → VRl w E (lookO h) args vs → argsK ps args h K →
    ∃ dss h' E' Fs ts, K dss h' ts ∧ Mv C w E h E' h' (AnyF Fs) ∧ DisF Fs ∧ ArgsR w (Rd E' (lookO h')) E'.Kp ps dss vs Fs ∧ TsR E h (mutsV ps args) ts ∧ AggR ps args
  | [], [], [], E, h, K, r, hv, hk => ⟨[], h, E, [], [], hk, Mv.none r (Tr.refl E h) (fun x hx => AnyF_nil hx), List.Pairwise.nil, trivial, trivial, trivial⟩
  | (m, g) :: ps, (x, V) :: args, v :: vs, E, h, K, r, hv, hk => by
    have step : ∀ (own : Bool), m = mvMode own → (argK m g x V h fun d h' _ => argsK ps args h' fun ds h'' ts => K (d :: ds) h'' ts) →
        ∃ dss h' E' Fs ts, K dss h' ts ∧ Mv C w E h E' h' (AnyF Fs) ∧ DisF Fs ∧ ArgsR w (Rd E' (lookO h')) E'.Kp ((m, g) :: ps) dss (v :: vs) Fs ∧ TsR E h (mutsV ((m, g) :: ps) ((x, V) :: args)) ts ∧ AggR ((m, g) :: ps) ((x, V) :: args) := by
      intro own hm hk
      subst hm
      obtain ⟨ds, h1, E1, F, hk, mv1, cs, hc, hp⟩ := argK_mv own r (hv.1 (by rintro rfl; exact argK_dead hk)) hk
      obtain ⟨dss, h', E', Fs, ts, hk, mv2, hd, hA, hT, hAg⟩ := argsK_sound ps args vs E1 h1 _ mv1.hs (hv.2.mono (Shape.refl w) mv1.tr.sub) hk
      obtain ⟨mv, hdis⟩ := mv1.trans mv2
      have e : (AnyF (F :: Fs)) = fun x => F x ∨ AnyF Fs x := funext fun x => propext AnyF_cons
      refine ⟨_, h', E', F :: Fs, ts, hk, by rw [e]; exact mv, DisF_cons.2 ⟨hdis, hd⟩, ⟨⟨cs, hc, hp.1, ?_⟩, hA⟩, ?_⟩
      · obtain ⟨_, G, g1, g2, g3⟩ := hp
        refine ⟨G, fun f hf => ?_, g2, g3⟩
        have := (g1 f hf).mono mv2.tr.K
        cases own with
        | true => exact this
        | false => exact this
      · cases own <;> cases g <;> exact ⟨hT.back mv1.tr.sub, fun e => by (cases e), hAg⟩
    cases m with
    | rd =>
      simp only [argsK] at hk
      obtain ⟨dss, h', E', Fs, ts, hk, mv, hd, hA, hT, hAg⟩ := argsK_sound ps args vs E h _ r hv.2 hk
      obtain ⟨ds, hk, cs, hc, hp⟩ := argK_rd (Kp := E'.Kp) mv.hs (VR.mono (Shape.refl w) _ _ (fun t _ => mv.tr.sub t) (hv.1 (by rintro rfl; exact argK_dead hk))) hk
      have e : (AnyF ((fun _ => False) :: Fs)) = AnyF Fs := funext fun x => propext (AnyF_cons.trans ⟨fun h => h.elim False.elim id, .inr⟩)
      exact ⟨_, h', E', (fun _ => False) :: Fs, ts, hk, by rw [e]; exact mv, DisF_cons.2 ⟨fun x h => h.elim, hd⟩, ⟨⟨cs, hc, hp⟩, hA⟩, by cases g <;> exact hT, (fun e => by cases e), hAg⟩
    | keep => exact step false rfl hk
    | take => exact step true rfl hk
    | «mut» =>
      simp only [argsK] at hk
      have hv1 := hv.1 (by rintro rfl; exact argK_dead hk)
      cases g with
      | true =>
        cases V with
        | agg cs =>
          obtain ⟨us, rfl, h2, h3⟩ := hv1
          obtain ⟨ds, h1, E1, G, ts1, hk, mv1, hl, hds, hdj, hM⟩ := mutCs_sound cs us E h _ r h2 h3 hk
          obtain ⟨dss, h', E', Fs, ts, hk, mv2, hd, hA, hT, hAg⟩ := argsK_sound ps args vs E1 h1 _ mv1.hs (hv.2.mono (Shape.refl w) mv1.tr.sub) hk
          obtain ⟨mv, hdis⟩ := mv1.trans mv2
          have e : (AnyF ((fun x => ∃ i, i < cs.length ∧ G i x) :: Fs)) = fun x => (∃ i, i < cs.length ∧ G i x) ∨ AnyF Fs x := funext fun x => propext AnyF_cons
          rw [appV_eq0] at hk
          refine ⟨_, h', E', _ :: Fs, _, hk, by rw [e]; exact mv, DisF_cons.2 ⟨hdis, hd⟩, ⟨⟨us, ⟨rfl, h3⟩, by rw [hl, h2.length], G, fun f hf => ?_, fun f g hf hg => hdj f g (by omega) (by omega), fun x => by rw [hl]⟩, hA⟩, hM.app (hT.back mv1.tr.sub), fun _ => ⟨cs, rfl⟩, hAg⟩
          exact (hds f (by omega)).mono mv2.tr.K
        | _ => exact hk.elim
      | false =>
      obtain ⟨d, h1, E1, F, t, hk, mv1, ho, hM⟩ := argK_mut r hv1 hk
      obtain ⟨dss, h', E', Fs, ts, hk, mv2, hd, hA, hT, hAg⟩ := argsK_sound ps args vs E1 h1 _ mv1.hs (hv.2.mono (Shape.refl w) mv1.tr.sub) hk
      obtain ⟨mv, hdis⟩ := mv1.trans mv2
      have e : (AnyF (F :: Fs)) = fun x => F x ∨ AnyF Fs x := funext fun x => propext AnyF_cons
      refine ⟨_, h', E', F :: Fs, _, hk, by rw [e]; exact mv, DisF_cons.2 ⟨hdis, hd⟩, ⟨⟨[v], ⟨rfl, ho.one⟩, rfl, fun _ => F, fun f hf => ?_, fun f g hf hg hne => ?_, fun x => ?_⟩, hA⟩, ⟨hM, hT.back mv1.tr.sub⟩, (fun e => by cases e), hAg⟩
      · obtain rfl : f = 0 := by simpa using hf
        exact ho.mono mv2.tr.K
      · simp at hf hg; omega
      · exact ⟨fun hx => ⟨0, by simp, hx⟩, fun ⟨_, _, hx⟩ => hx⟩
  | [], [], _ :: _, E, h, K, r, hv, hk => hv.elim
  | [], _ :: _, _, E, h, K, r, hv, hk => by simp [argsK] at hk
  | _ :: _, [], _, E, h, K, r, hv, hk => by simp [argsK] at hk
  | _ :: _, (_, _) :: _, [], E, h, K, r, hv, hk => hv.elim
end
end Go.Vm
