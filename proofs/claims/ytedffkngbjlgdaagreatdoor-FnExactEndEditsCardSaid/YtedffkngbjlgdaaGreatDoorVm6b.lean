/- A verified evaluator for Go code: code. -/
import Derived.Test.YtedffkngbjlgdaaGreatDoorVm7h
import Derived.Deep.LoopGhost
namespace Go.Vm
open Go.RowKit
set_option linter.unusedVariables false
set_option linter.unusedSimpArgs false

section
variable {P : Program} {T : Tab} {S : Cons} {C : Ctx} {E E1 : Env} {s : Sl} {h h1 : Hp} {a : Act} {w w' : World} {Q : Exit → Act → World → Prop}

theorem renN_mem {ρ : List (Nat × Nat)} {t u : Nat} (h : renN ρ t = some u) : (t, u) ∈ ρ := by
  induction ρ with
  | nil => simp [renN] at h
  | cons p r ih =>
    obtain ⟨a, b⟩ := p
    simp only [renN] at h
    split at h
    · rename_i e; have := nbeq_eq e; cases h; subst this; exact List.mem_cons_self ..
    · exact List.mem_cons_of_mem _ (ih h)
theorem invN_mem {ρ : List (Nat × Nat)} {t u : Nat} (h : invN ρ u = some t) : (t, u) ∈ ρ := by
  induction ρ with
  | nil => simp [invN] at h
  | cons p r ih =>
    obtain ⟨a, b⟩ := p
    simp only [invN] at h
    split at h
    · rename_i e; have := nbeq_eq e; cases h; subst this; exact List.mem_cons_self ..
    · exact List.mem_cons_of_mem _ (ih h)
theorem renN_none {ρ : List (Nat × Nat)} {t : Nat} (h : renN ρ t = none) (u : Nat) : (t, u) ∉ ρ := by
  induction ρ with
  | nil => simp
  | cons p r ih =>
    obtain ⟨a, b⟩ := p
    simp only [renN] at h
    split at h
    · cases h
    · rename_i e
      intro hm
      rcases List.mem_cons.1 hm with h1 | h1
      · cases h1; simp at e
      · exact ih h h1
theorem invN_none {ρ : List (Nat × Nat)} {u : Nat} (h : invN ρ u = none) (t : Nat) : (t, u) ∉ ρ := by
  induction ρ with
  | nil => simp
  | cons p r ih =>
    obtain ⟨a, b⟩ := p
    simp only [invN] at h
    split at h
    · cases h
    · rename_i e
      intro hm
      rcases List.mem_cons.1 hm with h1 | h1
      · cases h1; simp at e
      · exact ih h h1
theorem renOk_inj {ρ : List (Nat × Nat)} (h : renOk ρ = true) : ∀ a b c d, (a, b) ∈ ρ → (c, d) ∈ ρ → (a = c ↔ b = d) := by
  induction ρ with
  | nil => intro a b c d h1; simp at h1
  | cons p r ih =>
    obtain ⟨x, y⟩ := p
    simp only [renOk] at h
    split at h
    · cases h
    · rename_i e1
      split at h
      · cases h
      · rename_i e2
        intro a b c d h1 h2
        rcases List.mem_cons.1 h1 with h1 | h1 <;> rcases List.mem_cons.1 h2 with h2 | h2
        · cases h1; cases h2; simp
        · cases h1
          exact ⟨fun e => absurd (e ▸ h2) (renN_none e1 d), fun e => absurd (e ▸ h2) (invN_none e2 c)⟩
        · cases h2
          exact ⟨fun e => absurd (e ▸ h1) (renN_none e1 b), fun e => absurd (e ▸ h1) (invN_none e2 a)⟩
        · exact ih h a b c d h1 h2
theorem renN_inv {ρ : List (Nat × Nat)} (hok : renOk ρ = true) {t u : Nat} (h : renN ρ t = some u) : invN ρ u = some t := by
  have h1 := renN_mem h
  cases e : invN ρ u with
  | none => exact absurd h1 (invN_none e t)
  | some t' => rw [(renOk_inj hok t' u t u (invN_mem e) h1).2 rfl]

theorem LeS.look {ρ : List (Nat × Nat)} {s' s : Sl} (hh : LeS ρ s' s) (n : Nat) : Vm.look s' n = .dead ∨ Vm.look s' n = renV ρ (Vm.look s n) := by
  induction s' with
  | nil => exact .inl rfl
  | cons p r ih =>
    obtain ⟨k, v⟩ := p
    rw [look_cons]
    split
    · rename_i e; subst e; exact .inr hh.1.symm
    · exact ih hh.2
theorem LeH.look {ρ : List (Nat × Nat)} {h' h : Hp} (hh : LeH ρ h' h) {t : Nat} {o : Ob} (e : lookO h' t = some o) : ∃ u o', invN ρ t = some u ∧ lookO h u = some o' ∧ renO ρ o' = o := by
  induction h' with
  | nil => simp [lookO] at e
  | cons p r ih =>
    obtain ⟨k, v⟩ := p
    rw [lookO_cons] at e
    cases v with
    | none =>
      split at e
      · cases e
      · exact ih hh e
    | some o' =>
      split at e
      · rename_i e1; subst e1; cases e
        have h1 := hh.1
        split at h1
        · rename_i u eu
          cases el : lookO h u with
          | none => rw [el] at h1; cases h1
          | some o2 => rw [el] at h1; cases h1; exact ⟨u, o2, eu, el, rfl⟩
        · exact h1.elim
      · exact ih hh.2 e

def Env.ren (E : Env) (ρ : List (Nat × Nat)) : Env :=
  ⟨fun t => match invN ρ t with | some u => E.γ u | none => none, fun t x => match invN ρ t with | some u => E.F u x | none => False, E.R, E.Kp⟩
theorem ren_sz (ρ : List (Nat × Nat)) (o : Ob) : (renO ρ o).sz = o.sz ∧ (renO ρ o).own = o.own ∧ (renO ρ o).len = o.len := by
  cases o with
  | row k sz enc l => exact ⟨rfl, rfl, rfl⟩
  | arr own sz els =>
    refine ⟨rfl, rfl, ?_⟩
    have : ∀ l : List (List Vm.V), (renEls ρ l).length = l.length := by
      intro l; induction l with
      | nil => rfl
      | cons e l ih => simp [renEls, ih]
    exact this els
  | foc sz enc l j cs => exact ⟨rfl, rfl, rfl⟩

mutual
theorem VR.ren {w : World} {E E' : Env} {g g' : Nat → Option Ob} {ρ : List (Nat × Nat)} (hg : ∀ t u o', renN ρ t = some u → g' u = some o' → ∃ o, g t = some o ∧ o.sz = o'.sz ∧ o.len = o'.len ∧ o.own = o'.own ∧ E'.γ u = E.γ t) : ∀ (V : Vm.V) (v : Value), VR w E g V v → VR w E' g' (renV ρ V) v
  | .lf u, v, h => h
  | .dead, v, h => h
  | .sl t cut, v, h => by
    simp only [renV]
    split
    · rename_i u e
      refine ⟨h.1, fun o' ho' => ?_⟩
      obtain ⟨o, h1, h2, h3, h4, h5⟩ := hg t u o' e ho'
      have := h.2 o h1
      rwa [h2, h3, h4, ← h5] at this
    · exact h.1
  | .pt t i f, v, h => by
    simp only [renV]
    split
    · rename_i u e
      refine ⟨h.1, fun o' ho' => ?_⟩
      obtain ⟨o, h1, h2, h3, h4, h5⟩ := hg t u o' e ho'
      obtain ⟨b, p, h6, h7⟩ := h.2 o h1
      exact ⟨b, p, by rw [h5]; exact h6, by rw [← h2]; exact h7⟩
    · obtain ⟨ad, rfl⟩ := h.1; rfl
  | .agg cs, v, h => by
    obtain ⟨vs, h1, h2, h3⟩ := h
    exact ⟨vs, h1, VRs.ren hg cs vs h2, h3⟩
  | .tup cs, v, h => by
    obtain ⟨vs, h1, h2⟩ := h
    exact ⟨vs, h1, VRs.ren hg cs vs h2⟩
  | .fn f cs, v, h => by
    obtain ⟨vs, h1, h2, h3⟩ := h
    exact ⟨vs, h1, VRs.ren hg cs vs h2, h3⟩
theorem VRs.ren {w : World} {E E' : Env} {g g' : Nat → Option Ob} {ρ : List (Nat × Nat)} (hg : ∀ t u o', renN ρ t = some u → g' u = some o' → ∃ o, g t = some o ∧ o.sz = o'.sz ∧ o.len = o'.len ∧ o.own = o'.own ∧ E'.γ u = E.γ t) : ∀ (cs : List Vm.V) (vs : List Value), VRs w E g cs vs → VRs w E' g' (renVs ρ cs) vs
  | [], vs, h => h
  | c :: cs, vs, h => by
    obtain ⟨x, xs, h1, h2, h3⟩ := h
    exact ⟨x, xs, h1, VR.ren hg c x h2, VRs.ren hg cs xs h3⟩
end

theorem renEls_get (ρ : List (Nat × Nat)) : ∀ (els : List (List Vm.V)) (i : Nat), (renEls ρ els).getD i [] = renVs ρ (els.getD i [])
  | [], i => by cases i <;> rfl
  | e :: l, 0 => rfl
  | e :: l, i + 1 => by simpa [renEls] using renEls_get ρ l i
theorem renVs_get (ρ : List (Nat × Nat)) : ∀ (cs : List Vm.V) (i : Nat), (renVs ρ cs).getD i .dead = renV ρ (cs.getD i .dead)
  | [], i => by cases i <;> rfl
  | e :: l, 0 => rfl
  | e :: l, i + 1 => by simpa [renVs] using renVs_get ρ l i
theorem renVs_len (ρ : List (Nat × Nat)) (cs : List Vm.V) : (renVs ρ cs).length = cs.length := by
  induction cs with
  | nil => rfl
  | cons e l ih => simp [renVs, ih]

theorem ObR.ren {w : World} {E : Env} {g g' : Nat → Option Ob} {ρ : List (Nat × Nat)} {t u : Nat} {o : Ob} (hγ : (E.ren ρ).γ u = E.γ t) (hF : ∀ x, (E.ren ρ).F u x ↔ E.F t x)
    (hg : ∀ t u o', renN ρ t = some u → g' u = some o' → ∃ o, g t = some o ∧ o.sz = o'.sz ∧ o.len = o'.len ∧ o.own = o'.own ∧ (E.ren ρ).γ u = E.γ t) (h : ObR w E g t o) : ObR w (E.ren ρ) g' u (renO ρ o) := by
  cases o with
  | row k sz enc l =>
    obtain ⟨h1, h2, h3⟩ := h
    refine ⟨h1, h2, ?_⟩
    rw [hγ]
    cases e : E.γ t with
    | none => rw [e] at h3; exact ⟨h3.1, fun x hx => h3.2 x ((hF x).1 hx)⟩
    | some p =>
      rw [e] at h3
      obtain ⟨b, o⟩ := p
      obtain ⟨h4, vals, h5, h6⟩ := h3
      refine ⟨h4, vals, h5, ?_⟩
      cases k with
      | own =>
        obtain ⟨G, a1, a2, a3, a4, a5⟩ := h6
        exact ⟨G, a1, a2, a3, fun x => (hF x).trans (a4 x), a5⟩
      | mix => exact ⟨h6.1, fun x => (hF x).trans (h6.2.1 x), h6.2.2⟩
      | ro => exact ⟨h6.1, h6.2.1, fun x hx => h6.2.2 x ((hF x).1 hx)⟩
      | lent => exact ⟨h6.1, h6.2.1, fun x hx => h6.2.2 x ((hF x).1 hx)⟩
  | arr own sz els =>
    obtain ⟨h0, b, o, h1, h2, h3, ⟨vals, h4, h5⟩, h6⟩ := h
    have hl : (renEls ρ els).length = els.length := (ren_sz ρ (.arr own sz els)).2.2
    refine ⟨by rw [hl]; exact h0, b, o, hγ.trans h1, h2, fun e he => ?_, ⟨vals, fun i f hi hf => h4 i f (by rwa [hl] at hi) hf, fun i f hi hf => ?_⟩, ?_⟩
    · have : ∀ l : List (List Vm.V), (∀ e ∈ l, e.length = sz) → ∀ e ∈ renEls ρ l, e.length = sz := by
        intro l
        induction l with
        | nil => intro _ e he; simp [renEls] at he
        | cons x l ih =>
          intro hl e he
          simp only [renEls, List.mem_cons] at he
          rcases he with rfl | he
          · rw [renVs_len]; exact hl x (List.mem_cons_self ..)
          · exact ih (fun e he => hl e (List.mem_cons_of_mem _ he)) e he
      exact this els h3 e he
    · rw [renEls_get, renVs_get]
      obtain ⟨a1, a2⟩ := h5 i f (by rwa [hl] at hi) hf
      exact ⟨VR.ren hg _ _ a1, a2⟩
    · cases own with
      | true => exact ⟨fun x => (hF x).trans (h6.1 x), fun j hj => h6.2 j (by rwa [hl] at hj)⟩
      | false => exact ⟨h6.1, fun x hx => h6.2 x ((hF x).1 hx)⟩
  | foc sz enc l q cs =>
    obtain ⟨h1, h2, h3, h4, b, o, h5, h6, vals, h7, h8, G, g1, g2, g3, g4, g5⟩ := h
    exact ⟨h1, h2, h3, by rw [renVs_len]; exact h4, b, o, hγ.trans h5, h6, vals, h7, fun f hf => by rw [renVs_get]; exact ⟨VR.ren hg _ _ (h8 f hf).1, (h8 f hf).2⟩, G, g1, g2, g3, fun x => (hF x).trans (g4 x), g5⟩

theorem Rel.le {ρ : List (Nat × Nat)} {s' : Sl} {h' : Hp} (r : Rel C E s h a w) (hl : Le ρ s' h' s h) : Rel C (E.ren ρ) s' h' a w := by
  have hγ : ∀ {t u : Nat}, invN ρ t = some u → (E.ren ρ).γ t = E.γ u := fun {t u} e => by simp [Env.ren, e]
  have hF : ∀ {t u : Nat}, invN ρ t = some u → ∀ x, (E.ren ρ).F t x ↔ E.F u x := fun {t u} e x => by simp [Env.ren, e]
  have hg : ∀ t u o', renN ρ t = some u → lookO h' u = some o' → ∃ o, lookO h t = some o ∧ o.sz = o'.sz ∧ o.len = o'.len ∧ o.own = o'.own ∧ (E.ren ρ).γ u = E.γ t := by
    intro t u o' e ho'
    obtain ⟨t', o2, e1, e2, rfl⟩ := hl.h.look ho'
    have e3 := renN_inv hl.ok e
    rw [e1] at e3; cases e3
    obtain ⟨q1, q2, q3⟩ := ren_sz ρ o2
    exact ⟨o2, e2, q1.symm, q3.symm, q2.symm, hγ e1⟩
  have hsome : ∀ {t}, (lookO h' t).isSome = true → ∃ u o, invN ρ t = some u ∧ lookO h u = some o := fun {t} ht => by
    obtain ⟨o, ho⟩ := Option.isSome_iff_exists.1 ht
    obtain ⟨u, o', e1, e2, _⟩ := hl.h.look ho
    exact ⟨u, o', e1, e2⟩
  refine ⟨fun t o ho => ?_, fun t u hne ht hu x hx hx' => ?_, fun t ht x hx => ?_, r.KR, r.Rlt, fun t ht x hx => ?_, r.R0, r.K0, r.Rin, r.Kin, fun n => ?_, r.nt, r.shape, r.frame, r.defers⟩
  · obtain ⟨u, o', e1, e2, rfl⟩ := hl.h.look ho
    exact (r.ob u o' e2).ren (hγ e1) (hF e1) hg
  · obtain ⟨t', o1, e1, e2⟩ := hsome ht
    obtain ⟨u', o2, e3, e4⟩ := hsome hu
    refine r.dis t' u' (fun e => ?_) (by rw [e2]; rfl) (by rw [e4]; rfl) x ((hF e1 x).1 hx) ((hF e3 x).1 hx')
    subst e
    exact hne ((renOk_inj hl.ok t' t t' u (invN_mem e1) (invN_mem e3)).1 rfl)
  · obtain ⟨t', o1, e1, e2⟩ := hsome ht
    exact r.disR t' (by rw [e2]; rfl) x ((hF e1 x).1 hx)
  · obtain ⟨t', o1, e1, e2⟩ := hsome ht
    exact r.Fin t' (by rw [e2]; rfl) x ((hF e1 x).1 hx)
  · rcases hl.s.look n with e | e
    · exact .inl e
    · rw [e]
      rcases r.sl n with h1 | h1
      · rw [h1]; exact .inl rfl
      · exact .inr (VR.ren hg _ _ h1)

/-- What holds at the code's end. -/
def QQ (C : Ctx) (K : Vm.E → Sl → Hp → Prop) : Exit → Act → World → Prop
  | .normal, a, w => Post C (K .normal) a w
  | .exit n, a, w => Post C (K (.exit n)) a w
  | .ret, a, w => Post C (K .ret) a w
  | _, _, _ => False

def Fits (C : Ctx) : Code → Prop
  | .region _ ops _ => FitOps0 C ops.toList
  | .seq a b => Fits C a ∧ Fits C b
  | .cond _ a b => Fits C a ∧ Fits C b
  | .block _ c => Fits C c
  | .loop c => Fits C c
  | _ => True

theorem evOps_sound (hT : TOk P T) (hS : SOk P S) {ops : Array Oper} (hf : FitOps0 C ops.toList) : ∀ (rest : List Oper) (i : Nat) (s : Sl) (h : Hp) (E : Env) (a : Act) (w : World) (K : Sl → Hp → Prop), ops.toList.drop i = rest → Rel C E s h a w → evOps T S ops.toList rest s h K →
    (∀ a w, Post C K a w → Q .normal a w) → wpOps P ops Q (List.range' i rest.length) a w
  | [], i, s, h, E, a, w, K, hi, r, hk, hQ => hQ a w ⟨E, s, h, r, hk⟩
  | o :: rest, i, s, h, E, a, w, K, hi, r, hk, hQ => by
    have hio : ops[i]? = some o := by
      have : ops.toList[i]? = some o := by
        have h1 : (ops.toList.drop i)[0]? = some o := by rw [hi]; rfl
        simpa using h1
      simpa using this
    have hrest : ops.toList.drop (i + 1) = rest := by
      have : (ops.toList.drop i).drop 1 = rest := by rw [hi]; rfl
      rwa [List.drop_drop] at this
    have hmem : o ∈ ops.toList := List.mem_of_mem_drop (i := i) (by rw [hi]; exact List.mem_cons_self ..)
    have hG := evG_sound (P := P) (Q := Q) hT hS (ops := ops) r (hf o hmem) hk
    have next : ∀ a w, Post C (fun s h => evOps T S ops.toList rest s h K) a w → wpOps P ops Q (List.range' (i + 1) rest.length) a w := by
      rintro a w ⟨E', s', h', r', hk'⟩
      exact evOps_sound hT hS hf rest (i + 1) s' h' E' a w K hrest r' hk' hQ
    show wpOps P ops Q (List.range' i (rest.length + 1)) a w
    rw [List.range'_succ]
    simp only [wpOps, hio]
    split
    · rename_i hw
      rw [if_pos hw] at hG
      exact .inl (Oper.wp_mono next hG)
    · rename_i hw
      rw [if_neg hw] at hG
      exact next _ _ hG

theorem ev_sound (hT : TOk P T) (hS : SOk P S) (hm : P.follows .mixedOrders = true) : ∀ (c : Code) (s : Sl) (h : Hp) (E : Env) (a : Act) (w : World) (K : Vm.E → Sl → Hp → Prop), Fits C c → Rel C E s h a w → ev T S c s h K → c.wp P (QQ C K) a w
  | .skip, s, h, E, a, w, K, _, r, hk => wp_skip ⟨E, s, h, r, hk⟩
  | .ret, s, h, E, a, w, K, _, r, hk => wp_ret ⟨E, s, h, r, hk⟩
  | .exit n, s, h, E, a, w, K, _, r, hk => wp_exit (show Post C (K (.exit n)) a w from ⟨E, s, h, r, hk⟩)
  | .region id ops draw, s0, h0, E0, a, w, K, hf, r0, hk => by
    simp only [ev] at hk
    obtain ⟨E, s, h, hk, r⟩ := gst_sound r0 hk
    cases draw with
    | false =>
      refine wp_region ?_
      have := evOps_sound (P := P) (Q := QQ C K) hT hS hf ops.toList 0 s h E a w (K .normal) rfl r hk (fun a w h => h)
      rwa [← List.range_eq_range', Array.length_toList] at this
    | true => exact draw_sound (Q := QQ C K) hT hS hm hf (fun a w h => h) r hk
  | .seq x y, s, h, E, a, w, K, hf, r, hk => by
    refine wp_seq (wp_mono (ev_sound hT hS hm x s h E a w _ hf.1 r hk) fun e a w hq => ?_)
    cases e with
    | normal =>
      obtain ⟨E', s', h', r', hk'⟩ := hq
      exact ev_sound hT hS hm y s' h' E' a w K hf.2 r' hk'
    | exit n => exact hq
    | ret => exact hq
    | goto l => exact hq.elim
    | panic ch => exact hq.elim
    | outgrown => exact hq.elim
  | .cond c x y, s, h, E, a, w, K, hf, r, hk => by
    simp only [ev] at hk
    split at hk
    · rename_i b e
      have hc := (r.lf e).1
      refine wp_cond hc ?_
      split at hk
      · rename_i d
        have r' := r.again (look_val (by rw [e]; simp) ▸ e : look s d = .lf (.bool b))
        unfold brb at hk
        cases b with
        | true => exact ev_sound hT hS hm x _ h E a w K hf.1 r' hk
        | false => exact ev_sound hT hS hm y _ h E a w K hf.2 r' hk
      · unfold brb at hk
        cases b with
        | true => exact ev_sound hT hS hm x s h E a w K hf.1 r hk
        | false => exact ev_sound hT hS hm y s h E a w K hf.2 r hk
    · exact hk.elim
  | .block n c, s, h, E, a, w, K, hf, r, hk => by
    refine wp_block (wp_mono (ev_sound hT hS hm c s h E a w _ hf r hk) fun e a w hq => ?_)
    cases e with
    | normal => exact hq
    | exit m =>
      obtain ⟨E', s', h', r', hk'⟩ := hq
      simp only at hk'
      split at hk'
      · rename_i e
        have := nbeq_eq e
        subst this
        simp only [Exit.inBlock, if_true]
        exact ⟨E', s', h', r', hk'⟩
      · rename_i e
        have hne : m ≠ n := by rintro rfl; simp at e
        simp only [Exit.inBlock, if_neg hne]
        exact ⟨E', s', h', r', hk'⟩
    | ret => exact hq
    | goto l => exact hq.elim
    | panic ch => exact hq.elim
    | outgrown => exact hq.elim
  | .loop c, s, h, E, a, w, K, hf, r, hk => by
    simp only [ev] at hk
    obtain ⟨I, m, ρ, s0, h0, hle, hi0, hI⟩ := hk
    refine wp_loop_ghost (fun n a w => Post C (I n) a w) m ⟨_, s0, h0, r.le hle, hi0⟩ fun n a w hp => ?_
    obtain ⟨E', s', h', r', hk'⟩ := hp
    refine wp_mono (ev_sound hT hS hm c s' h' E' a w _ hf r' (hI n s' h' hk')) fun e a w hq => ?_
    cases e with
    | normal =>
      obtain ⟨E2, s2, h2, r2, n', ρ', s3, h3, hlt, hle', hi⟩ := hq
      exact ⟨n', hlt, _, s3, h3, r2.le hle', hi⟩
    | exit m => exact hq
    | ret => exact hq
    | goto l => exact hq.elim
    | panic ch => exact hq.elim
    | outgrown => exact hq.elim
  | .rangeFunc _ _ _ _, s, h, E, a, w, K, hf, r, hk => hk.elim
  | .scope _, s, h, E, a, w, K, hf, r, hk => hk.elim
  | .label _, s, h, E, a, w, K, hf, r, hk => hk.elim
  | .goto _, s, h, E, a, w, K, hf, r, hk => hk.elim
  | .refuse _, s, h, E, a, w, K, hf, r, hk => hk.elim
end
end Go.Vm
