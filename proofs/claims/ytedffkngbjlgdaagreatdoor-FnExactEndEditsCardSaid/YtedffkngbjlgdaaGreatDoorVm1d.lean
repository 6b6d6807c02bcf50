/- A verified evaluator for Go code: deep data that is handed over. -/
import Derived.Test.YtedffkngbjlgdaaGreatDoorVm1c
namespace Go.Vm
open Go.RowKit
set_option linter.unusedVariables false
set_option linter.unusedSimpArgs false

/-- What has left the objects: it is no object's any more and is not read. -/
structure Mv (C : Ctx) (w : World) (E : Env) (h : Hp) (E' : Env) (h' : Hp) (Fd : Nat → Prop) : Prop where
  hs : Hs C w E' h'
  tr : Tr E h E' h'
  src : ∀ x, Fd x → ∃ t, (lookO h t).isSome = true ∧ E.F t x
  disF : ∀ t, (lookO h' t).isSome = true → ∀ x, E'.F t x → ¬ Fd x
  disR : ∀ x, Fd x → ¬ E'.R x

theorem Mv.refl {C : Ctx} {w : World} {E : Env} {h : Hp} (r : Hs C w E h) : Mv C w E h E h (fun _ => False) :=
  ⟨r, Tr.refl E h, fun _ h => h.elim, fun _ _ _ _ h => h, fun _ h => h.elim⟩

theorem Mv.none {C : Ctx} {w : World} {E : Env} {h : Hp} {E' : Env} {h' : Hp} {F : Nat → Prop} (r : Hs C w E' h') (tr : Tr E h E' h') (hF : ∀ x, ¬ F x) : Mv C w E h E' h' F :=
  ⟨r, tr, fun x h => absurd h (hF x), fun _ _ x _ h => hF x h, fun x h => absurd h (hF x)⟩

theorem Mv.trans {C : Ctx} {w : World} {E1 E2 E3 : Env} {h1 h2 h3 : Hp} {F G : Nat → Prop} (a : Mv C w E1 h1 E2 h2 F) (b : Mv C w E2 h2 E3 h3 G) :
    Mv C w E1 h1 E3 h3 (fun x => F x ∨ G x) ∧ ∀ x, F x → ¬ G x := by
  have hd : ∀ x, F x → ¬ G x := fun x hf hg => by
    obtain ⟨t, hs, ht⟩ := b.src x hg
    exact a.disF t hs x ht hf
  refine ⟨⟨b.hs, a.tr.trans b.tr, ?_, ?_, ?_⟩, hd⟩
  · intro x hx; rcases hx with hx | hx
    · exact a.src x hx
    · obtain ⟨t, hs, ht⟩ := b.src x hx
      exact ⟨t, (a.tr.sub t).some hs, a.tr.F t x hs ht⟩
  · intro t hs x hx hh; rcases hh with hh | hh
    · exact a.disF t ((b.tr.sub t).some hs) x (b.tr.F t x hs hx) hh
    · exact b.disF t hs x hx hh
  · intro x hx hR; rcases hx with hx | hx
    · rcases b.tr.Rn x hR with hR | ⟨t, hs, ht⟩
      · exact a.disR x hx hR
      · exact a.disF t hs x ht hx
    · exact b.disR x hx hR

def MvD (own : Bool) (w : World) (E : Env) (F : Nat → Prop) (v : Value) (d : D) : Prop :=
  match own with
  | true => Own w E.Kp F v d
  | false => Ro w E.Kp v d ∧ ∀ x, ¬ F x

theorem MvD.mono {own : Bool} {w : World} {E E' : Env} {F : Nat → Prop} {v : Value} {d : D} (hK : ∀ x, E.Kp x → E'.Kp x) (h : MvD own w E F v d) : MvD own w E' F v d := by
  cases own with
  | true => exact Own.mono h hK
  | false => exact ⟨h.1.mono hK, h.2⟩

theorem MvD.lf {own : Bool} {w : World} {E : Env} {v : Value} (h : isSc v = true) : MvD own w E (fun _ => False) v (.lf v) := by
  cases own with
  | true => exact Own.lf h fun _ h => h
  | false => exact ⟨Ro.lf h, fun _ h => h⟩

theorem MvD.dead {own : Bool} {w : World} {E : Env} {v : Value} (h : v.oneCell' = true) : MvD own w E (fun _ => False) v .dead := by
  cases own with
  | true => exact Own.dead h fun _ h => h
  | false => exact ⟨Ro.dead h, fun _ h => h⟩

theorem Own.toMv {w : World} {E : Env} {F : Nat → Prop} {v : Value} {d : D} (h : Own w E.Kp F v d) : MvD true w E F v d := h
theorem Ro.toMv {w : World} {E : Env} {v : Value} {d : D} (h : Ro w E.Kp v d) : MvD false w E (fun _ => False) v d := ⟨h, fun _ h => h⟩

/-- A row is frozen where it lies. -/
theorem Hs.toRo {C : Ctx} {E : Env} {h : Hp} {w : World} (r : Hs C w E h) {t : Nat} {k : Kind} {sz : Nat} {α : Type} {enc : α → List D} {l : List α} (ht : lookO h t = some (.row k sz enc l)) (hk : k ≠ .lent) :
    Hs C w (E.freeze t) ((t, some (.row .ro sz enc l)) :: h) ∧ Tr E h (E.freeze t) ((t, some (.row .ro sz enc l)) :: h) := by
  have hts : (lookO h t).isSome = true := by rw [ht]; rfl
  obtain ⟨r1, tr1⟩ := r.freeze t hts
  have hl : ∀ u, u ≠ t → lookO ((t, some (.row .ro sz enc l)) :: h) u = lookO ((t, none) :: h) u := by
    intro u hu; rw [lookO_cons, lookO_cons, if_neg (Ne.symm hu), if_neg (Ne.symm hu)]
  have ht' : lookO ((t, some (.row .ro sz enc l)) :: h) t = some (.row .ro sz enc l) := by rw [lookO_cons, if_pos rfl]
  have hsub0 : ∀ u, Sub E (lookO h) (E.freeze t) (lookO ((t, some (.row .ro sz enc l)) :: h)) u := by
    intro u o ho
    by_cases e : u = t
    · subst e; rw [ht'] at ho; cases ho
      exact ⟨_, ht, rfl, rfl, fun e => by simp [Ob.own] at e, rfl⟩
    · rw [hl u e] at ho; exact tr1.sub u o ho
  have hsub : ∀ u, u ≠ t → Sub (E.freeze t) (lookO ((t, none) :: h)) (E.freeze t) (lookO ((t, some (.row .ro sz enc l)) :: h)) u := by
    intro u hu o ho; rw [hl u hu] at ho; exact ⟨o, ho, rfl, rfl, id, rfl⟩
  have hFt : ∀ x, ¬ (E.freeze t).F t x := fun x hx => hx.1 rfl
  have hob := r.ob t _ ht
  refine ⟨⟨?_, ?_, ?_, r1.KR, r1.Rlt, ?_, r1.R0, r1.K0, r1.Rin, r1.Kin⟩, ⟨hsub0, tr1.R, tr1.K, ?_, tr1.Rn, fun u o' hu hc => ?_⟩⟩
  · intro u o ho
    by_cases e : u = t
    · subst e; rw [ht'] at ho; cases ho
      obtain ⟨h1, h2, h3⟩ := hob
      refine ⟨h1, h2, ?_⟩
      have eγ : (E.freeze u).γ u = E.γ u := rfl
      rw [eγ]
      cases e : E.γ u with
      | none => simp only [e] at h3 ⊢; exact ⟨h3.1, hFt⟩
      | some p =>
        obtain ⟨b, o⟩ := p
        simp only [e] at h3 ⊢
        obtain ⟨hb, vals, hv, hkk⟩ := h3
        refine ⟨hb, vals, hv, ?_⟩
        cases k with
        | own =>
          obtain ⟨G, g1, g2, g3, g4, _⟩ := hkk
          exact ⟨.inr ((g4 b).2 (.inl rfl)), fun i f hi hf => (g1 i f hi hf).ro (fun x hx => .inr ((g4 x).2 (.inr ⟨i, f, hi, hf, hx⟩))) fun x hx => .inl hx, hFt⟩
        | mix => exact ⟨.inr ((hkk.2.1 b).2 rfl), fun i f hi hf => (hkk.1 i f hi hf).mono fun x hx => .inl hx, hFt⟩
        | ro => exact ⟨.inl hkk.1, fun i f hi hf => (hkk.2.1 i f hi hf).mono fun x hx => .inl hx, hFt⟩
        | lent => exact absurd rfl hk
    · have ho' := ho
      rw [hl u e, lookO_cons, if_neg (Ne.symm e)] at ho'
      exact (r.ob u o ho').mono r.KR rfl (fun x => ⟨fun hx => hx.2, fun hx => ⟨e, hx⟩⟩) (fun _ h => .inl h) (fun _ h => .inl h) (fun v _ => hsub0 v) (fun _ _ => rfl) (Shape.refl w)
  · intro u v hne hu hv x hx hx'
    by_cases e : u = t
    · subst e; exact hFt x hx
    · by_cases e' : v = t
      · subst e'; exact hFt x hx'
      · rw [hl u e] at hu; rw [hl v e'] at hv; exact r1.dis u v hne hu hv x hx hx'
  · intro u hu x hx
    by_cases e : u = t
    · subst e; exact absurd hx (hFt x)
    · rw [hl u e] at hu; exact r1.disR u hu x hx
  · intro u hu x hx
    by_cases e : u = t
    · subst e; exact absurd hx (hFt x)
    · rw [hl u e] at hu; exact r1.Fin u hu x hx
  · intro u x hu hx
    by_cases e : u = t
    · subst e; exact absurd hx (hFt x)
    · rw [hl u e] at hu; exact tr1.F u x hu hx
  · by_cases e : u = t
    · subst e; rw [ht'] at hu; cases hu; cases hc
    · rw [hl u e] at hu; exact tr1.arr u o' hu hc

theorem MvD.congr {own : Bool} {w : World} {E : Env} {F F' : Nat → Prop} {v : Value} {d : D} (h : MvD own w E F v d) (e : ∀ x, F' x ↔ F x) : MvD own w E F' v d := by
  have : F' = F := funext fun x => propext (e x)
  rw [this]; exact h

/-- A frozen row's slice. -/
theorem ro_of_row {C : Ctx} {E : Env} {h : Hp} {w : World} (r : Hs C w E h) {t : Nat} {sz : Nat} {α : Type} {enc : α → List D} {l : List α} {own : Bool} {cut : Option (Nat × Nat)} {v : Value}
    (ht : lookO h t = some (.row .ro sz enc l)) (hs : SlR w (E.γ t) sz l.length own cut v) : Ro w E.Kp v (.row sz enc (cutL cut l)) := by
  obtain ⟨h1, h2, h3⟩ := r.ob t _ ht
  refine ro_slice h1 h2 ?_ hs
  cases e : E.γ t with
  | none => simp only [e] at h3 ⊢; exact h3.1
  | some p =>
    obtain ⟨b, o⟩ := p
    simp only [e] at h3 ⊢
    obtain ⟨hb, vals, hv, hk⟩ := h3
    exact ⟨hb, hk.1, vals, hv, hk.2.1⟩

/-- The part of one's own row that a slice takes. -/
theorem own_slice {w : World} {Kp : Nat → Prop} {g : Option (Nat × Nat)} {sz : Nat} {α : Type} {enc : α → List D} {l : List α} {cut : Option (Nat × Nat)} {v : Value} {F : Nat → Prop}
    (hz : ∀ a, (enc a).length = sz) (hm : l.length ≤ 9223372036854775807)
    (h : match g with
      | none => l = [] ∧ ∀ x, ¬ F x
      | some (b, o) => b < w.heap.size ∧ ∃ vals, RowC w b o sz l.length vals ∧ ∃ G : Nat → Nat → Nat → Prop, (∀ i f, i < l.length → f < sz → Own w Kp (G i f) (vals i f) (dat enc l i f)) ∧
          (∀ i f j g, i < l.length → f < sz → j < l.length → g < sz → (i ≠ j ∨ f ≠ g) → ∀ x, G i f x → ¬ G j g x) ∧
          (∀ i f, i < l.length → f < sz → ¬ G i f b) ∧ ∀ x, F x ↔ x = b ∨ ∃ i f, i < l.length ∧ f < sz ∧ G i f x)
    (hs : SlR w g sz l.length true cut v) : ∃ F', Own w Kp F' v (.row sz enc (cutL cut l)) ∧ ∀ x, F' x → F x := by
  cases g with
  | none =>
    obtain ⟨rfl, hF⟩ := h
    obtain ⟨ab, rfl, hab, hc⟩ := hs
    obtain rfl := hab rfl
    have : cutL cut ([] : List α) = [] := by rcases hc with rfl | rfl <;> simp [cutL]
    rw [this]; exact ⟨_, .nil hz (F := fun _ => False) (fun _ h => h), fun _ h => h.elim⟩
  | some p =>
    obtain ⟨b, o⟩ := p
    obtain ⟨hb, vals, hv, G, g1, g2, g3, g4⟩ := h
    obtain ⟨off, n, oo, c, h1, h2, h3, h4, rfl, h6⟩ := hs
    refine ⟨fun x => x = b ∨ ∃ i f, i < n ∧ f < sz ∧ G (off + i) f x, .row (fun i f => vals (off + i) f) (fun i f => G (off + i) f) (cutL_len h1 h2).symm hb h3 (by omega) (fun j hj => ⟨(h6 j hj).1, (h6 j hj).2 rfl⟩) hz (fun i f hi hf => ?_) (fun i f hi hf => ?_)
      (fun i f j g hi hf hj hg hne => g2 _ _ _ _ (by omega) hf (by omega) hg (by omega)) (fun i f hi hf => g3 _ _ (by omega) hf) (fun x => Iff.rfl), fun x hx => ?_⟩
    · rcases h4 with rfl | rfl
      · omega
      · have := hv (off + i) f (by omega) hf
        rw [← this]; congr 2; rw [Nat.add_mul]; omega
    · rw [dat_cut h1 h2 i f hi]; exact g1 (off + i) f (by omega) hf
    · rcases hx with rfl | ⟨i, f, hi, hf, hx⟩
      · exact (g4 x).2 (.inl rfl)
      · exact (g4 x).2 (.inr ⟨off + i, f, by omega, hf, hx⟩)

theorem Hs.blk {C : Ctx} {E : Env} {h : Hp} {w : World} (r : Hs C w E h) {t : Nat} (ht : (lookO h t).isSome = true) {x : Nat} (hx : E.F t x) :
    (∀ u, (lookO ((t, none) :: h) u).isSome = true → ¬ E.F u x) ∧ ¬ E.R x := by
  refine ⟨fun u hu hh => ?_, r.disR t ht x hx⟩
  rw [lookO_cons] at hu
  split at hu
  · cases hu
  · rename_i e; exact r.dis u t (fun e' => e e'.symm) hu ht x hh hx
end Go.Vm
