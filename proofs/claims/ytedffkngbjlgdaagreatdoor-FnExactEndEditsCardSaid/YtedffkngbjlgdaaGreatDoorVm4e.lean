/- A verified evaluator for Go code: append: the base, the source. -/
import Derived.Test.YtedffkngbjlgdaaGreatDoorVm4d
namespace Go.Vm
open Go.RowKit
set_option linter.unusedVariables false
set_option linter.unusedSimpArgs false

/-- A row that may grow: its own elements, or such as are read for good. -/
def BaseR (own : Bool) (w : World) (E : Env) (F : Nat → Prop) (v : Value) (sz : Nat) {α : Type} (enc : α → List D) (l : List α) : Prop :=
  (∀ a, (enc a).length = sz) ∧ l.length ≤ 9223372036854775807 ∧ ((l = [] ∧ v = .slice none 0 0 ∧ ∀ x, ¬ F x) ∨ ∃ b o c, v = .slice (some ⟨b, o, none⟩) l.length c ∧ l.length ≤ c ∧
    (∀ j, j < c * sz → (∃ x, w.cell? ⟨b, o + j, none⟩ = some x) ∧ w.frozen? ⟨b, o + j, none⟩ = false) ∧ b < w.heap.size ∧ ∃ vals, RowC w b o sz l.length vals ∧
    ∃ G : Nat → Nat → Nat → Prop, (∀ i f, i < l.length → f < sz → MvD own w E (G i f) (vals i f) (dat enc l i f)) ∧
      (∀ i f j g, i < l.length → f < sz → j < l.length → g < sz → (i ≠ j ∨ f ≠ g) → ∀ x, G i f x → ¬ G j g x) ∧
      (∀ i f, i < l.length → f < sz → ¬ G i f b) ∧ ∀ x, F x ↔ x = b ∨ ∃ i f, i < l.length ∧ f < sz ∧ G i f x)

/-- It becomes an object. -/
theorem base_add {C : Ctx} {E : Env} {h : Hp} {w : World} (r : Hs C w E h) {own : Bool} {t sz : Nat} {α : Type} {enc : α → List D} {l : List α} {F : Nat → Prop} {v : Value}
    (hm : NoMen t h) (hF : Fresh C w E ((t, none) :: h) F) (hb : BaseR own w E F v sz enc l) :
    ∃ E', Hs C w E' ((t, some (.row (ownKind own) sz enc l)) :: h) ∧ Add E h E' ((t, some (.row (ownKind own) sz enc l)) :: h) t (t + 1) F ∧ VR w E' (lookO ((t, some (.row (ownKind own) sz enc l)) :: h)) (.sl t none) v := by
  have ht : lookO ((t, some (.row (ownKind own) sz enc l)) :: h) t = some (.row (ownKind own) sz enc l) := by rw [lookO_cons, if_pos rfl]
  have hown : Ob.own (.row (ownKind own) sz enc l) = true := by cases own <;> rfl
  obtain ⟨hz, hm', h3⟩ := hb
  have main : ∃ g, ObR w (E.set t g F) (lookO ((t, some (.row (ownKind own) sz enc l)) :: h)) t (.row (ownKind own) sz enc l) ∧ v.oneCell' = true ∧ SlR w g sz l.length (Ob.own (.row (ownKind own) sz enc l)) none v := by
    rcases h3 with ⟨rfl, rfl, hF'⟩ | ⟨b, o, c, rfl, hc, hcap, hb, vals, hv, G, g1, g2, g3, g4⟩
    · refine ⟨none, ⟨hz, hm', ?_⟩, rfl, none, rfl, fun _ => rfl, .inl rfl⟩
      rw [Env.set_γ]; exact ⟨rfl, fun x hx => hF' x ((Env.set_F E t none F x).1 hx)⟩
    · refine ⟨some (b, o), ⟨hz, hm', ?_⟩, rfl, 0, l.length, o, c, .inl ⟨rfl, rfl, rfl⟩, by omega, hc, .inr (by simp), rfl, fun j hj => ⟨(hcap j hj).1, fun _ => (hcap j hj).2⟩⟩
      rw [Env.set_γ]
      have hfz : ∀ j, j < l.length * sz → w.frozen? ⟨b, o + j, none⟩ = false := fun j hj => (hcap j (Nat.lt_of_lt_of_le hj (Nat.mul_le_mul_right _ hc))).2
      cases own with
      | true => exact ⟨hb, vals, hv, G, g1, g2, g3, fun x => (Env.set_F E t _ F x).trans (g4 x), hfz⟩
      | false =>
        refine ⟨hb, vals, hv, fun i f hi hf => (g1 i f hi hf).1, fun x => (Env.set_F E t _ F x).trans ((g4 x).trans ⟨fun h => ?_, .inl⟩), hfz⟩
        rcases h with h | ⟨i, f, hi, hf, h⟩
        · exact h
        · exact absurd h ((g1 i f hi hf).2 x)
  obtain ⟨g, h1, h2, h3⟩ := main
  obtain ⟨a, b⟩ := r.add1 hm hF h1 (fun _ _ => rfl)
  exact ⟨_, a, b, h2, fun o ho => by rw [ht] at ho; cases ho; rw [Env.set_γ]; exact h3⟩

section
variable {P : Program} {T : Tab} {S : Cons} {C : Ctx} {E E1 : Env} {s : Sl} {h h1 : Hp} {a : Act} {w w' : World} {Q : Exit → Act → World → Prop} {o : Oper} {v : Value}

theorem MvD.world {own : Bool} {F : Nat → Prop} {d : D} (hm : MvD own w E F v d) (hF : ∀ x, F x → w'.heap[x]? = w.heap[x]?) (hK : ∀ x, E.Kp x → w'.heap[x]? = w.heap[x]?) : MvD own w' E F v d := by
  cases own with
  | true => exact Own.frame hm hF hK
  | false => exact ⟨hm.1.frame hK, hm.2⟩

/-- What a slice that grows holds. -/
theorem baseK_sound {V : Vm.V} {sz : Nat} {K : (own : Bool) → (α : Type) → (α → List D) → List α → Hp → Prop} (r : Hs C w E h) (hv : VR w E (lookO h) V v) (hk : baseK fuel h V sz K) :
    ∃ (own : Bool) (α : Type) (enc : α → List D) (l : List α) (h' : Hp) (E' : Env) (F : Nat → Prop), K own α enc l h' ∧ Mv C w E h E' h' F ∧ BaseR own w E' F v sz enc l := by
  unfold baseK at hk
  split at hk
  · obtain ⟨rfl, _⟩ := hv
    obtain ⟨own, α, enc, hz, hk⟩ := hk
    exact ⟨own, α, enc, [], h, E, fun _ => False, hk, Mv.refl r, hz, by simp, .inl ⟨rfl, rfl, fun _ h => h⟩⟩
  · rename_i t cut
    split at hk
    · rename_i k sz' α enc l e
      split at hk
      · rename_i hsz
        obtain rfl := nbeq_eq hsz
        have hts : (lookO h t).isSome = true := by rw [e]; rfl
        have main : ∀ own : Bool, k = ownKind own → K own α enc (cutL cut l) ((t, none) :: h) → ∃ (own : Bool) (α : Type) (enc : α → List D) (l : List α) (h' : Hp) (E' : Env) (F : Nat → Prop), K own α enc l h' ∧ Mv C w E h E' h' F ∧ BaseR own w E' F v sz' enc l := by
          intro own hk' hk
          obtain ⟨hz, hm, hr⟩ := r.ob t _ e
          have hs := hv.2 _ e
          have hown : Ob.own (.row k sz' enc l) = true := by subst hk'; cases own <;> rfl
          simp only [Ob.sz, Ob.len, hown] at hs
          have mv : ∀ F : Nat → Prop, (∀ x, F x → E.F t x) → Mv C w E h E ((t, none) :: h) F := fun F hF =>
            ⟨(r.drop t).1, (r.drop t).2, fun x hx => ⟨t, hts, hF x hx⟩, fun u hu x hx hh => (r.blk hts (hF x hh)).1 u hu hx, fun x hx => (r.blk hts (hF x hx)).2⟩
          cases eγ : E.γ t with
          | none =>
            simp only [eγ] at hr hs
            obtain ⟨rfl, hF⟩ := hr
            obtain ⟨ab, rfl, hab, hc⟩ := hs
            obtain rfl : ab = none := hab rfl
            have e0 : cutL cut ([] : List α) = [] := by rcases hc with rfl | rfl <;> simp [cutL]
            rw [e0] at hk
            exact ⟨own, α, enc, [], _, E, fun _ => False, hk, mv _ (fun _ h => h.elim), hz, by simp, .inl ⟨rfl, rfl, fun _ h => h⟩⟩
          | some bp =>
            obtain ⟨b, p⟩ := bp
            simp only [eγ] at hr hs
            obtain ⟨hb, vals, hvs, h4⟩ := hr
            obtain ⟨off, n, oo, c, h1, h2, h3, h5, rfl, h6⟩ := hs
            have hmain : ∃ G : Nat → Nat → Nat → Prop, (∀ i f, i < l.length → f < sz' → MvD own w E (G i f) (vals i f) (dat enc l i f)) ∧
                (∀ i f j g, i < l.length → f < sz' → j < l.length → g < sz' → (i ≠ j ∨ f ≠ g) → ∀ x, G i f x → ¬ G j g x) ∧ (∀ i f, i < l.length → f < sz' → ¬ G i f b) ∧
                ∀ x, (x = b ∨ ∃ i f, i < l.length ∧ f < sz' ∧ G i f x) → E.F t x := by
              subst hk'
              cases own with
              | true => obtain ⟨G, g1, g2, g3, g4, _⟩ := h4; exact ⟨G, g1, g2, g3, fun x hx => (g4 x).2 hx⟩
              | false => exact ⟨fun _ _ _ => False, fun i f hi hf => ⟨h4.1 i f hi hf, fun _ h => h⟩, fun _ _ _ _ _ _ _ _ _ _ h => h.elim, fun _ _ _ _ h => h, fun x hx => (h4.2.1 x).2 (hx.elim id fun ⟨_, _, _, _, h⟩ => h.elim)⟩
            obtain ⟨G, g1, g2, g3, g4⟩ := hmain
            have hlen := cutL_len h1 h2
            refine ⟨own, α, enc, cutL cut l, _, E, fun x => x = b ∨ ∃ i f, i < n ∧ f < sz' ∧ G (off + i) f x, hk, mv _ (fun x hx => g4 x (hx.imp id fun ⟨i, f, hi, hf, hg⟩ => ⟨off + i, f, by omega, hf, hg⟩)), hz, by omega, .inr ⟨b, oo, c, by rw [hlen], by omega, ?_, hb, fun i f => vals (off + i) f, ?_,
              fun i f => G (off + i) f, ?_, ?_, ?_, fun x => by rw [hlen]⟩⟩
            · exact fun j hj => ⟨(h6 j hj).1, (h6 j hj).2 rfl⟩
            · intro i f hi hf
              rw [hlen] at hi
              rcases h5 with rfl | rfl
              · omega
              · have := hvs (off + i) f (by omega) hf
                rw [← this]; congr 2; rw [Nat.add_mul]; omega
            · intro i f hi hf
              rw [hlen] at hi
              rw [dat_cut h1 h2 i f hi]; exact g1 (off + i) f (by omega) hf
            · intro i f j g hi hf hj hg hne
              rw [hlen] at hi hj
              exact g2 _ _ _ _ (by omega) hf (by omega) hg (by omega)
            · intro i f hi hf
              rw [hlen] at hi
              exact g3 _ _ (by omega) hf
        cases k with
        | own => exact main true rfl hk
        | mix => exact main false rfl hk
        | ro => exact hk.elim
        | lent => exact hk.elim
      · exact hk.elim
    · rename_i sz' els e
      split at hk
      · rename_i hsz
        obtain rfl := nbeq_eq hsz
        have hts : (lookO h t).isSome = true := by rw [e]; rfl
        obtain ⟨own, hk⟩ := hk
        obtain ⟨h0, b, o, e1, hb, hz, ⟨vals, hc, hr⟩, hF, hfr⟩ := r.ob t _ e
        have hs := hv.2 _ e
        simp only [Ob.sz, Ob.len, e1] at hs
        obtain ⟨off, m, oo, c, h1, h2, h3, h4, rfl, h6⟩ := hs
        obtain ⟨r1, tr1⟩ := r.drop t
        obtain ⟨ds, h', E', G, ⟨α, enc, l, hz', rfl, hk2⟩, mv, hl, _, hd, hdis⟩ := mvEls_sound fuel own E ((t, none) :: h) sz' (cutL cut els) (fun i f => vals (off + i) f) _ r1
          (fun e he => hz e (by revert he; cases cut <;> simp [cutL]; intro he; exact List.mem_of_mem_drop (List.mem_of_mem_take he)))
          (fun i f hi hf => by
            rw [cutL_len h1 h2] at hi
            have := hr (off + i) f (by omega) hf
            rw [show (cutL cut els).getD i [] = els.getD (off + i) [] by simp only [List.getD_eq_getElem?_getD]; rw [cutL_get h1 h2 i hi]]
            exact ⟨VR.mono (Shape.refl w) _ _ (fun u _ => tr1.sub u) this.1, this.2⟩) hk
        have hlm : (cutL cut els).length = m := cutL_len h1 h2
        have hlen : l.length = m := by rw [← hlm, ← hl]; simp
        have hbF : E.F t b := (hF b).2 rfl
        have mv' := (Mv.trans (C := C) (w := w) (E1 := E) (E2 := E) (h1 := h) (h2 := (t, none) :: h) (F := fun x => x = b) (h3 := h') (E3 := E') (G := fun x => ∃ i f, i < (cutL cut els).length ∧ f < sz' ∧ G i f x)
          ⟨r1, tr1, fun x hx => ⟨t, hts, hx ▸ hbF⟩, fun u hu x hx hh => (r.blk hts hbF).1 u hu (hh ▸ hx), fun x hx => hx ▸ (r.blk hts hbF).2⟩ mv).1
        refine ⟨own, α, enc, l, h', E', _, hk2, mv', hz', by omega, .inr ⟨b, oo, c, by rw [hlen], by omega, fun j hj => ⟨(h6 j hj).1, (h6 j hj).2 rfl⟩, hb, fun i f => vals (off + i) f, ?_, G, ?_, ?_, ?_, fun x => by rw [hlm, hlen]⟩⟩
        · intro i f hi hf
          rcases h4 with rfl | rfl
          · omega
          · have := hc (off + i) f (by omega) hf
            rw [← this]; congr 2; rw [Nat.add_mul]; omega
        · intro i f hi hf
          have := hd i f (by omega) hf
          rw [dat_map] at this; exact this
        · exact fun i f j g hi hf hj hg => hdis i f j g (by omega) hf (by omega) hg
        · intro i f hi hf hg
          obtain ⟨u, hu, hub⟩ := mv.src b ⟨i, f, by omega, hf, hg⟩
          exact (r.blk hts hbF).1 u hu hub
      · exact hk.elim
    · exact hk.elim
  · exact hk.elim

theorem reps_dead (n f : Nat) : (reps n (D.dead)).getD f .dead = .dead := by
  induction n generalizing f with
  | zero => rfl
  | succ n ih =>
    cases f with
    | zero => rfl
    | succ f => exact ih f
/-- Cells of one's own row are given away; the row keeps its place. -/
theorem Hs.holes {t sz : Nat} {α : Type} {enc : α → List D} {l : List α} (r : Hs C w E h) (ht : lookO h t = some (.row .own sz enc l)) {b p : Nat} (hγ : E.γ t = some (b, p)) :
    b < w.heap.size ∧ ∃ (vals : Nat → Nat → Value) (G : Nat → Nat → Nat → Prop), RowC w b p sz l.length vals ∧ (∀ i f, i < l.length → f < sz → Own w E.Kp (G i f) (vals i f) (dat enc l i f)) ∧
      (∀ i f j g, i < l.length → f < sz → j < l.length → g < sz → (i ≠ j ∨ f ≠ g) → ∀ x, G i f x → ¬ G j g x) ∧ (∀ i f, i < l.length → f < sz → ¬ G i f b) ∧ (∀ i f x, i < l.length → f < sz → G i f x → E.F t x) ∧ E.F t b ∧
      (∀ j, j < l.length * sz → w.frozen? ⟨b, p + j, none⟩ = false) ∧
      ∀ (l2 : List α) (X : Nat → Nat → Prop), l2.length = l.length → (∀ i f, i < l.length → f < sz → (X i f ∧ dat enc l2 i f = .dead) ∨ (¬ X i f ∧ dat enc l2 i f = dat enc l i f)) →
        ∃ E', E'.γ = E.γ ∧ E'.Kp = E.Kp ∧ E'.R = E.R ∧ Mv C w E h E' ((t, some (.row .own sz enc l2)) :: h) (fun x => ∃ i f, i < l.length ∧ f < sz ∧ X i f ∧ G i f x) := by
  have hts : (lookO h t).isSome = true := by rw [ht]; rfl
  obtain ⟨hz, hm, h3⟩ := r.ob t _ ht
  rw [hγ] at h3
  obtain ⟨hb, vals, hv, G, q1, q2, q3, q4, q5⟩ := h3
  have hGF : ∀ i f x, i < l.length → f < sz → G i f x → E.F t x := fun i f x hi hf hx => (q4 x).2 (.inr ⟨i, f, hi, hf, hx⟩)
  refine ⟨hb, vals, G, hv, q1, q2, q3, hGF, (q4 b).2 (.inl rfl), q5, fun l2 X hl hdat => ?_⟩
  let F' : Nat → Prop := fun x => x = b ∨ ∃ i f, i < l.length ∧ f < sz ∧ ¬ X i f ∧ G i f x
  have hF' : ∀ x, F' x → E.F t x := by
    rintro x (rfl | ⟨i, f, hi, hf, _, hx⟩)
    · exact (q4 x).2 (.inl rfl)
    · exact hGF i f x hi hf hx
  obtain ⟨r1, tr1⟩ := r.drop t
  obtain ⟨harr, _, hsub⟩ := back_harr (w' := w) (t := t) r1 tr1 (fun x => .inl rfl)
  have hfresh : Fresh C w E ((t, none) :: (t, none) :: h) F' := by
    intro x hx
    have hx' := hF' x hx
    exact ⟨(r.Fin t hts x hx').1, (r.Fin t hts x hx').2, (r.blk hts hx').2, fun v hv => (r.blk hts hx').1 v (by rw [lookO_twice] at hv; exact hv)⟩
  have hob : ObR w (E.set t (E.γ t) F') (lookO ((t, some (.row .own sz enc l2)) :: (t, none) :: h)) t (.row .own sz enc l2) := by
    refine ⟨hz, by rw [hl]; exact hm, ?_⟩
    rw [Env.set_γ, hγ]
    refine ⟨hb, vals, by rw [hl]; exact hv, fun i f x => ¬ X i f ∧ G i f x, fun i f hi hf => ?_, fun i f j g hi hf hj hg hne x hx hx' => ?_, fun i f hi hf hx => ?_, fun x => ?_, fun j hj => ?_⟩
    · rw [hl] at hi
      rcases hdat i f hi hf with ⟨e1, e2⟩ | ⟨e1, e2⟩
      · rw [e2]; exact .dead (q1 i f hi hf).one fun x hx => hx.1 e1
      · rw [e2]; exact (q1 i f hi hf).congr fun x => ⟨fun h => h.2, fun h => ⟨e1, h⟩⟩
    · rw [hl] at hi hj; exact q2 i f j g hi hf hj hg hne x hx.2 hx'.2
    · rw [hl] at hi; exact q3 i f hi hf hx.2
    · rw [Env.set_F, hl]
    · rw [hl] at hj; exact q5 j hj
  have hs := r.back (o := .row .own sz enc l2) r1 (Shape.refl w) ht rfl (by simp [Ob.len, hl]) id harr hfresh hob
  have hs2 := hs.look (lookO_twice t _ _ h)
  have hlk : ∀ u, u ≠ t → lookO ((t, some (.row .own sz enc l2)) :: h) u = lookO h u := fun u hu => by rw [lookO_cons, if_neg (Ne.symm hu)]
  have hlt : lookO ((t, some (.row .own sz enc l2)) :: h) t = some (.row .own sz enc l2) := by rw [lookO_cons, if_pos rfl]
  refine ⟨E.set t (E.γ t) F', ?_, rfl, rfl, ⟨hs2, ⟨fun u o' ho' => ?_, fun _ h => h, fun _ h => h, fun u x hu hx => ?_, fun _ h => .inl h, fun u o' hu hc => ?_⟩, ?_, fun u hu x hx hh => ?_, ?_⟩⟩
  · funext u
    by_cases e : u = t
    · subst e; exact Env.set_γ _ _ _ _
    · exact Env.set_γ' _ _ _ e
  · by_cases e : u = t
    · subst e; rw [hlt] at ho'; cases ho'
      exact ⟨_, ht, rfl, by simp [Ob.len, hl], id, Env.set_γ _ _ _ _⟩
    · rw [hlk u e] at ho'; exact ⟨o', ho', rfl, rfl, id, Env.set_γ' _ _ _ e⟩
  · by_cases e : u = t
    · subst e; exact hF' x ((Env.set_F _ _ _ _ x).1 hx)
    · exact (Env.set_F' _ _ _ e x).1 hx
  · by_cases e : u = t
    · subst e; rw [hlt] at hu; cases hu; cases hc
    · rw [hlk u e] at hu; exact hu
  · rintro x ⟨i, f, hi, hf, _, hx⟩; exact ⟨t, hts, hGF i f x hi hf hx⟩
  · obtain ⟨i, f, hi, hf, hX, hG⟩ := hh
    by_cases e : u = t
    · subst e
      rcases (Env.set_F _ _ _ _ x).1 hx with rfl | ⟨j, g, hj, hg, hnX, hG'⟩
      · exact q3 i f hi hf hG
      · by_cases e2 : i = j ∧ f = g
        · obtain ⟨rfl, rfl⟩ := e2; exact hnX hX
        · exact q2 i f j g hi hf hj hg (by omega) x hG hG'
    · rw [hlk u e] at hu
      exact r.dis u t e hu hts x ((Env.set_F' _ _ _ e x).1 hx) (hGF i f x hi hf hG)
  · rintro x ⟨i, f, hi, hf, _, hx⟩ hR; exact r.disR t hts x (hGF i f x hi hf hx) hR

/-- What is appended, as it is handed over. -/
theorem srcK_sound {V : Vm.V} {sz : Nat} {flat own : Bool} {K : List (List D) → Hp → Prop} {tx : TypeId} (r : Hs C w E h) (hv : VR w E (lookO h) V v) (htx : (∃ e', P.underlying tx = some (.slice e')) ∨ P.underlying tx = some .string)
    (hk : srcK fuel flat own h V sz K) :
    ∃ (ds : List (List D)) (h' : Hp) (E' : Env) (vals : Nat → Nat → Value) (G : Nat → Nat → Nat → Prop), K ds h' ∧ Mv C w E h E' h' (fun x => ∃ i f, i < ds.length ∧ f < sz ∧ G i f x) ∧ Src P sz tx v ds.length (flatV sz ds.length vals) w ∧
      (∀ i f, i < ds.length → f < sz → MvD own w E' (G i f) (vals i f) ((ds.getD i []).getD f .dead)) ∧
      ∀ i f j g, i < ds.length → f < sz → j < ds.length → g < sz → (i ≠ j ∨ f ≠ g) → ∀ x, G i f x → ¬ G j g x := by
  have flatC : ∀ {KK : List (List D) → Prop}, elsK (lookO h) V sz KK → (∀ ds, KK ds → K ds h) →
      ∃ (ds : List (List D)) (h' : Hp) (E' : Env) (vals : Nat → Nat → Value) (G : Nat → Nat → Nat → Prop), K ds h' ∧ Mv C w E h E' h' (fun x => ∃ i f, i < ds.length ∧ f < sz ∧ G i f x) ∧ Src P sz tx v ds.length (flatV sz ds.length vals) w ∧
      (∀ i f, i < ds.length → f < sz → MvD own w E' (G i f) (vals i f) ((ds.getD i []).getD f .dead)) ∧
      ∀ i f j g, i < ds.length → f < sz → j < ds.length → g < sz → (i ≠ j ∨ f ≠ g) → ∀ x, G i f x → ¬ G j g x := by
    intro KK hk hK
    obtain ⟨ds, vals, hk, hs, hfl⟩ := elsK_sound r.obs hk hv htx
    refine ⟨ds, h, E, vals, fun _ _ _ => False, hK ds hk, Mv.none r (Tr.refl E h) (fun x ⟨_, _, _, _, h⟩ => h), hs, fun i f hi hf => ?_, fun _ _ _ _ _ _ _ _ _ _ h => h.elim⟩
    rw [(hfl i f hi hf).1]; exact MvD.lf (hfl i f hi hf).2
  unfold srcK at hk
  split at hk
  · exact flatC (KK := fun ds => ds = []) rfl (fun ds h => h ▸ hk)
  · rename_i b
    split at hk
    · rename_i hsz
      exact flatC (KK := fun ds => ds = b.data.toList.map encB) (by simp only [elsK, hsz]) (fun ds h => h ▸ hk)
    · exact hk.elim
  · rename_i t cut
    split at hk
    · rename_i k sz' α enc l e
      split at hk
      · rename_i hsz
        obtain rfl := nbeq_eq hsz
        cases flat with
        | true =>
          exact flatC (KK := fun ds => ds = (cutL cut l).map enc) (by simp only [elsK, e]; rw [hsz]; exact ⟨hk.1, trivial⟩) (fun ds h => h ▸ hk.2)
        | false =>
          have hts : (lookO h t).isSome = true := by rw [e]; rfl
          obtain ⟨hz, hm, hr⟩ := r.ob t _ e
          have hs := hv.2 _ e
          simp only [Ob.sz, Ob.len] at hs
          cases own with
          | true =>
            cases k with
            | own =>
              cases cut with
              | none =>
                simp only at hk
                have hk := (show K ((cutL none l).map enc) ((t, none) :: h) from hk)
                generalize hcut : (none : Option (Nat × Nat)) = cut at hk hs
                obtain ⟨F', ho, hF'⟩ := own_slice hz hm (F := E.F t) (by
                  cases e1 : E.γ t with
                  | none => simp only [e1] at hr ⊢; exact hr
                  | some p => obtain ⟨b, o⟩ := p; simp only [e1] at hr ⊢; obtain ⟨q1, vals, q2, G, q3, q4, q5, q6, _⟩ := hr; exact ⟨q1, vals, q2, G, q3, q4, q5, q6⟩) hs
                obtain ⟨_, hm2, h3⟩ := ho.row_inv
                rcases h3 with ⟨e1, rfl, hF2⟩ | ⟨b, oo, c, rfl, hc, hcap, hb, vals, hvs, G, g1, g2, g3, g4⟩
                · rw [e1] at hk
                  refine ⟨[], _, E, fun _ _ => undef, fun _ _ _ => False, hk, Mv.none (r.drop t).1 (r.drop t).2 (fun x ⟨_, _, _, _, h⟩ => h), ?_, fun i f hi => by simp at hi, fun i f j g hi => by simp at hi⟩
                  have e0 : flatV sz' 0 (fun _ _ => undef) = [] := by simp [flatV]
                  rw [List.length_nil, e0]
                  exact ⟨htx, fun _ => rfl, run_firstCells_none w sz' 0 0 0, run_firstCells_none w.drew sz' 0 0 0, by simp, fun _ h => by cases h⟩
                · have hsrc : SlC w (.slice (some ⟨b, oo, none⟩) (cutL cut l).length c) sz' (cutL cut l).length vals := ⟨_, c, rfl, hc, hm2, (fun h => by cases h), fun ad h => by cases h; exact .inr ⟨b, oo, rfl, hvs⟩⟩
                  have hsrc' := hsrc.src htx (fun i f hi hf => (g1 i f hi hf).one)
                  refine ⟨_, _, E, vals, G, hk, ⟨(r.drop t).1, (r.drop t).2, ?_, ?_, ?_⟩, by rw [List.length_map]; exact hsrc', fun i f hi hf => ?_, fun i f j g hi hf hj hg => g2 i f j g (by simpa using hi) hf (by simpa using hj) hg⟩
                  · rintro x ⟨i, f, hi, hf, hx⟩; exact ⟨t, hts, hF' x ((g4 x).2 (.inr ⟨i, f, by simpa using hi, hf, hx⟩))⟩
                  · rintro u hu x hx ⟨i, f, hi, hf, hx'⟩; exact (r.blk hts (hF' x ((g4 x).2 (.inr ⟨i, f, by simpa using hi, hf, hx'⟩)))).1 u hu hx
                  · rintro x ⟨i, f, hi, hf, hx'⟩; exact (r.blk hts (hF' x ((g4 x).2 (.inr ⟨i, f, by simpa using hi, hf, hx'⟩)))).2
                  · rw [dat_map]; exact g1 i f (by simpa using hi) hf
              | some on =>
                obtain ⟨o, n⟩ := on
                obtain ⟨z, hzz, hk⟩ := hk
                cases e1 : E.γ t with
                | none =>
                  rw [e1] at hs
                  simp only [e1] at hr
                  obtain ⟨rfl, _⟩ := hr
                  obtain ⟨ab, rfl, hab, hcc⟩ := hs
                  obtain rfl : ab = none := hab rfl
                  obtain ⟨rfl, rfl⟩ : o = 0 ∧ n = 0 := by rcases hcc with h | h <;> cases h; exact ⟨rfl, rfl⟩
                  refine ⟨[], _, E, fun _ _ => undef, fun _ _ _ => False, hk, Mv.none (r.look ?_) ?_ (fun x ⟨_, _, _, _, h⟩ => h), ?_, fun i f hi => by simp at hi, fun i f j g hi => by simp at hi⟩
                  · funext u; rw [lookO_cons]; split
                    · rename_i e2; subst e2; exact e
                    · rfl
                  · have e2 : lookO ((t, some (.row .own sz' enc (([] : List α).take 0 ++ List.replicate 0 z ++ ([] : List α).drop (0 + 0)))) :: h) = lookO h := by
                      funext u; rw [lookO_cons]; split
                      · rename_i e2; subst e2; exact e.symm
                      · rfl
                    exact ⟨fun u => by rw [e2]; exact Sub.refl E _ u, fun _ h => h, fun _ h => h, fun u x _ hx => hx, fun _ h => .inl h, fun u o' hu _ => by rw [e2] at hu; exact hu⟩
                  · have e0 : flatV sz' 0 (fun _ _ => undef) = [] := by simp [flatV]
                    rw [List.length_nil, e0]
                    exact ⟨htx, fun _ => rfl, run_firstCells_none w sz' 0 0 0, run_firstCells_none w.drew sz' 0 0 0, by simp, fun _ h => by cases h⟩
                | some bp =>
                  obtain ⟨b, p⟩ := bp
                  rw [e1] at hs
                  obtain ⟨off, m, oo, c, h1, h2, h3, h4, rfl, h6⟩ := hs
                  obtain ⟨rfl, rfl⟩ : off = o ∧ m = n := by
                    rcases h1 with ⟨h1, _⟩ | h1
                    · cases h1
                    · cases h1; exact ⟨rfl, rfl⟩
                  obtain ⟨hb, vals, G, g1, g2, g3, g4, g5, g6, g7, g8⟩ := r.holes e e1
                  have hdl : (l.take off ++ List.replicate m z ++ l.drop (off + m)).length = l.length := by simp; omega
                  obtain ⟨E', a1, a2, a3, mv⟩ := g8 (l.take off ++ List.replicate m z ++ l.drop (off + m)) (fun i f => off ≤ i ∧ i < off + m) hdl (fun i f hi hf => by
                    by_cases hX : off ≤ i ∧ i < off + m
                    · refine .inl ⟨hX, ?_⟩
                      unfold dat
                      rw [show (l.take off ++ List.replicate m z ++ l.drop (off + m))[i]? = some z by
                        rw [List.getElem?_append_left (by simp; omega), List.getElem?_append_right (by simp; omega), List.getElem?_replicate, if_pos (by simp; omega)]]
                      simp only [hzz]
                      exact reps_dead sz' f
                    · refine .inr ⟨hX, ?_⟩
                      unfold dat
                      rw [show (l.take off ++ List.replicate m z ++ l.drop (off + m))[i]? = l[i]? by
                        by_cases hlt : i < off
                        · rw [List.getElem?_append_left (by simp; omega), List.getElem?_append_left (by simp; omega), List.getElem?_take, if_pos hlt]
                        · rw [List.getElem?_append_right (by simp; omega), List.getElem?_drop]
                          congr 1; simp; omega])
                  have hlen : ((l.drop off).take m).length = m := by simp; omega
                  have hvr : RowC w b oo sz' m fun i f => vals (off + i) f := by
                    intro i f hi hf
                    rcases h4 with rfl | rfl
                    · omega
                    · have := g1 (off + i) f (by omega) hf
                      rw [← this]; congr 2; rw [Nat.add_mul]; omega
                  have hsl : SlC w (.slice (some ⟨b, oo, none⟩) m c) sz' m fun i f => vals (off + i) f := ⟨_, c, rfl, by omega, by omega, (fun h => by cases h), fun ad h => by cases h; exact .inr ⟨b, oo, rfl, hvr⟩⟩
                  have hsrc := hsl.src htx (fun i f hi hf => (g2 (off + i) f (by omega) hf).one)
                  have e2 : (((l.drop off).take m).map enc).length = m := by rw [List.length_map]; exact hlen
                  refine ⟨_, _, E', fun i f => vals (off + i) f, fun i f => G (off + i) f, hk, ?_, by rw [e2]; exact hsrc, fun i f hi hf => ?_, fun i f j g hi hf hj hg hne => ?_⟩
                  · rw [e2]
                    have e3 : (fun x => ∃ i f, i < m ∧ f < sz' ∧ G (off + i) f x) = fun x => ∃ i f, i < l.length ∧ f < sz' ∧ (off ≤ i ∧ i < off + m) ∧ G i f x := by
                      funext x
                      refine propext ⟨fun ⟨i, f, a, b, c⟩ => ⟨off + i, f, by omega, b, by omega, c⟩, fun ⟨i, f, a, b, c, d⟩ => ⟨i - off, f, by omega, b, by rw [show off + (i - off) = i by omega]; exact d⟩⟩
                    rw [e3]; exact mv
                  · rw [e2] at hi
                    have e3 : ((((l.drop off).take m).map enc).getD i []).getD f .dead = dat enc l (off + i) f := by
                      have hi' : off + i < l.length := by omega
                      unfold dat
                      rw [List.getElem?_eq_getElem hi']
                      simp [List.getD_eq_getElem?_getD, hi, hi', List.getElem?_take, List.getElem?_drop]
                    rw [e3]
                    show Own w E'.Kp _ _ _
                    rw [a2]; exact g2 (off + i) f (by omega) hf
                  · rw [e2] at hi hj; exact g3 (off + i) f (off + j) g (by omega) hf (by omega) hg (by omega)
            | mix => exact hk.elim
            | ro => exact hk.elim
            | lent => exact hk.elim
          | false =>
            have done : ∀ {E2 : Env} {h2 : Hp}, K ((cutL cut l).map enc) h2 → Hs C w E2 h2 → Tr E h E2 h2 → Ro w E2.Kp v (.row sz' enc (cutL cut l)) →
                ∃ (ds : List (List D)) (h' : Hp) (E' : Env) (vals : Nat → Nat → Value) (G : Nat → Nat → Nat → Prop), K ds h' ∧ Mv C w E h E' h' (fun x => ∃ i f, i < ds.length ∧ f < sz' ∧ G i f x) ∧ Src P sz' tx v ds.length (flatV sz' ds.length vals) w ∧
                (∀ i f, i < ds.length → f < sz' → MvD false w E' (G i f) (vals i f) ((ds.getD i []).getD f .dead)) ∧
                ∀ i f j g, i < ds.length → f < sz' → j < ds.length → g < sz' → (i ≠ j ∨ f ≠ g) → ∀ x, G i f x → ¬ G j g x := by
              intro E2 h2 hk r2 tr2 hro
              obtain ⟨_, hm2, h3⟩ := hro.row_inv
              have mk : ∀ vals, SlC w v sz' (cutL cut l).length vals → (∀ i f, i < (cutL cut l).length → f < sz' → Ro w E2.Kp (vals i f) (dat enc (cutL cut l) i f)) → _ := fun vals hsl hr => by
                refine (⟨_, h2, E2, vals, fun _ _ _ => False, hk, Mv.none r2 tr2 (fun x ⟨_, _, _, _, h⟩ => h), by rw [List.length_map]; exact hsl.src htx (fun i f hi hf => (hr i f hi hf).one), fun i f hi hf => ?_, fun _ _ _ _ _ _ _ _ _ _ h => h.elim⟩ :
                  ∃ (ds : List (List D)) (h' : Hp) (E' : Env) (vals : Nat → Nat → Value) (G : Nat → Nat → Nat → Prop), K ds h' ∧ Mv C w E h E' h' (fun x => ∃ i f, i < ds.length ∧ f < sz' ∧ G i f x) ∧ Src P sz' tx v ds.length (flatV sz' ds.length vals) w ∧
                  (∀ i f, i < ds.length → f < sz' → MvD false w E' (G i f) (vals i f) ((ds.getD i []).getD f .dead)) ∧
                  ∀ i f j g, i < ds.length → f < sz' → j < ds.length → g < sz' → (i ≠ j ∨ f ≠ g) → ∀ x, G i f x → ¬ G j g x)
                rw [dat_map]; exact Ro.toMv (hr i f (by simpa using hi) hf)
              rcases h3 with ⟨e1, ab, rfl⟩ | ⟨b, oo, c, rfl, hc, hcap, hb, hR, vals, hvs, hro2⟩
              · exact mk (fun _ _ => undef) ⟨ab, 0, by rw [e1]; rfl, by rw [e1]; simp, hm2, fun _ => by rw [e1]; simp, fun ad h => .inl (by rw [e1]; rfl)⟩ (fun i f hi => by rw [e1] at hi; simp at hi)
              · exact mk vals ⟨_, c, rfl, hc, hm2, (fun h => by cases h), fun ad h => by cases h; exact .inr ⟨b, oo, rfl, hvs⟩⟩ hro2
            cases k with
            | lent => exact hk.elim
            | own =>
              obtain ⟨r2, tr2⟩ := r.toRo e (by simp)
              exact done hk r2 tr2 (ro_of_row r2 (t := t) (by rw [lookO_cons, if_pos rfl]) hs)
            | ro => exact done hk r (Tr.refl E h) (ro_of_row r e hs)
            | mix =>
              -- the cells are read one by one: they are read for good, the row itself is not
              cases e1 : E.γ t with
              | none =>
                simp only [e1] at hr hs
                obtain ⟨rfl, hF⟩ := hr
                obtain ⟨ab, rfl, hab, hcc⟩ := hs
                obtain rfl : ab = none := hab rfl
                have e0 : cutL cut ([] : List α) = [] := by rcases hcc with rfl | rfl <;> simp [cutL]
                rw [e0] at hk
                refine ⟨[], h, E, fun _ _ => undef, fun _ _ _ => False, hk, Mv.none r (Tr.refl E h) (fun x ⟨_, _, _, _, h⟩ => h), ?_, fun i f hi => by simp at hi, fun i f j g hi => by simp at hi⟩
                have e0 : flatV sz' 0 (fun _ _ => undef) = [] := by simp [flatV]
                rw [List.length_nil, e0]
                exact ⟨htx, fun _ => rfl, run_firstCells_none w sz' 0 0 0, run_firstCells_none w.drew sz' 0 0 0, by simp, fun _ h => by cases h⟩
              | some bp =>
                obtain ⟨b, p⟩ := bp
                simp only [e1] at hr hs
                obtain ⟨hb, vals, hvs, h4⟩ := hr
                obtain ⟨off, n, oo, c, h1, h2, h3, h5, rfl, h6⟩ := hs
                have hlen := cutL_len h1 h2
                have hvr : RowC w b oo sz' (cutL cut l).length fun i f => vals (off + i) f := by
                  intro i f hi hf
                  rw [hlen] at hi
                  rcases h5 with rfl | rfl
                  · omega
                  · have := hvs (off + i) f (by omega) hf
                    rw [← this]; congr 2; rw [Nat.add_mul]; omega
                have hsl : SlC w (.slice (some ⟨b, oo, none⟩) n c) sz' (cutL cut l).length fun i f => vals (off + i) f := ⟨_, c, by rw [hlen], by omega, by omega, (fun h => by cases h), fun ad h => by cases h; exact .inr ⟨b, oo, rfl, hvr⟩⟩
                have hro : ∀ i f, i < (cutL cut l).length → f < sz' → Ro w E.Kp (vals (off + i) f) (dat enc (cutL cut l) i f) := by
                  intro i f hi hf
                  rw [hlen] at hi
                  rw [dat_cut h1 h2 i f hi]; exact h4.1 (off + i) f (by omega) hf
                refine ⟨_, h, E, fun i f => vals (off + i) f, fun _ _ _ => False, hk, Mv.none r (Tr.refl E h) (fun x ⟨_, _, _, _, h⟩ => h), by rw [List.length_map]; exact hsl.src htx (fun i f hi hf => (hro i f hi hf).one), fun i f hi hf => ?_, fun _ _ _ _ _ _ _ _ _ _ h => h.elim⟩
                rw [dat_map]; exact Ro.toMv (hro i f (by simpa using hi) hf)
      · exact hk.elim
    · rename_i sz' els e
      split at hk
      · rename_i hsz
        obtain rfl := nbeq_eq hsz
        have hts : (lookO h t).isSome = true := by rw [e]; rfl
        obtain ⟨h0, b, o, e1, hb, hz, ⟨vals, hc, hr⟩, hF, hfr⟩ := r.ob t _ e
        have hs := hv.2 _ e
        simp only [Ob.sz, Ob.len, e1] at hs
        obtain ⟨off, m, oo, c, h1, h2, h3, h4, rfl, h6⟩ := hs
        obtain ⟨r1, tr1⟩ := r.drop t
        obtain ⟨ds, h', E', G, hk2, mv, hl, _, hd, hdis⟩ := mvEls_sound fuel own E ((t, none) :: h) sz' (cutL cut els) (fun i f => vals (off + i) f) _ r1
          (fun e he => hz e (by revert he; cases cut <;> simp [cutL]; intro he; exact List.mem_of_mem_drop (List.mem_of_mem_take he)))
          (fun i f hi hf => by
            rw [cutL_len h1 h2] at hi
            have := hr (off + i) f (by omega) hf
            rw [show (cutL cut els).getD i [] = els.getD (off + i) [] by simp only [List.getD_eq_getElem?_getD]; rw [cutL_get h1 h2 i hi]]
            exact ⟨VR.mono (Shape.refl w) _ _ (fun u _ => tr1.sub u) this.1, this.2⟩) hk
        have hlm : (cutL cut els).length = m := cutL_len h1 h2
        have hvr : RowC w b oo sz' m fun i f => vals (off + i) f := by
          intro i f hi hf
          rcases h4 with rfl | rfl
          · omega
          · have := hc (off + i) f (by omega) hf
            rw [← this]; congr 2; rw [Nat.add_mul]; omega
        have hsl : SlC w (.slice (some ⟨b, oo, none⟩) m c) sz' m fun i f => vals (off + i) f := ⟨_, c, rfl, by omega, by omega, (fun h => by cases h), fun ad h => by cases h; exact .inr ⟨b, oo, rfl, hvr⟩⟩
        have mvt := Mv.none (C := C) (w := w) (F := fun _ => False) r1 tr1 (fun _ h => h)
        have mv2 := (mvt.trans mv).1
        refine ⟨ds, h', E', fun i f => vals (off + i) f, G, hk2, ⟨mv2.hs, mv2.tr, fun x hx => mv2.src x (.inr (by rw [← hl]; exact hx)), fun u hu x hx hh => mv2.disF u hu x hx (.inr (by rw [← hl]; exact hh)), fun x hx => mv2.disR x (.inr (by rw [← hl]; exact hx))⟩, ?_,
          fun i f hi hf => hd i f (by omega) hf, fun i f j g hi hf hj hg => hdis i f j g (by omega) hf (by omega) hg⟩
        rw [hl, hlm]
        exact hsl.src htx (fun i f hi hf => (hr (off + i) f (by omega) hf).2)
      · exact hk.elim
    · exact hk.elim
  · exact hk.elim
end
end Go.Vm
