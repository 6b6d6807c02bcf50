/- A verified evaluator for Go code: handing over is sound. -/
import Derived.Test.YtedffkngbjlgdaaGreatDoorVm1d
namespace Go.Vm
open Go.RowKit
set_option linter.unusedVariables false
set_option linter.unusedSimpArgs false

theorem VRs.vals {w : World} {E : Env} {g : Nat → Option Ob} {e : List V} {sz : Nat} {vals : Nat → Value} (hez : e.length = sz)
    (h : ∀ f, f < sz → VR w E g (e.getD f .dead) (vals f)) : VRs w E g e ((List.range sz).map vals) :=
  VRs.mk (by simp [hez]) fun f x hx => by
    by_cases hf : f < sz
    · simp [hf] at hx; subst hx; exact h f hf
    · simp [hf] at hx

theorem range_one {sz : Nat} {vals : Nat → Value} (h : ∀ f, f < sz → (vals f).oneCell' = true) : ∀ x ∈ (List.range sz).map vals, x.oneCell' = true := by
  intro x hx
  simp only [List.mem_map, List.mem_range] at hx
  obtain ⟨f, hf, rfl⟩ := hx
  exact h f hf

theorem Hs.dropIf {C : Ctx} {E : Env} {h : Hp} {w : World} (r : Hs C w E h) {t : Nat} (ht : (lookO h t).isSome = true) (own : Bool) :
    ∃ E', Hs C w E' ((t, none) :: h) ∧ Tr E h E' ((t, none) :: h) ∧ E'.γ = E.γ ∧ (own = true → E' = E) ∧ (own = false → ∀ x, E.F t x → E'.Kp x) := by
  cases own with
  | true => exact ⟨E, (r.drop t).1, (r.drop t).2, rfl, fun _ => rfl, fun h => by cases h⟩
  | false => exact ⟨E.freeze t, (r.freeze t ht).1, (r.freeze t ht).2, rfl, (fun h => by cases h), fun _ x hx => .inr hx⟩

theorem Own.recode {w : World} {K F : Nat → Prop} {v : Value} {sz : Nat} {α β : Type} {enc : α → List D} {enc' : β → List D} {l : List α} {l' : List β}
    (h : Own w K F v (.row sz enc l)) (hz' : ∀ a, (enc' a).length = sz) (hm : l'.map enc' = l.map enc) : Own w K F v (.row sz enc' l') := by
  have hlen : l'.length = l.length := by have := congrArg List.length hm; simpa using this
  have hd : ∀ i f, i < l.length → dat enc' l' i f = dat enc l i f := fun i f hi => by
    have h1 := congrArg (fun m => m[i]?) hm
    simp only [List.getElem?_map] at h1
    rw [List.getElem?_eq_getElem hi, List.getElem?_eq_getElem (by omega)] at h1
    simp only [Option.map_some, Option.some.injEq] at h1
    unfold dat
    rw [List.getElem?_eq_getElem hi, List.getElem?_eq_getElem (by omega)]
    simp only [h1]
  cases h with
  | nil hz hF =>
    have : l' = [] := List.length_eq_zero_iff.1 hlen
    subst this
    exact .nil hz' hF
  | row vals G hn hb hc hm2 hcap hz hv hr hd2 hg hF =>
    exact .row vals G (hn.trans hlen.symm) hb hc hm2 hcap hz' hv (fun i f hi hf => by rw [hd i f (by omega)]; exact hr i f hi hf) hd2 hg hF

mutual
theorem mvD_sound {C : Ctx} {w : World} : ∀ (n : Nat) (own : Bool) (E : Env) (h : Hp) (V : V) (v : Value) (K : D → Hp → Prop), Hs C w E h → VR w E (lookO h) V v → mvD n own h V K →
    ∃ d h' E' F, K d h' ∧ Mv C w E h E' h' F ∧ MvD own w E' F v d
  | 0, _, _, _, _, _, _, _, _, hk => by simp [mvD] at hk
  | n + 1, own, E, h, .lf u, v, K, r, hv, hk => by
    obtain ⟨rfl, hu⟩ := hv
    by_cases e : v = .slice none 0 0
    · subst e
      obtain ⟨sz, α, enc, hz, hk⟩ := hk
      refine ⟨_, h, E, fun _ => False, hk, Mv.refl r, ?_⟩
      cases own with
      | true => exact Own.nil hz fun _ h => h
      | false => exact ⟨Ro.nil hz, fun _ h => h⟩
    · have hk' : K (.lf v) h := by
        revert hk; unfold mvD
        split <;> intro hk
        all_goals first | exact hk.elim | exact absurd rfl e | skip
        all_goals first | (rename_i h1; simp at h1) | skip
        all_goals simp_all
      exact ⟨_, h, E, fun _ => False, hk', Mv.refl r, MvD.lf hu⟩
  | n + 1, _, _, _, .dead, v, K, _, _, hk => by simp [mvD] at hk
  | n + 1, _, _, _, .agg _, v, K, _, _, hk => by simp [mvD] at hk
  | n + 1, _, _, _, .tup _, v, K, _, _, hk => by simp [mvD] at hk
  | n + 1, own, E, h, .fn f cs, v, K, r, hv, hk => by
    cases cs with
    | nil =>
      simp only [mvD] at hk
      obtain ⟨vs, rfl, h2, h3⟩ := hv
      obtain rfl : vs = [] := h2
      refine ⟨_, h, E, fun _ => False, hk, Mv.refl r, ?_⟩
      cases own with
      | true => exact Own.fn fun _ h => h
      | false => exact ⟨Ro.fn [] rfl (fun i hi => by simp at hi), fun _ h => h⟩
    | cons c cs => simp [mvD] at hk
  | n + 1, own, E, h, .pt t i f, v, K, r, hv, hk => by
    cases i with
    | succ i => simp [mvD] at hk
    | zero => cases f with
      | succ f => simp [mvD] at hk
      | zero =>
        simp only [mvD] at hk
        split at hk
        · rename_i sz cs e
          have hts : (lookO h t).isSome = true := by rw [e]; rfl
          obtain ⟨h0, b, o, e1, hb, hz, ⟨vals, hc, hr⟩, hF, hfr⟩ := r.ob t _ e
          obtain ⟨b', p, e2, rfl⟩ := hv.2 _ e
          rw [e1] at e2; cases e2
          obtain ⟨E1, r1, tr1, hγ, hE1, hE2⟩ := r.dropIf hts own
          have hcs : cs.length = sz := hz cs (by simp)
          obtain ⟨ds, h', E', G, hk2, mv, hl, hd, hdis⟩ := mvDs_sound n own E1 ((t, none) :: h) cs ((List.range sz).map fun f => vals 0 f) _ r1
            (VRs.vals hcs fun f hf => VR.mono (Shape.refl w) _ _ (fun u _ => tr1.sub u) (by simpa using (hr 0 f (by simp) hf).1)) (range_one fun f hf => (hr 0 f (by simp) hf).2) hk
          have hbF : E.F t b := (hF b).2 rfl
          have hcell : ∀ f, f < ds.length → w.cell? ⟨b, o + (0 * (Ob.arr true sz [cs]).sz + 0) + f, none⟩ = some (vals 0 f) := by
            intro f hf
            have := hc 0 f (by simp) (by omega)
            rw [← this]; congr 2; omega
          have hGb : ∀ f, f < ds.length → own = true → ¬ G f b := by
            intro f hf ho hg
            obtain ⟨u, hu, hub⟩ := mv.src b ⟨f, by omega, hg⟩
            rw [hE1 ho] at hub
            exact (r.blk hts hbF).1 u hu hub
          cases own with
          | true =>
            have hE : E1 = E := hE1 rfl
            subst hE
            have mv' := (Mv.trans (C := C) (w := w) (E1 := E1) (E2 := E1) (h1 := h) (h2 := (t, none) :: h) (F := fun x => x = b) (h3 := h') (E3 := E') (G := fun x => ∃ i, i < cs.length ∧ G i x)
              ⟨r1, tr1, fun x hx => ⟨t, hts, hx ▸ hbF⟩, fun u hu x hx hh => (r.blk hts hbF).1 u hu (hh ▸ hx), fun x hx => hx ▸ (r.blk hts hbF).2⟩ mv).1
            refine ⟨_, h', E', _, hk2, mv', Own.box (fun f => vals 0 f) G hb hcell (fun f hf => ?_) (fun f hf => ?_) (fun f g hf hg hne => hdis f g (by omega) (by omega) hne) (fun f hf => hGb f hf rfl) (fun x => by rw [hl])⟩
            · have := hfr f (by simp; omega)
              rw [← this]; congr 2; omega
            · have hf' : f < sz := by omega
              have := hd f (by omega)
              simpa [hf', MvD] using this
          | false =>
            refine ⟨_, h', E', fun _ => False, hk2, Mv.none mv.hs (tr1.trans mv.tr) (fun _ h => h), Ro.toMv (Ro.box (fun f => vals 0 f) (mv.tr.K b (hE2 rfl b hbF)) hb hcell (fun f hf => ?_))⟩
            have hf' : f < sz := by omega
            have := (hd f (by omega)).1
            simpa [hf'] using this
        · exact ⟨_, h, E, _, hk, Mv.refl r, MvD.dead (by obtain ⟨⟨ad, rfl⟩, _⟩ := hv; rfl)⟩
        · exact hk.elim
  | n + 1, own, E, h, .sl t cut, v, K, r, hv, hk => by
    simp only [mvD] at hk
    split at hk
    · rename_i k sz α enc l e
      have hts : (lookO h t).isSome = true := by rw [e]; rfl
      cases own with
      | true =>
        cases k with
        | own =>
          simp only at hk
          obtain ⟨hz, hm, hr⟩ := r.ob t _ e
          obtain ⟨F', ho, hF'⟩ := own_slice hz hm (F := E.F t) (by
            cases e1 : E.γ t with
            | none => simp only [e1] at hr ⊢; exact hr
            | some p => obtain ⟨b, o⟩ := p; simp only [e1] at hr ⊢; obtain ⟨q1, vals, q2, G, q3, q4, q5, q6, _⟩ := hr; exact ⟨q1, vals, q2, G, q3, q4, q5, q6⟩) (hv.2 _ e)
          have mv : Mv C w E h E ((t, none) :: h) F' := ⟨(r.drop t).1, (r.drop t).2, fun x hx => ⟨t, hts, hF' x hx⟩, fun u hu x hx hh => (r.blk hts (hF' x hh)).1 u hu hx, fun x hx => (r.blk hts (hF' x hx)).2⟩
          cases cut with
          | none => exact ⟨_, (t, none) :: h, E, F', hk, mv, ho⟩
          | some c =>
            obtain ⟨β, enc', l', hz', hm', hk⟩ := hk
            exact ⟨_, (t, none) :: h, E, F', hk, mv, ho.recode hz' hm'⟩
        | mix => exact hk.elim
        | ro => exact ⟨_, h, E, _, hk, Mv.refl r, Own.sh (ro_of_row r e (hv.2 _ e)) fun _ h => h⟩
        | lent => exact hk.elim
      | false =>
        have hkl : k ≠ .lent := by rintro rfl; exact hk.elim
        have hk' : K (.row sz enc (cutL cut l)) ((t, some (.row .ro sz enc l)) :: h) := by cases k <;> first | exact hk | exact absurd rfl hkl
        obtain ⟨r1, tr1⟩ := r.toRo e hkl
        refine ⟨_, _, E.freeze t, fun _ => False, hk', Mv.none r1 tr1 (fun _ h => h), Ro.toMv (ro_of_row r1 (t := t) (by rw [lookO_cons, if_pos rfl]) (hv.2 _ e))⟩
    · rename_i sz els e
      have hts : (lookO h t).isSome = true := by rw [e]; rfl
      obtain ⟨h0, b, o, e1, hb, hz, ⟨vals, hc, hr⟩, hF, hfr⟩ := r.ob t _ e
      have hs := hv.2 _ e
      simp only [Ob.sz, Ob.len, e1] at hs
      obtain ⟨off, m, oo, c, h1, h2, h3, h4, rfl, h6⟩ := hs
      obtain ⟨E1, r1, tr1, hγ, hE1, hE2⟩ := r.dropIf hts own
      obtain ⟨ds, h', E', G, ⟨α, enc, l, hz', rfl, hk2⟩, mv, hl, _, hd, hdis⟩ := mvEls_sound n own E1 ((t, none) :: h) sz (cutL cut els) (fun i f => vals (off + i) f) _ r1
        (fun e he => hz e (by revert he; cases cut <;> simp [cutL]; intro he; exact List.mem_of_mem_drop (List.mem_of_mem_take he)))
        (fun i f hi hf => by
          rw [cutL_len h1 h2] at hi
          have := hr (off + i) f (by omega) hf
          rw [show (cutL cut els).getD i [] = els.getD (off + i) [] by simp only [List.getD_eq_getElem?_getD]; rw [cutL_get h1 h2 i hi]]
          exact ⟨VR.mono (Shape.refl w) _ _ (fun u _ => tr1.sub u) this.1, this.2⟩) hk
      have hlm : (cutL cut els).length = m := cutL_len h1 h2
      have hlen : l.length = m := by rw [← hlm, ← hl]; simp
      have hbF : E.F t b := (hF b).2 rfl
      have hcell : ∀ i f, i < m → f < sz → w.cell? ⟨b, oo + (i * sz + f), none⟩ = some (vals (off + i) f) := by
        intro i f hi hf
        rcases h4 with rfl | rfl
        · omega
        · have := hc (off + i) f (by omega) hf
          rw [← this]; congr 2; rw [Nat.add_mul]; omega
      have hdat : ∀ i f, i < m → ((l.map enc).getD i []).getD f .dead = dat enc l i f := by
        intro i f hi
        unfold dat
        have hi' : i < l.length := by omega
        simp [hi']
      cases own with
      | true =>
        have hE : E1 = E := hE1 rfl
        subst hE
        have mv' := (Mv.trans (C := C) (w := w) (E1 := E1) (E2 := E1) (h1 := h) (h2 := (t, none) :: h) (F := fun x => x = b) (h3 := h') (E3 := E') (G := fun x => ∃ i f, i < (cutL cut els).length ∧ f < sz ∧ G i f x)
          ⟨r1, tr1, fun x hx => ⟨t, hts, hx ▸ hbF⟩, fun u hu x hx hh => (r.blk hts hbF).1 u hu (hh ▸ hx), fun x hx => hx ▸ (r.blk hts hbF).2⟩ mv).1
        refine ⟨_, h', E', _, hk2, mv', Own.row (fun i f => vals (off + i) f) G hlen.symm hb h3 (by omega) (fun j hj => ⟨(h6 j hj).1, (h6 j hj).2 rfl⟩) hz' hcell (fun i f hi hf => ?_)
          (fun i f j g hi hf hj hg => hdis i f j g (by omega) hf (by omega) hg) (fun i f hi hf hg => ?_) (fun x => by rw [hlm])⟩
        · have := hd i f (by omega) hf
          rw [hdat i f hi] at this; exact this
        · obtain ⟨u, hu, hub⟩ := mv.src b ⟨i, f, by omega, hf, hg⟩
          exact (r.blk hts hbF).1 u hu hub
      | false =>
        refine ⟨_, h', E', fun _ => False, hk2, Mv.none mv.hs (tr1.trans mv.tr) (fun _ h => h), Ro.toMv (Ro.row (fun i f => vals (off + i) f) hlen.symm (mv.tr.K b (hE2 rfl b hbF)) hb h3 (by omega) (fun j hj => (h6 j hj).1) hz' hcell (fun i f hi hf => ?_))⟩
        have := (hd i f (by omega) hf).1
        rw [hdat i f hi] at this; exact this
    · rename_i sz α enc l j cs eo
      cases own with
      | false => exact hk.elim
      | true =>
      cases cut with
      | some _ => exact hk.elim
      | none =>
      have hts : (lookO h t).isSome = true := by rw [eo]; rfl
      obtain ⟨hz, hm, hj, hcl, b, p, eγ, hb, vals, hv2, hr, G, q1, q2, q3, q4, q5⟩ := r.ob t _ eo
      have hs := hv.2 _ eo
      simp only [Ob.sz, Ob.len, eγ] at hs
      obtain ⟨off, m, oo, c, h1, h2, h3, h4, rfl, h6⟩ := hs
      obtain ⟨rfl, rfl⟩ : off = 0 ∧ m = l.length := by
        rcases h1 with ⟨_, a, b⟩ | h1
        · exact ⟨a, b⟩
        · cases h1
      obtain ⟨r1, tr1⟩ := r.drop t
      have hbF : E.F t b := (q4 b).2 (.inl rfl)
      have hvr : VRs w E (lookO ((t, none) :: h)) cs ((List.range sz).map fun f => vals j f) := VRs.mk (by simp [hcl]) fun f x hx => by
        simp only [List.getElem?_map] at hx
        by_cases hf : f < sz
        · rw [List.getElem?_range hf] at hx; simp at hx; subst hx
          exact VR.mono (Shape.refl w) _ _ (fun u _ => tr1.sub u) (hr f hf).1
        · rw [List.getElem?_eq_none (by simpa using hf)] at hx; cases hx
      obtain ⟨ds, h', E1, Gm, ⟨y', hy', hk⟩, mv, hl, hd, hdis⟩ := mvDs_sound n true E ((t, none) :: h) cs _ _ r1 hvr (fun x hx => by
        obtain ⟨f, hf⟩ := List.getElem?_of_mem hx
        simp only [List.getElem?_map] at hf
        by_cases hlt : f < sz
        · rw [List.getElem?_range hlt] at hf; simp at hf; subst hf; exact (hr f hlt).2
        · rw [List.getElem?_eq_none (by simpa using hlt)] at hf; cases hf) hk
      have hGmu : ∀ f x, f < sz → Gm f x → ¬ E.F t x := fun f x hf hx hF => by
        obtain ⟨u, hu, hub⟩ := mv.src x ⟨f, by omega, hx⟩
        exact (r.blk hts hF).1 u hu hub
      have mv' := (Mv.trans (C := C) (w := w) (E1 := E) (E2 := E) (h1 := h) (h2 := (t, none) :: h) (F := E.F t) (h3 := h') (E3 := E1) (G := fun x => ∃ f, f < cs.length ∧ Gm f x)
        ⟨r1, tr1, fun x hx => ⟨t, hts, hx⟩, fun u hu x hx hh => (r.blk hts hh).1 u hu hx, fun x hx => (r.blk hts hx).2⟩ mv).1
      let G' : Nat → Nat → Nat → Prop := fun i f => if i = j then Gm f else G i f
      have hG'j : ∀ f, G' j f = Gm f := fun f => if_pos rfl
      have hG'n : ∀ i f, i ≠ j → G' i f = G i f := fun i f hne => if_neg hne
      have hGF : ∀ i f x, i < l.length → f < sz → i ≠ j → G i f x → E.F t x := fun i f x hi hf hne hx => (q4 x).2 (.inr ⟨i, f, hi, hf, hne, hx⟩)
      refine ⟨_, h', E1, _, hk, mv', Own.row (sz := sz) (enc := enc) (l := l.set j y') vals G' (by rw [List.length_set]) hb h3 (by omega) (fun k hk => ⟨(h6 k hk).1, (h6 k hk).2 rfl⟩) hz (fun i f hi hf => ?_) (fun i f hi hf => ?_) (fun i f i' g hi hf hi' hg hne x hx hx' => ?_) (fun i f hi hf hx => ?_) (fun x => ?_)⟩
      · rcases h4 with rfl | rfl
        · omega
        · have := hv2 i f hi hf
          rw [← this]; congr 2; omega
      · by_cases e : i = j
        · subst e
          rw [hG'j]
          have h5 := hd f (by omega)
          rw [show dat enc (l.set i y') i f = ds.getD f .dead by unfold dat; rw [List.getElem?_set_self hi]; simp only [hy']]
          have h6 : ((List.range sz).map fun f => vals i f).getD f undef = vals i f := by simp [hf]
          rw [h6] at h5; exact h5
        · rw [hG'n i f e]
          rw [show dat enc (l.set j y') i f = dat enc l i f by unfold dat; rw [List.getElem?_set_ne (Ne.symm e)]]
          exact (q1 i f hi hf e).mono mv.tr.K
      · by_cases e : i = j
        · by_cases e' : i' = j
          · subst e; subst e'
            rw [hG'j] at hx hx'
            exact hdis f g (by omega) (by omega) (by omega) x hx hx'
          · subst e
            rw [hG'j] at hx; rw [hG'n i' g e'] at hx'
            exact hGmu f x hf hx (hGF i' g x hi' hg e' hx')
        · by_cases e' : i' = j
          · subst e'
            rw [hG'n i f e] at hx; rw [hG'j] at hx'
            exact hGmu g x hg hx' (hGF i f x hi hf e hx)
          · rw [hG'n i f e] at hx; rw [hG'n i' g e'] at hx'
            exact q2 i f i' g hi hf e hi' hg e' hne x hx hx'
      · by_cases e : i = j
        · subst e; rw [hG'j] at hx; exact hGmu f b hf hx hbF
        · rw [hG'n i f e] at hx; exact q3 i f hi hf e hx
      · constructor
        · rintro (hx | ⟨f, hf, hx⟩)
          · rcases (q4 x).1 hx with rfl | ⟨i, f, hi, hf, hne, hx⟩
            · exact .inl rfl
            · exact .inr ⟨i, f, hi, hf, by rw [hG'n i f hne]; exact hx⟩
          · exact .inr ⟨j, f, hj, by omega, by rw [hG'j]; exact hx⟩
        · rintro (rfl | ⟨i, f, hi, hf, hx⟩)
          · exact .inl hbF
          · by_cases e : i = j
            · subst e; rw [hG'j] at hx; exact .inr ⟨f, by omega, hx⟩
            · rw [hG'n i f e] at hx; exact .inl (hGF i f x hi hf e hx)
    · exact ⟨_, h, E, _, hk, Mv.refl r, MvD.dead hv.1⟩
    · exact hk.elim
theorem mvDs_sound {C : Ctx} {w : World} : ∀ (n : Nat) (own : Bool) (E : Env) (h : Hp) (cs : List V) (vs : List Value) (K : List D → Hp → Prop), Hs C w E h → VRs w E (lookO h) cs vs → (∀ x ∈ vs, x.oneCell' = true) → mvDs n own h cs K →
    ∃ (ds : List D) (h' : Hp) (E' : Env) (G : Nat → Nat → Prop), K ds h' ∧ Mv C w E h E' h' (fun x => ∃ i, i < cs.length ∧ G i x) ∧ ds.length = cs.length ∧ (∀ i, i < cs.length → MvD own w E' (G i) (vs.getD i undef) (ds.getD i .dead)) ∧
      ∀ i j, i < cs.length → j < cs.length → i ≠ j → ∀ x, G i x → ¬ G j x
  | 0, _, _, _, _, _, _, _, _, _, hk => by simp [mvDs] at hk
  | n + 1, own, E, h, [], vs, K, r, hv, h1, hk => by
    refine ⟨[], h, E, fun _ _ => False, by simpa [mvDs] using hk, Mv.none r (Tr.refl E h) (fun x hx => ?_), rfl, fun i hi => by simp at hi, fun i j hi => by simp at hi⟩
    obtain ⟨i, hi, hx⟩ := hx; exact hx
  | n + 1, own, E, h, c :: cs, vs, K, r, hv, h1, hk => by
    obtain ⟨x, xs, rfl, h2, h3⟩ := hv
    simp only [mvDs] at hk
    obtain ⟨d, h', E', F, hk, mv, hd⟩ := mvD_sound n own E h c x _ r h2 hk
    obtain ⟨ds, h'', E'', G, hk, mv2, hl, hds, hdis⟩ := mvDs_sound n own E' h' cs xs _ mv.hs (VRs.mono (Shape.refl w) _ _ (fun u _ => mv.tr.sub u) h3) (fun y hy => h1 y (by simp [hy])) hk
    obtain ⟨mv3, hF⟩ := mv.trans mv2
    refine ⟨d :: ds, h'', E'', fun i => match i with | 0 => F | i + 1 => G i, hk, ⟨mv3.hs, mv3.tr, fun x hx => mv3.src x ?_, fun t ht x hx hh => mv3.disF t ht x hx ?_, fun x hx => mv3.disR x ?_⟩, by simp [hl], fun i hi => ?_, fun i j hi hj hne x hx hx' => ?_⟩
    · obtain ⟨i, hi, hx⟩ := hx
      cases i with
      | zero => exact .inl hx
      | succ i => exact .inr ⟨i, by simpa using hi, hx⟩
    · obtain ⟨i, hi, hx⟩ := hh
      cases i with
      | zero => exact .inl hx
      | succ i => exact .inr ⟨i, by simpa using hi, hx⟩
    · obtain ⟨i, hi, hx⟩ := hx
      cases i with
      | zero => exact .inl hx
      | succ i => exact .inr ⟨i, by simpa using hi, hx⟩
    · cases i with
      | zero => exact hd.mono mv2.tr.K
      | succ i => simpa using hds i (by simpa using hi)
    · cases i with
      | zero => cases j with
        | zero => exact hne rfl
        | succ j => exact hF x hx ⟨j, by simpa using hj, hx'⟩
      | succ i => cases j with
        | zero => exact hF x hx' ⟨i, by simpa using hi, hx⟩
        | succ j => exact hdis i j (by simpa using hi) (by simpa using hj) (fun e => hne (by rw [e])) x hx hx'
theorem mvEls_sound {C : Ctx} {w : World} : ∀ (n : Nat) (own : Bool) (E : Env) (h : Hp) (sz : Nat) (els : List (List V)) (vals : Nat → Nat → Value) (K : List (List D) → Hp → Prop), Hs C w E h → (∀ e ∈ els, e.length = sz) →
    (∀ i f, i < els.length → f < sz → VR w E (lookO h) ((els.getD i []).getD f .dead) (vals i f) ∧ (vals i f).oneCell' = true) → mvEls n own h els K →
    ∃ (ds : List (List D)) (h' : Hp) (E' : Env) (G : Nat → Nat → Nat → Prop), K ds h' ∧ Mv C w E h E' h' (fun x => ∃ i f, i < els.length ∧ f < sz ∧ G i f x) ∧ ds.length = els.length ∧ (∀ d ∈ ds, d.length = sz) ∧
      (∀ i f, i < els.length → f < sz → MvD own w E' (G i f) (vals i f) ((ds.getD i []).getD f .dead)) ∧
      ∀ i f j g, i < els.length → f < sz → j < els.length → g < sz → (i ≠ j ∨ f ≠ g) → ∀ x, G i f x → ¬ G j g x
  | 0, _, _, _, _, _, _, _, _, _, _, hk => by simp [mvEls] at hk
  | n + 1, own, E, h, sz, [], vals, K, r, hz, hv, hk => by
    refine ⟨[], h, E, fun _ _ _ => False, by simpa [mvEls] using hk, Mv.none r (Tr.refl E h) (fun x hx => ?_), rfl, by simp, fun i f hi => by simp at hi, fun i f j g hi => by simp at hi⟩
    obtain ⟨i, f, hi, hf, hx⟩ := hx; exact hx
  | n + 1, own, E, h, sz, e :: els, vals, K, r, hz, hv, hk => by
    simp only [mvEls] at hk
    have hez := hz e (by simp)
    obtain ⟨d, h', E', F, hk, mv, hl1, hd, hdis1⟩ := mvDs_sound n own E h e ((List.range sz).map fun f => vals 0 f) _ r
      (VRs.vals hez fun f hf => by simpa using (hv 0 f (by simp) hf).1) (range_one fun f hf => (hv 0 f (by simp) hf).2) hk
    obtain ⟨ds, h'', E'', G, hk, mv2, hl, hl3, hds, hdis⟩ := mvEls_sound n own E' h' sz els (fun i f => vals (i + 1) f) _ mv.hs (fun e' he' => hz e' (by simp [he']))
      (fun i f hi hf => by
        have := hv (i + 1) f (by simpa using hi) hf
        exact ⟨VR.mono (Shape.refl w) _ _ (fun u _ => mv.tr.sub u) (by simpa using this.1), this.2⟩) hk
    obtain ⟨mv3, hF⟩ := mv.trans mv2
    have hcv : ∀ x, (∃ i f, i < (e :: els).length ∧ f < sz ∧ (match i with | 0 => F f | i + 1 => G i f) x) → (∃ i, i < e.length ∧ F i x) ∨ ∃ i f, i < els.length ∧ f < sz ∧ G i f x := by
      rintro x ⟨i, f, hi, hf, hx⟩
      cases i with
      | zero => exact .inl ⟨f, by omega, hx⟩
      | succ i => exact .inr ⟨i, f, by simpa using hi, hf, hx⟩
    refine ⟨d :: ds, h'', E'', fun i f => match i with | 0 => F f | i + 1 => G i f, hk, ⟨mv3.hs, mv3.tr, fun x hx => mv3.src x (hcv x hx), fun t ht x hx hh => mv3.disF t ht x hx (hcv x hh), fun x hx => mv3.disR x (hcv x hx)⟩, by simp [hl], fun d' hd' => (by cases hd' with | head => omega | tail _ h4 => exact hl3 d' h4), fun i f hi hf => ?_, fun i f j g hi hf hj hg hne x hx hx' => ?_⟩
    · cases i with
      | zero =>
        have := (hd f (by omega)).mono mv2.tr.K
        simpa [hf] using this
      | succ i => simpa using hds i f (by simpa using hi) hf
    · cases i with
      | zero => cases j with
        | zero => exact hdis1 f g (by omega) (by omega) (hne.resolve_left fun e => e rfl) x hx hx'
        | succ j => exact hF x ⟨f, by omega, hx⟩ ⟨j, g, by simpa using hj, hg, hx'⟩
      | succ i => cases j with
        | zero => exact hF x ⟨g, by omega, hx'⟩ ⟨i, f, by simpa using hi, hf, hx⟩
        | succ j => exact hdis i f j g (by simpa using hi) hf (by simpa using hj) hg (by omega) x hx hx'
end
end Go.Vm
