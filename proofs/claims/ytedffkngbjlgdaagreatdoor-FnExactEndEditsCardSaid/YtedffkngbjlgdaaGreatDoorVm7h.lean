/- A verified evaluator for Go code: moves that the program does not see. -/
import Derived.Test.YtedffkngbjlgdaaGreatDoorVm7g
namespace Go.Vm
open Go.RowKit
set_option linter.unusedVariables false
set_option linter.unusedSimpArgs false

section
variable {P : Program} {T : Tab} {S : Cons} {C : Ctx} {E E1 : Env} {s : Sl} {h h1 : Hp} {a : Act} {w w' : World} {v : Value}

theorem Chg.refl (w : World) : Chg C w w := ⟨Shape.refl w, fun _ _ _ => rfl⟩

/-- An object's cells are laid open. -/
theorem Rel.reopen (r : Rel C E s h a w) {t n : Nat} {o0 : Ob} {o : List Vm.V → Ob} {ds : List D} {us : List Value} {G0 : Nat → Nat → Prop} {F3 : Nat → Prop} {K : Hp → Prop}
    (eo : lookO h t = some o0) (htn : Nat.beq (t / 16) n = false) (hul : us.length = ds.length) (hown : ∀ i, i < ds.length → Own w E.Kp (G0 i) (us.getD i undef) (ds.getD i .dead))
    (hdis : ∀ i j, i < ds.length → j < ds.length → i ≠ j → ∀ x, G0 i x → ¬ G0 j x) (hG0 : ∀ i x, i < ds.length → G0 i x → E.F t x) (hF3 : ∀ x, F3 x → E.F t x) (hF3d : ∀ x i, i < ds.length → G0 i x → ¬ F3 x)
    (ho : ∀ Vs : List Vm.V, Vs.length = ds.length → (o Vs).sz = o0.sz ∧ (o Vs).len = o0.len) (hoo : o0.own = true)
    (hob : ∀ (Vs : List Vm.V) (E3 : Env) (g3 : Nat → Option Ob), E3.γ t = E.γ t → (∀ x, E3.F t x ↔ F3 x) → E3.Kp = E.Kp → VRs w E3 g3 Vs us → Vs.length = ds.length → ObR w E3 g3 t (o Vs))
    (hk : free n s h (unfs .own ds (16 * n) ((t, none) :: h) fun vs t' h' => match Nat.ble t' (16 * n + 16) with | true => K ((t, some (o vs)) :: h') | false => False)) :
    ∃ E' h', K h' ∧ Rel C E' s h' a w := by
  have htn' : t / 16 ≠ n := by rintro rfl; simp at htn
  have hts : (lookO h t).isSome = true := by rw [eo]; rfl
  obtain ⟨r1, tr1⟩ := r.hs.drop t
  simp only [free] at hk
  split at hk
  · exact hk.elim
  rename_i e1
  split at hk
  · exact hk.elim
  rename_i e2
  have hno : ∀ m, 16 * n ≤ m → m < 16 * n + 16 → NoMen m h := fun m h1 h2 => noMen_of_ref (by rw [show m / 16 = n by omega]; exact e2)
  have hno' : ∀ m, 16 * n ≤ m → m < 16 * n + 16 → NoMen m ((t, none) :: h) := fun m h1 h2 u o' ho' => by
    rw [lookO_cons] at ho'
    split at ho'
    · cases ho'
    · exact hno m h1 h2 u o' ho'
  have hfr0 : ∀ F : Nat → Prop, (∀ x, F x → E.F t x) → Fresh C w E ((t, none) :: h) F := fun F hF x hx =>
    ⟨(r.Fin t hts x (hF x hx)).1, (r.Fin t hts x (hF x hx)).2, (r.hs.blk hts (hF x hx)).2, (r.hs.blk hts (hF x hx)).1⟩
  obtain ⟨Vs, t', h2, hk, hle, hgood⟩ := unfs_sound .own (16 * n + 16) ds (16 * n) E ((t, none) :: h) us G0 _ r1 hno' hul (fun i hi => hfr0 _ fun x hx => hG0 i x hi hx) hdis hown hk
  split at hk
  · rename_i hble
    have ht' := Nat.le_of_ble_eq_true hble
    obtain ⟨E2, g⟩ := hgood ht'
    have htout : t < 16 * n ∨ t' ≤ t := by omega
    have hlV : Vs.length = ds.length := by rw [g.vr.length, hul]
    obtain ⟨hsz, hlen⟩ := ho Vs hlV
    have hlk : ∀ u, u < 16 * n ∨ t' ≤ u → u ≠ t → lookO h2 u = lookO h u := fun u hu hne => by rw [g.add.lk u hu, lookO_cons, if_neg (Ne.symm hne)]
    have hsub2 : ∀ m, m < 16 * n ∨ t' ≤ m → Sub E (lookO h) E2 (lookO h2) m := fun m hm => (tr1.sub m).trans (g.add.sub m hm)
    have harr : ∀ u, u ≠ t → ∀ o', lookO h2 u = some o' → obMen t o' = false ∨
        (lookO h u = some o' ∧ E2.γ u = E.γ u ∧ (∀ b p, E.γ u = some (b, p) → w.heap[b]? = w.heap[b]?) ∧ ∀ m, obMen m o' = true → m ≠ t → Sub E (lookO h) E2 (lookO h2) m) := by
      intro u hu o' ho'
      by_cases e : 16 * n ≤ u ∧ u < t'
      · left
        cases e3 : obMen t o' with
        | false => rfl
        | true => have := g.add.nn u e.1 e.2 o' ho' t e3; omega
      · have hu2 : u < 16 * n ∨ t' ≤ u := by omega
        rw [hlk u hu2 hu] at ho'
        refine .inr ⟨ho', g.add.γ u hu2, fun _ _ _ => rfl, fun m hm hmt => hsub2 m ?_⟩
        by_cases e3 : 16 * n ≤ m ∧ m < 16 * n + 16
        · have := hno m e3.1 e3.2 u o' ho'; rw [hm] at this; cases this
        · omega
    have hfresh : Fresh C w E2 ((t, none) :: h2) F3 := by
      intro x hx
      have hx' := hF3 x hx
      refine ⟨(r.Fin t hts x hx').1, (r.Fin t hts x hx').2, by rw [g.add.R]; exact (r.hs.blk hts hx').2, fun u hu hux => ?_⟩
      rw [lookO_cons] at hu
      split at hu
      · cases hu
      · rename_i hne
        by_cases e : 16 * n ≤ u ∧ u < t'
        · obtain ⟨i, hi, hG⟩ := g.add.Fn u e.1 e.2 x hux
          exact hF3d x i hi hG hx
        · have hu2 : u < 16 * n ∨ t' ≤ u := by omega
          rw [g.add.lk u hu2] at hu
          exact (r.hs.blk hts hx').1 u hu ((g.add.Fo u hu2 x).1 hux)
    have hcells : VRs w (E2.set t (E.γ t) F3) (lookO ((t, some (o Vs)) :: h2)) Vs us := by
      refine VRs.mono (Shape.refl w) Vs us (fun m hm => ?_) g.vr
      have := g.men m hm
      intro o' ho'
      rw [lookO_cons, if_neg (by omega)] at ho'
      exact ⟨o', ho', rfl, rfl, id, Env.set_γ' _ _ _ (by omega)⟩
    have hobj := hob Vs (E2.set t (E.γ t) F3) (lookO ((t, some (o Vs)) :: h2)) (Env.set_γ _ _ _ _) (fun x => Env.set_F _ _ _ _ x) g.add.K hcells hlV
    have hs := r.hs.back (o := o Vs) g.hs (Shape.refl w) eo hsz.symm hlen.symm (fun _ => hoo) harr hfresh hobj
    have hr := r.putW (dst := none) (V := .dead) (v := undef) (Chg.refl w) hs (fun d hd => by cases hd) (.inl rfl) (fun q m hm => by
      intro o' ho'
      rw [lookO_cons] at ho'
      split at ho'
      · rename_i e; subst e; cases ho'
        exact ⟨o0, eo, hsz.symm, hlen.symm, fun _ => hoo, Env.set_γ _ _ _ _⟩
      · rename_i e
        have hmr : m / 16 ≠ n := by
          intro e3
          rw [men_of_slRef (t := m) (by rw [e3]; exact e1) q] at hm; cases hm
        obtain ⟨o2, x1, x2, x3, x4, x5⟩ := hsub2 m (by omega) o' ho'
        exact ⟨o2, x1, x2, x3, x4, by rw [Env.set_γ' _ _ _ (Ne.symm e)]; exact x5⟩)
    exact ⟨_, _, hk, hr⟩
  · exact hk.elim

/-- An object in another's place, which holds what has been handed over. -/
theorem Rel.close (r : Rel C E s h a w) {t : Nat} {o0 o : Ob} {Fd F3 : Nat → Prop} (eo : lookO h t = some o0) (mv : Mv C w E ((t, none) :: h) E1 h1 Fd) (hF3 : ∀ x, F3 x → E.F t x ∨ Fd x)
    (hsz : o.sz = o0.sz) (hlen : o.len = o0.len) (hoo : o0.own = true) (hobj : ObR w (E1.set t (E.γ t) F3) (lookO ((t, some o) :: h1)) t o) : ∃ E', Rel C E' s ((t, some o) :: h1) a w := by
  have hts : (lookO h t).isSome = true := by rw [eo]; rfl
  obtain ⟨r1, tr1⟩ := r.hs.drop t
  have tr := tr1.trans mv.tr
  obtain ⟨harr, _, hsub⟩ := back_harr (w' := w) (t := t) mv.hs tr (fun x => .inl rfl)
  have hfresh : Fresh C w E1 ((t, none) :: h1) F3 := by
    intro x hx
    rcases hF3 x hx with hx | hx
    · refine ⟨(r.Fin t hts x hx).1, (r.Fin t hts x hx).2, fun hR => ?_, fun u hu hF => (r.hs.blk hts hx).1 u ((mv.tr.sub u).some (lookO_drop hu)) (mv.tr.F u x (lookO_drop hu) hF)⟩
      rcases mv.tr.Rn x hR with h5 | ⟨v, h5, h6⟩
      · exact (r.hs.blk hts hx).2 h5
      · exact (r.hs.blk hts hx).1 v h5 h6
    · obtain ⟨u, hu, hF⟩ := mv.src x hx
      have := r1.Fin u hu x hF
      exact ⟨this.1, this.2, mv.disR x hx, fun v hv hF => mv.disF v (lookO_drop hv) x hF hx⟩
  have hs := r.hs.back (o := o) mv.hs (Shape.refl w) eo hsz.symm hlen.symm (fun _ => hoo) harr hfresh hobj
  exact ⟨_, r.putW (dst := none) (V := .dead) (v := undef) (Chg.refl w) hs (fun d hd => by cases hd) (.inl rfl) (fun q m hm => by
    intro o' ho'
    rw [lookO_cons] at ho'
    split at ho'
    · rename_i e; subst e; cases ho'
      exact ⟨o0, eo, hsz.symm, hlen.symm, fun _ => hoo, Env.set_γ _ _ _ _⟩
    · rename_i e
      obtain ⟨o2, x1, x2, x3, x4, x5⟩ := hsub m (Ne.symm e) o' ho'
      exact ⟨o2, x1, x2, x3, x4, by rw [Env.set_γ' _ _ _ (Ne.symm e)]; exact x5⟩)⟩

theorem encs_eq {α : Type} (enc : α → List D) (l : List α) : encs enc l = (l.map enc).flatten := by
  induction l with
  | nil => rfl
  | cons a l ih => simp [encs, appV_eq0, ih]
theorem encs_len {α : Type} {enc : α → List D} (hz : ∀ a, (enc a).length = 1) (l : List α) : (encs enc l).length = l.length := by
  induction l with
  | nil => rfl
  | cons a l ih => simp [encs, appV_eq0, ih, hz]; omega
theorem encs_get {α : Type} {enc : α → List D} (hz : ∀ a, (enc a).length = 1) (l : List α) (i : Nat) : (encs enc l).getD i .dead = dat enc l i 0 := by
  induction l generalizing i with
  | nil => rfl
  | cons a l ih =>
    have h1 := hz a
    cases ha : enc a with
    | nil => rw [ha] at h1; cases h1
    | cons d r =>
      rw [ha] at h1
      have hr : r = [] := by cases r with | nil => rfl | cons _ _ => simp at h1
      subst hr
      cases i with
      | zero => simp [encs, appV_eq0, ha, dat]
      | succ i =>
        have := ih i
        simp only [encs, appV_eq0, ha, List.singleton_append, List.getD_cons_succ]
        rw [this]; simp [dat]
theorem wrap1_len {β : Type} (l : List β) : (wrap1 l).length = l.length := by
  induction l with
  | nil => rfl
  | cons a l ih => simp [wrap1, ih]
theorem wrap1_mem {β : Type} {l : List β} {e : List β} (h : e ∈ wrap1 l) : e.length = 1 := by
  induction l with
  | nil => cases h
  | cons a l ih =>
    simp only [wrap1, List.mem_cons] at h
    rcases h with rfl | h
    · rfl
    · exact ih h
theorem wrap1_get (l : List Vm.V) (i : Nat) : ((wrap1 l).getD i []).getD 0 .dead = l.getD i .dead := by
  induction l generalizing i with
  | nil => rfl
  | cons a l ih =>
    cases i with
    | zero => rfl
    | succ i => exact ih i

theorem nonE_ok {β : Type} {l : List β} {p : Prop} (h : nonE l p) : l ≠ [] ∧ p := by
  cases l with
  | nil => exact h.elim
  | cons a l => exact ⟨by simp, h⟩
theorem withS {K : Sl → Hp → Prop} (h : ∃ E' h', K s h' ∧ Rel C E' s h' a w) : ∃ E' s' h', K s' h' ∧ Rel C E' s' h' a w := by
  obtain ⟨E', h', h1, h2⟩ := h; exact ⟨E', s, h', h1, h2⟩
/-- An empty row that has no place. -/
theorem Rel.nilRow (r : Rel C E s h a w) {n : Nat} {sz : Nat} {α : Type} {enc : α → List D} (e1 : slRef n s = false) (e2 : hpRef n h = false) (hz : ∀ a, (enc a).length = sz) :
    ∃ E', Rel C E' s ((16 * n, some (.row .own sz enc [])) :: h) a w ∧ VR w E' (lookO ((16 * n, some (.row .own sz enc [])) :: h)) (.sl (16 * n) none) (.slice none 0 0) ∧ True := by
  have hno : NoMen (16 * n) h := noMen_of_ref (by rw [Nat.mul_div_cancel_left n (by omega : 0 < 16)]; exact e2)
  have hobj : ObR w (E.set (16 * n) none (fun _ => False)) (lookO ((16 * n, some (.row .own sz enc [])) :: h)) (16 * n) (.row .own sz enc []) := by
    refine ⟨hz, by simp, ?_⟩
    rw [Env.set_γ]; exact ⟨rfl, fun x hx => (Env.set_F E _ none _ x).1 hx⟩
  obtain ⟨hs, hadd⟩ := r.hs.add1 (t := 16 * n) hno (fun x hx => hx.elim) hobj (fun _ _ => rfl)
  have hr := r.putW (dst := none) (V := .dead) (v := undef) (Chg.refl w) hs (fun d hd => by cases hd) (.inl rfl) (fun q m hm => hadd.sub m (by
    have : m / 16 ≠ n := by
      intro e3
      rw [men_of_slRef (t := m) (by rw [e3]; exact e1) q] at hm; cases hm
    omega))
  refine ⟨_, hr, ⟨rfl, fun o ho => ?_⟩, trivial⟩
  rw [lookO_cons, if_pos rfl] at ho; cases ho
  rw [Env.set_γ]; exact ⟨none, rfl, fun _ => rfl, .inl rfl⟩
/-- An object told otherwise. -/
theorem Rel.recode (r : Rel C E s h a w) {t : Nat} {o o' : Ob} (eo : lookO h t = some o) (hsz : o'.sz = o.sz) (hl : o'.len = o.len) (hown : o'.own = true → o.own = true) (hmen : ∀ m, obMen m o' = obMen m o) (hob : ObR w E (lookO h) t o') :
    Rel C E s ((t, some o') :: h) a w := by
  have hsub : ∀ m, Sub E (lookO h) E (lookO ((t, some o') :: h)) m := by
    intro m o2 ho'
    rw [lookO_cons] at ho'
    split at ho'
    · rename_i e; subst e; cases ho'
      exact ⟨_, eo, hsz.symm, hl.symm, hown, rfl⟩
    · exact ⟨o2, ho', rfl, rfl, id, rfl⟩
  have hsome : ∀ u, (lookO ((t, some o') :: h) u).isSome = true → (lookO h u).isSome = true := fun u hu => (hsub u).some hu
  refine ⟨fun u o2 ho' => ?_, fun u v hne hu hv => r.dis u v hne (hsome u hu) (hsome v hv), fun u hu => r.disR u (hsome u hu), r.KR, r.Rlt, fun u hu => r.Fin u (hsome u hu), r.R0, r.K0, r.Rin, r.Kin, fun q => (r.sl q).imp id fun h1 => VR.mono (Shape.refl w) _ _ (fun m _ => hsub m) h1, r.nt, r.shape, r.frame, r.defers⟩
  rw [lookO_cons] at ho'
  split at ho'
  · rename_i e; subst e; cases ho'
    exact hob.mono r.KR rfl (fun _ => Iff.rfl) (fun _ h => h) (fun _ h => h) (fun m _ => hsub m) (fun _ _ => rfl) (Shape.refl w)
  · exact (r.ob u o2 ho').mono r.KR rfl (fun _ => Iff.rfl) (fun _ h => h) (fun _ h => h) (fun m _ => hsub m) (fun _ _ => rfl) (Shape.refl w)
/-- An object's cells told otherwise. -/
theorem Rel.retell (r : Rel C E s h a w) {t : Nat} {own : Bool} {sz : Nat} {els els' : List (List Vm.V)} (eo : lookO h t = some (.arr own sz els)) (hl : els'.length = els.length)
    (hmem : ∀ e ∈ els', e ∈ els ∨ ∃ e0 ∈ els, e.length = e0.length) (hv : ∀ i f v, i < els.length → f < sz → VR w E (lookO h) ((els.getD i []).getD f .dead) v → VR w E (lookO h) ((els'.getD i []).getD f .dead) v) :
    Rel C E s ((t, some (.arr own sz els')) :: h) a w := by
  have hsub : ∀ m, Sub E (lookO h) E (lookO ((t, some (.arr own sz els')) :: h)) m := by
    intro m o' ho'
    rw [lookO_cons] at ho'
    split at ho'
    · rename_i e; subst e; cases ho'
      exact ⟨_, eo, rfl, hl.symm, id, rfl⟩
    · exact ⟨o', ho', rfl, rfl, id, rfl⟩
  have hsome : ∀ u, (lookO ((t, some (.arr own sz els')) :: h) u).isSome = true → (lookO h u).isSome = true := fun u hu => (hsub u).some hu
  refine ⟨fun u o' ho' => ?_, fun u v hne hu hv => r.dis u v hne (hsome u hu) (hsome v hv), fun u hu => r.disR u (hsome u hu), r.KR, r.Rlt, fun u hu => r.Fin u (hsome u hu), r.R0, r.K0, r.Rin, r.Kin, fun q => (r.sl q).imp id fun h1 => VR.mono (Shape.refl w) _ _ (fun m _ => hsub m) h1, r.nt, r.shape, r.frame, r.defers⟩
  rw [lookO_cons] at ho'
  split at ho'
  · rename_i e; subst e; cases ho'
    obtain ⟨h0, b, o, e1, hb, hz, ⟨vals, hc, hr⟩, hF⟩ := r.ob t _ eo
    refine ⟨by rw [hl]; exact h0, b, o, e1, hb, fun e he => ?_, ⟨vals, fun i f hi hf => hc i f (by rwa [hl] at hi) hf, fun i f hi hf => ?_⟩, ?_⟩
    · rcases hmem e he with h1 | ⟨e0, h1, h2⟩
      · exact hz e h1
      · rw [h2]; exact hz e0 h1
    · rw [hl] at hi
      exact ⟨VR.mono (Shape.refl w) _ _ (fun m _ => hsub m) (hv i f _ hi hf (hr i f hi hf).1), (hr i f hi hf).2⟩
    · cases own with
      | true => exact ⟨hF.1, fun j hj => hF.2 j (by rwa [hl] at hj)⟩
      | false => exact hF
  · exact (r.ob u o' ho').mono r.KR rfl (fun _ => Iff.rfl) (fun _ h => h) (fun _ h => h) (fun m _ => hsub m) (fun _ _ => rfl) (Shape.refl w)

/-- What lies in an own row's cells goes to those that are read for good; the row stays one's own. -/
theorem Rel.toMix (r : Rel C E s h a w) {t sz : Nat} {α : Type} {enc : α → List D} {l : List α} (eo : lookO h t = some (.row .own sz enc l)) :
    ∃ E', Rel C E' s ((t, some (.row .mix sz enc l)) :: h) a w := by
  have hts : (lookO h t).isSome = true := by rw [eo]; rfl
  obtain ⟨hz, hm, h3⟩ := r.ob t _ eo
  have hsub : ∀ E' : Env, E'.γ = E.γ → ∀ m, Sub E (lookO h) E' (lookO ((t, some (.row .mix sz enc l)) :: h)) m := by
    intro E' hγ m o2 ho'
    rw [lookO_cons] at ho'
    split at ho'
    · rename_i e; subst e; cases ho'
      exact ⟨_, eo, rfl, rfl, fun _ => rfl, by rw [hγ]⟩
    · exact ⟨o2, ho', rfl, rfl, id, by rw [hγ]⟩
  have hsome : ∀ u, (lookO ((t, some (.row .mix sz enc l)) :: h) u).isSome = true → (lookO h u).isSome = true := fun u hu => (hsub E rfl u).some hu
  cases e : E.γ t with
  | none =>
    simp only [e] at h3
    refine ⟨E, fun u o2 ho' => ?_, fun u v hne hu hv => r.dis u v hne (hsome u hu) (hsome v hv), fun u hu => r.disR u (hsome u hu), r.KR, r.Rlt, fun u hu => r.Fin u (hsome u hu), r.R0, r.K0, r.Rin, r.Kin, fun q => (r.sl q).imp id fun h1 => VR.mono (Shape.refl w) _ _ (fun m _ => hsub E rfl m) h1, r.nt, r.shape, r.frame, r.defers⟩
    rw [lookO_cons] at ho'
    split at ho'
    · rename_i e2; subst e2; cases ho'
      refine ⟨hz, hm, ?_⟩
      rw [e]; exact h3
    · exact (r.ob u o2 ho').mono r.KR rfl (fun _ => Iff.rfl) (fun _ h => h) (fun _ h => h) (fun m _ => hsub E rfl m) (fun _ _ => rfl) (Shape.refl w)
  | some bp =>
    obtain ⟨b, p⟩ := bp
    simp only [e] at h3
    obtain ⟨hb, vals, hvals, G, g1, g2, g3, g4, g5⟩ := h3
    have hbF : E.F t b := (g4 b).2 (.inl rfl)
    let E' : Env := { γ := E.γ, F := fun u x => (u = t ∧ x = b) ∨ (u ≠ t ∧ E.F u x), R := fun x => E.R x ∨ (E.F t x ∧ x ≠ b), Kp := fun x => E.Kp x ∨ (E.F t x ∧ x ≠ b) }
    refine ⟨E', fun u o2 ho' => ?_, fun u v hne hu hv x hx hx' => ?_, fun u hu x hx hR => ?_, fun x hx => ?_, fun x hx => ?_, fun u hu x hx => ?_, fun x hx => .inl (r.R0 x hx), fun x hx => .inl (r.K0 x hx), fun x hx => ?_, fun x hx => ?_, fun q => (r.sl q).imp id fun h1 => VR.mono (Shape.refl w) _ _ (fun m _ => hsub E' rfl m) h1, r.nt, r.shape, r.frame, r.defers⟩
    · rw [lookO_cons] at ho'
      split at ho'
      · rename_i e2; subst e2; cases ho'
        refine ⟨hz, hm, ?_⟩
        have eγ : E'.γ t = some (b, p) := e
        rw [eγ]
        exact ⟨hb, vals, hvals, fun i f hi hf => (g1 i f hi hf).ro (fun x hx => .inr ⟨(g4 x).2 (.inr ⟨i, f, hi, hf, hx⟩), fun hxb => g3 i f hi hf (hxb ▸ hx)⟩) fun x hx => .inl hx,
          fun x => ⟨fun hx => hx.elim (fun h => h.2) fun h => absurd rfl h.1, fun hx => .inl ⟨rfl, hx⟩⟩, g5⟩
      · rename_i hne
        exact (r.ob u o2 ho').mono r.KR rfl (fun x => ⟨fun hx => hx.elim (fun h => absurd h.1.symm hne) fun h => h.2, fun hx => .inr ⟨fun h => hne h.symm, hx⟩⟩) (fun _ h => .inl h) (fun _ h => .inl h) (fun m _ => hsub E' rfl m) (fun _ _ => rfl) (Shape.refl w)
    · rcases hx with ⟨rfl, rfl⟩ | ⟨h1, h2⟩
      · rcases hx' with ⟨rfl, _⟩ | ⟨_, h4⟩
        · exact hne rfl
        · exact r.dis _ v hne hts (hsome v hv) _ hbF h4
      · rcases hx' with ⟨rfl, rfl⟩ | ⟨_, h4⟩
        · exact r.dis u _ hne (hsome u hu) hts _ h2 hbF
        · exact r.dis u v hne (hsome u hu) (hsome v hv) x h2 h4
    · rcases hx with ⟨rfl, rfl⟩ | ⟨h1, h2⟩
      · rcases hR with hR | ⟨_, hR⟩
        · exact r.disR _ hts _ hbF hR
        · exact hR rfl
      · rcases hR with hR | ⟨hR, _⟩
        · exact r.disR u (hsome u hu) x h2 hR
        · exact r.dis u t h1 (hsome u hu) hts x h2 hR
    · rcases hx with hx | hx
      · exact .inl (r.KR x hx)
      · exact .inr hx
    · rcases hx with hx | hx
      · exact r.Rlt x hx
      · exact (r.Fin t hts x hx.1).1
    · rcases hx with ⟨rfl, rfl⟩ | ⟨h1, h2⟩
      · exact r.Fin _ hts _ hbF
      · exact r.Fin u (hsome u hu) x h2
    · rcases hx with hx | hx
      · exact r.Rin x hx
      · exact .inr (r.Fin t hts x hx.1).2.1
    · rcases hx with hx | hx
      · exact r.Kin x hx
      · exact .inr (r.Fin t hts x hx.1).2.1
theorem gh1_sound (r : Rel C E s h a w) {g : GC} {K : Sl → Hp → Prop} (hk : gh1 g s h K) : ∃ E' s' h', K s' h' ∧ Rel C E' s' h' a w := by
  cases g with
  | row t =>
    simp only [gh1] at hk
    split at hk
    · rename_i sz els eo
      have hts : (lookO h t).isSome = true := by rw [eo]; rfl
      obtain ⟨h0, b, o, e1, hb, hz, ⟨vals, hc, hr⟩, hF, hfr⟩ := r.ob t _ eo
      obtain ⟨r1, tr1⟩ := r.hs.drop t
      obtain ⟨ds, h1, E1, G, ⟨α, enc, l, hz', hl', hk⟩, mv, hl, _, hd, hdis⟩ := mvEls_sound fuel true E ((t, none) :: h) sz els vals _ r1 hz
        (fun i f hi hf => ⟨VR.mono (Shape.refl w) _ _ (fun u _ => tr1.sub u) (hr i f hi hf).1, (hr i f hi hf).2⟩) hk
      subst hl'
      have hlen : l.length = els.length := by rw [← hl]; simp
      have hbF : E.F t b := (hF b).2 rfl
      have hGb : ∀ i f, i < els.length → f < sz → ¬ G i f b := fun i f hi hf hG => by
        obtain ⟨u, hu, hub⟩ := mv.src b ⟨i, f, hi, hf, hG⟩
        exact (r.hs.blk hts hbF).1 u hu hub
      obtain ⟨E', hr'⟩ := r.close (o := .row .own sz enc l) (F3 := fun x => x = b ∨ ∃ i f, i < l.length ∧ f < sz ∧ G i f x) eo mv (by
        rintro x (rfl | ⟨i, f, hi, hf, hx⟩)
        · exact .inl hbF
        · exact .inr ⟨i, f, by omega, hf, hx⟩) rfl hlen rfl (by
        refine ⟨hz', by omega, ?_⟩
        rw [Env.set_γ, e1]
        refine ⟨hb, vals, fun i f hi hf => hc i f (by omega) hf, G, fun i f hi hf => ?_, fun i f j g hi hf hj hg => hdis i f j g (by omega) hf (by omega) hg, fun i f hi hf => hGb i f (by omega) hf, fun x => Env.set_F _ _ _ _ x, fun j hj => hfr j (by rw [← hlen]; exact hj)⟩
        have := hd i f (by omega) hf
        rw [show ((l.map enc).getD i []).getD f .dead = dat enc l i f by unfold dat; simp [hi]] at this
        exact this)
      exact ⟨E', _, _, hk, hr'⟩
    · exact hk.elim
  | opn t n =>
    simp only [gh1] at hk
    split at hk
    · rename_i sz α enc l eo
      obtain ⟨hne, hk'⟩ := nonE_ok hk
      clear hk; have hk := hk'; clear hk'
      split at hk
      · rename_i es
        obtain rfl := nbeq_eq es
        split at hk
        · exact hk.elim
        rename_i htn
        have hts : (lookO h t).isSome = true := by rw [eo]; rfl
        obtain ⟨hz, hm, h3⟩ := r.ob t _ eo
        cases eγ : E.γ t with
        | none =>
          rw [eγ] at h3
          exact absurd h3.1 hne
        | some bp =>
          obtain ⟨b, p⟩ := bp
          rw [eγ] at h3
          obtain ⟨hb, vals, hv, G, q1, q2, q3, q4, q5⟩ := h3
          have hel := encs_len hz l
          refine withS (r.reopen (K := K s) (o := fun vs => .arr true 1 (wrap1 vs)) (us := (List.range l.length).map fun i => vals i 0) (G0 := fun i => G i 0) (F3 := fun x => x = b) eo htn (by simp [hel]) (fun i hi => ?_) (fun i j hi hj hne => q2 i 0 j 0 (by omega) (by omega) (by omega) (by omega) (.inl hne))
            (fun i x hi hx => (q4 x).2 (.inr ⟨i, 0, by omega, by omega, hx⟩)) (by rintro x rfl; exact (q4 x).2 (.inl rfl)) (by rintro x i hi hx rfl; exact q3 i 0 (by omega) (by omega) hx)
            (fun Vs hVs => ⟨rfl, by show (wrap1 Vs).length = l.length; rw [wrap1_len, hVs, hel]⟩) rfl (fun Vs E3 g3 e3 e4 e5 hvr hVs => ?_) hk)
          · rw [hel] at hi
            rw [encs_get hz]
            simpa [hi] using q1 i 0 hi (by omega)
          · rw [hel] at hVs
            refine ⟨by rw [wrap1_len, hVs]; exact hm, b, p, by rw [e3]; exact eγ, hb, fun e he => wrap1_mem he, ⟨vals, fun i f hi hf => hv i f (by rw [wrap1_len, hVs] at hi; exact hi) hf, fun i f hi hf => ?_⟩, e4, fun j hj => q5 j (by rw [wrap1_len, hVs] at hj; exact hj)⟩
            rw [wrap1_len, hVs] at hi
            obtain rfl : f = 0 := by omega
            obtain ⟨y, hy, hvy⟩ := hvr.get i (by omega)
            simp [hi] at hy; subst hy
            rw [wrap1_get]
            exact ⟨hvy, (q1 i 0 hi (by omega)).one⟩
      · exact hk.elim
    · exact hk.elim
  | foc t j n =>
    simp only [gh1] at hk
    split at hk
    · rename_i sz α enc l eo
      obtain ⟨y, ey, hk⟩ := ex_ok hk
      rw [nth_eq] at ey
      have hj : j < l.length := by
        rcases Nat.lt_or_ge j l.length with h1 | h1
        · exact h1
        · rw [List.getElem?_eq_none h1] at ey; cases ey
      split at hk
      · exact hk.elim
      rename_i htn
      have hts : (lookO h t).isSome = true := by rw [eo]; rfl
      obtain ⟨hz, hm, h3⟩ := r.ob t _ eo
      cases eγ : E.γ t with
      | none => rw [eγ] at h3; obtain ⟨rfl, _⟩ := h3; simp at hj
      | some bp =>
        obtain ⟨b, p⟩ := bp
        rw [eγ] at h3
        obtain ⟨hb, vals, hv, G, q1, q2, q3, q4, q5⟩ := h3
        have hel := hz y
        refine withS (r.reopen (K := K s) (o := fun vs => .foc sz enc l j vs) (us := (List.range sz).map fun f => vals j f) (G0 := fun f => G j f) (F3 := fun x => x = b ∨ ∃ i f, i < l.length ∧ f < sz ∧ i ≠ j ∧ G i f x) eo htn (by simp [hel]) (fun f hf => ?_)
          (fun f g hf hg hne => q2 j f j g hj (by omega) hj (by omega) (.inr hne)) (fun f x hf hx => (q4 x).2 (.inr ⟨j, f, hj, by omega, hx⟩)) ?_ ?_ (fun Vs hVs => ⟨rfl, rfl⟩) rfl (fun Vs E3 g3 e3 e4 e5 hvr hVs => ?_) hk)
        · rw [hel] at hf
          have := q1 j f hj hf
          rw [show dat enc l j f = (enc y).getD f .dead by unfold dat; rw [ey]] at this
          simpa [hf] using this
        · rintro x (rfl | ⟨i, f, hi, hf, _, hx⟩)
          · exact (q4 x).2 (.inl rfl)
          · exact (q4 x).2 (.inr ⟨i, f, hi, hf, hx⟩)
        · rintro x f hf hx (rfl | ⟨i, g, hi, hg, hne, hx'⟩)
          · exact q3 j f hj (by omega) hx
          · exact q2 j f i g hj (by omega) hi hg (.inl (Ne.symm hne)) x hx hx'
        · rw [hel] at hVs
          refine ⟨hz, hm, hj, hVs, b, p, by rw [e3]; exact eγ, hb, vals, hv, fun f hf => ?_, G, fun i f hi hf hne => by rw [e5]; exact q1 i f hi hf, fun i f j' g hi hf _ hj' hg _ hne => q2 i f j' g hi hf hj' hg hne, fun i f hi hf _ => q3 i f hi hf, e4, q5⟩
          obtain ⟨y', hy', hvy⟩ := hvr.get f (by omega)
          simp [hf] at hy'; subst hy'
          exact ⟨hvy, (q1 j f hj hf).one⟩
    · exact hk.elim
  | unf t =>
    simp only [gh1] at hk
    split at hk
    · rename_i sz α enc l j cs eo
      have hts : (lookO h t).isSome = true := by rw [eo]; rfl
      obtain ⟨hz, hm, hj, hcl, b, p, eγ, hb, vals, hv, hr, G, q1, q2, q3, q4, q5⟩ := r.ob t _ eo
      obtain ⟨r1, tr1⟩ := r.hs.drop t
      have hbF : E.F t b := (q4 b).2 (.inl rfl)
      have hvr : VRs w E (lookO ((t, none) :: h)) cs ((List.range sz).map fun f => vals j f) := VRs.mk (by simp [hcl]) fun f x hx => by
        simp only [List.getElem?_map] at hx
        by_cases hf : f < sz
        · rw [List.getElem?_range hf] at hx; simp at hx; subst hx
          exact VR.mono (Shape.refl w) _ _ (fun u _ => tr1.sub u) (hr f hf).1
        · rw [List.getElem?_eq_none (by simpa using hf)] at hx; cases hx
      obtain ⟨ds, h1, E1, Gm, ⟨y', hy', hk⟩, mv, hl, hd, hdis⟩ := mvDs_sound fuel true E ((t, none) :: h) cs _ _ r1 hvr (fun x hx => by
        obtain ⟨f, hf⟩ := List.getElem?_of_mem hx
        simp only [List.getElem?_map] at hf
        by_cases hlt : f < sz
        · rw [List.getElem?_range hlt] at hf; simp at hf; subst hf; exact (hr f hlt).2
        · rw [List.getElem?_eq_none (by simpa using hlt)] at hf; cases hf) hk
      have hGmu : ∀ f x, f < sz → Gm f x → ¬ E.F t x := fun f x hf hx hF => by
        obtain ⟨u, hu, hub⟩ := mv.src x ⟨f, by omega, hx⟩
        exact (r.hs.blk hts hF).1 u hu hub
      let G' : Nat → Nat → Nat → Prop := fun i f => if i = j then Gm f else G i f
      have hG'j : ∀ f, G' j f = Gm f := fun f => if_pos rfl
      have hG'n : ∀ i f, i ≠ j → G' i f = G i f := fun i f hne => if_neg hne
      have hGF : ∀ i f x, i < l.length → f < sz → i ≠ j → G i f x → E.F t x := fun i f x hi hf hne hx => (q4 x).2 (.inr ⟨i, f, hi, hf, hne, hx⟩)
      obtain ⟨E', hr'⟩ := r.close (o := .row .own sz enc (l.set j y')) (F3 := fun x => x = b ∨ ∃ i f, i < l.length ∧ f < sz ∧ G' i f x) eo mv (by
        rintro x (rfl | ⟨i, f, hi, hf, hx⟩)
        · exact .inl hbF
        · by_cases e : i = j
          · subst e; rw [hG'j] at hx; exact .inr ⟨f, by omega, hx⟩
          · rw [hG'n i f e] at hx; exact .inl (hGF i f x hi hf e hx)) rfl (by simp [Ob.len]) rfl (by
        refine ⟨hz, by rw [List.length_set]; exact hm, ?_⟩
        rw [Env.set_γ, eγ]
        refine ⟨hb, vals, by rw [List.length_set]; exact hv, G', fun i f hi hf => ?_, fun i f i' g hi hf hi' hg hne x hx hx' => ?_, fun i f hi hf hx => ?_, fun x => by rw [Env.set_F, List.length_set], fun k hk => q5 k (by rw [List.length_set] at hk; exact hk)⟩
        · rw [List.length_set] at hi
          by_cases e : i = j
          · subst e
            rw [hG'j]
            have h5 := hd f (by omega)
            rw [show dat enc (l.set i y') i f = ds.getD f .dead by unfold dat; rw [List.getElem?_set_self hi]; simp only [hy']]
            have h6 : ((List.range sz).map fun f => vals i f).getD f undef = vals i f := by simp [hf]
            rw [h6] at h5; exact h5
          · rw [hG'n i f e]
            rw [show dat enc (l.set j y') i f = dat enc l i f by unfold dat; rw [List.getElem?_set_ne (Ne.symm e)]]
            exact (q1 i f hi hf e).mono mv.tr.K
        · rw [List.length_set] at hi hi'
          by_cases e : i = j
          · by_cases e' : i' = j
            · subst e; subst e'
              rw [hG'j] at hx hx'
              exact hdis f g (by omega) (by omega) (by omega) x hx hx'
            · subst e
              rw [hG'j] at hx; rw [hG'n i' g e'] at hx'
              exact hGmu f x hf hx (hGF i' g x hi' hg e' hx')
          · by_cases e' : i' = j
            · subst e'
              rw [hG'n i f e] at hx; rw [hG'j] at hx'
              exact hGmu g x hg hx' (hGF i f x hi hf e hx)
            · rw [hG'n i f e] at hx; rw [hG'n i' g e'] at hx'
              exact q2 i f i' g hi hf e hi' hg e' hne x hx hx'
        · rw [List.length_set] at hi
          by_cases e : i = j
          · subst e; rw [hG'j] at hx; exact hGmu f b hf hx hbF
          · rw [hG'n i f e] at hx; exact q3 i f hi hf e hx)
      exact ⟨E', _, _, hk, hr'⟩
    · exact hk.elim

  | nls x n =>
    simp only [gh1] at hk
    split at hk
    · rename_i ex
      simp only [free] at hk
      split at hk
      · exact hk.elim
      rename_i e1
      split at hk
      · exact hk.elim
      rename_i e2
      obtain ⟨sz, α, enc, hz, hk⟩ := hk
      obtain ⟨E', r', hvr, _⟩ := r.nilRow e1 e2 hz
      refine ⟨E', _, _, hk, ⟨r'.ob, r'.dis, r'.disR, r'.KR, r'.Rlt, r'.Fin, r'.R0, r'.K0, r'.Rin, r'.Kin, fun q => ?_, r'.nt, r'.shape, r'.frame, r'.defers⟩⟩
      rw [look_cons]
      split
      · rename_i e; subst e
        rcases r'.sl x with h1 | h1
        · rw [ex] at h1; cases h1
        · rw [ex] at h1
          obtain ⟨h1, _⟩ := h1
          rw [h1]; exact .inr hvr
      · exact r'.sl q
    · exact hk.elim
  | nlc t j f n =>
    simp only [gh1] at hk
    split at hk
    · rename_i own sz els eo
      obtain ⟨cs, ec, hk⟩ := ex_ok hk
      obtain ⟨c, ecf, hk⟩ := ex_ok hk
      rw [nth_eq] at ec ecf
      split at hk
      · split at hk
        · exact hk.elim
        rename_i htn
        simp only [free] at hk
        split at hk
        · exact hk.elim
        rename_i e1
        split at hk
        · exact hk.elim
        rename_i e2
        obtain ⟨sz', α, enc, hz, hk⟩ := hk
        obtain ⟨hk, hf⟩ := setK_ok _ _ _ _ hk
        obtain ⟨hk, hj⟩ := setK_ok _ _ _ _ hk
        obtain ⟨E', r', hvr, hne⟩ := r.nilRow e1 e2 hz
        have htn' : t ≠ 16 * n := by rintro rfl; simp at htn
        have eo' : lookO ((16 * n, some (.row .own sz' enc [])) :: h) t = some (.arr own sz els) := by rw [lookO_cons, if_neg (Ne.symm htn')]; exact eo
        refine ⟨E', _, _, hk, r'.retell eo' (by simp) (fun e he => ?_) fun i g v hi hg hv => ?_⟩
        · rcases List.mem_or_eq_of_mem_set he with he | rfl
          · exact .inl he
          · exact .inr ⟨cs, List.mem_of_getElem? ec, by simp⟩
        · by_cases e : i = j
          · subst e
            rw [show (els.set i (cs.set f (.sl (16 * n) none))).getD i [] = cs.set f (.sl (16 * n) none) by simp [List.getD_eq_getElem?_getD, hj]]
            rw [show els.getD i [] = cs by simp [List.getD_eq_getElem?_getD, ec]] at hv
            by_cases e3 : f = g
            · subst e3
              rw [show cs.getD f .dead = .lf (.slice none 0 0) by simp [List.getD_eq_getElem?_getD, ecf]] at hv
              rw [show (cs.set f (.sl (16 * n) none)).getD f .dead = .sl (16 * n) none by simp [List.getD_eq_getElem?_getD, hf]]
              obtain ⟨h1, _⟩ := hv
              rw [h1]; exact hvr
            · rw [show (cs.set f (.sl (16 * n) none)).getD g .dead = cs.getD g .dead by simp [List.getD_eq_getElem?_getD, List.getElem?_set_ne e3]]
              exact hv
          · rw [show (els.set j (cs.set f (.sl (16 * n) none))).getD i [] = els.getD i [] by simp [List.getD_eq_getElem?_getD, List.getElem?_set_ne (Ne.symm e)]]
            exact hv
      · exact hk.elim
    · exact hk.elim
  | enc t =>
    simp only [gh1] at hk
    split at hk
    · rename_i k sz α enc l eo
      obtain ⟨α', enc', l', hz', hm', hk⟩ := hk
      have hlen : l'.length = l.length := by have := congrArg List.length hm'; simpa using this
      have hd : ∀ i f, i < l.length → dat enc' l' i f = dat enc l i f := fun i f hi => by
        have h1 := congrArg (fun m => m[i]?) hm'
        simp only [List.getElem?_map] at h1
        rw [List.getElem?_eq_getElem hi, List.getElem?_eq_getElem (by omega)] at h1
        simp only [Option.map_some, Option.some.injEq] at h1
        unfold dat
        rw [List.getElem?_eq_getElem hi, List.getElem?_eq_getElem (by omega)]
        simp only [h1]
      refine ⟨E, _, _, hk, r.recode eo rfl hlen (fun h => by cases k <;> exact h) (fun m => rfl) ?_⟩
      obtain ⟨hz, hm, h3⟩ := r.ob t _ eo
      refine ⟨hz', by omega, ?_⟩
      cases e1 : E.γ t with
      | none =>
        simp only [e1] at h3 ⊢
        refine ⟨?_, h3.2⟩
        have := h3.1
        subst this
        exact List.length_eq_zero_iff.1 hlen
      | some bp =>
        obtain ⟨b, p⟩ := bp
        simp only [e1] at h3 ⊢
        obtain ⟨hb, vals, hv, hk⟩ := h3
        refine ⟨hb, vals, by rw [hlen]; exact hv, ?_⟩
        cases k with
        | own =>
          obtain ⟨G, g1, g2, g3, g4, g5⟩ := hk
          exact ⟨G, fun i f hi hf => by rw [hlen] at hi; rw [hd i f hi]; exact g1 i f hi hf, by rw [hlen]; exact g2, by rw [hlen]; exact g3, by rw [hlen]; exact g4, by rw [hlen]; exact g5⟩
        | mix => exact ⟨fun i f hi hf => by rw [hlen] at hi; rw [hd i f hi]; exact hk.1 i f hi hf, hk.2.1, by rw [hlen]; exact hk.2.2⟩
        | ro => exact ⟨hk.1, fun i f hi hf => by rw [hlen] at hi; rw [hd i f hi]; exact hk.2.1 i f hi hf, hk.2.2⟩
        | lent => exact ⟨hk.1, fun i f hi hf => by rw [hlen] at hi; rw [hd i f hi]; exact hk.2.1 i f hi hf, hk.2.2⟩
    · exact hk.elim
  | mixr t =>
    simp only [gh1] at hk
    split at hk
    · rename_i sz α enc l eo
      obtain ⟨E', r'⟩ := r.toMix eo
      exact ⟨E', _, _, hk, r'⟩
    · exact hk.elim
  | cutc t j f =>
    simp only [gh1] at hk
    split at hk
    · rename_i own sz els eo
      obtain ⟨cs, ec, hk⟩ := ex_ok hk
      obtain ⟨c, ecf, hk⟩ := ex_ok hk
      rw [nth_eq] at ec ecf
      split at hk
      · rename_i u
        split at hk
        · rename_i k sz' α enc l eu
          obtain ⟨hk, hf⟩ := setK_ok _ _ _ _ hk
          obtain ⟨hk, hj⟩ := setK_ok _ _ _ _ hk
          have hu := r.ob u _ eu
          refine ⟨E, _, _, hk, r.retell eo (by simp) (fun e he => ?_) fun i g v hi hg hv => ?_⟩
          · rcases List.mem_or_eq_of_mem_set he with he | rfl
            · exact .inl he
            · exact .inr ⟨cs, List.mem_of_getElem? ec, by simp⟩
          · by_cases e : i = j
            · subst e
              rw [show (els.set i (cs.set f (.sl u (some (0, l.length))))).getD i [] = cs.set f (.sl u (some (0, l.length))) by simp [List.getD_eq_getElem?_getD, hj]]
              rw [show els.getD i [] = cs by simp [List.getD_eq_getElem?_getD, ec]] at hv
              by_cases e3 : f = g
              · subst e3
                rw [show cs.getD f .dead = .sl u none by simp [List.getD_eq_getElem?_getD, ecf]] at hv
                rw [show (cs.set f (.sl u (some (0, l.length)))).getD f .dead = .sl u (some (0, l.length)) by simp [List.getD_eq_getElem?_getD, hf]]
                obtain ⟨h1, h2⟩ := hv
                refine ⟨h1, fun o ho => ?_⟩
                have h3 := h2 o ho
                rw [eu] at ho; cases ho
                obtain ⟨_, _, h5⟩ := hu
                cases eg : E.γ u with
                | none =>
                  rw [eg] at h3
                  simp only [eg] at h5
                  obtain ⟨ab, q1, q2, _⟩ := h3
                  exact ⟨ab, q1, q2, .inr (by rw [h5.1]; rfl)⟩
                | some bp =>
                  obtain ⟨b, p⟩ := bp
                  rw [eg] at h3
                  obtain ⟨off, n, oo, c, q1, q2, q3, q4, q5, q6⟩ := h3
                  rcases q1 with ⟨_, rfl, rfl⟩ | q1
                  · exact ⟨0, _, oo, c, .inr rfl, q2, q3, q4, q5, q6⟩
                  · cases q1
              · rw [show (cs.set f (.sl u (some (0, l.length)))).getD g .dead = cs.getD g .dead by simp [List.getD_eq_getElem?_getD, List.getElem?_set_ne e3]]
                exact hv
            · rw [show (els.set j (cs.set f (.sl u (some (0, l.length))))).getD i [] = els.getD i [] by simp [List.getD_eq_getElem?_getD, List.getElem?_set_ne (Ne.symm e)]]
              exact hv
        · exact hk.elim
      · exact hk.elim
    · exact hk.elim

theorem ghs_sound : ∀ (gs : List GC) {E : Env} {s : Sl} {h : Hp} {K : Sl → Hp → Prop}, Rel C E s h a w → ghs gs s h K → ∃ E' s' h', K s' h' ∧ Rel C E' s' h' a w
  | [], E, s, h, K, r, hk => ⟨E, s, h, hk, r⟩
  | g :: gs, E, s, h, K, r, hk => by
    simp only [ghs] at hk
    obtain ⟨E1, s1, h1, hk, r1⟩ := gh1_sound r hk
    exact ghs_sound gs r1 hk
theorem gst_sound {id : Nat} {K : Sl → Hp → Prop} (r : Rel C E s h a w) (hk : gst S id s h K) : ∃ E' s' h', K s' h' ∧ Rel C E' s' h' a w := by
  unfold gst at hk
  split at hk
  · exact ⟨E, s, h, hk, r⟩
  · obtain ⟨gs, hk⟩ := hk
    exact ghs_sound gs r hk
end
end Go.Vm
