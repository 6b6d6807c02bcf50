/- A verified evaluator for Go code: deep data laid open. -/
import Derived.Test.YtedffkngbjlgdaaGreatDoorVm2
namespace Go.Vm
open Go.RowKit
set_option linter.unusedVariables false
set_option linter.unusedSimpArgs false

theorem Fresh.mono {C : Ctx} {w : World} {E E' : Env} {h h' : Hp} {F G : Nat → Prop} {t t' : Nat} {H : Nat → Prop} (hf : Fresh C w E h F) (hs : ∀ x, G x → F x) (a : Add E h E' h' t t' H) (hd : ∀ x, H x → ¬ G x) : Fresh C w E' h' G := by
  intro x hx
  obtain ⟨h1, h2, h3, h4⟩ := hf x (hs x hx)
  refine ⟨h1, h2, by rw [a.R]; exact h3, fun u hu hux => ?_⟩
  by_cases e : t ≤ u ∧ u < t'
  · exact hd x (a.Fn u e.1 e.2 x hux) hx
  · have hu' : u < t ∨ t' ≤ u := by omega
    rw [a.lk u hu'] at hu
    exact h4 u hu ((a.Fo u hu' x).1 hux)

theorem Fresh.sub {C : Ctx} {w : World} {E : Env} {h : Hp} {F G : Nat → Prop} (hf : Fresh C w E h F) (hs : ∀ x, G x → F x) : Fresh C w E h G := fun x hx => hf x (hs x hx)
theorem Fresh.drop {C : Ctx} {w : World} {E : Env} {h : Hp} {F : Nat → Prop} (hf : Fresh C w E h F) (t : Nat) : Fresh C w E ((t, none) :: h) F := by
  intro x hx
  obtain ⟨h1, h2, h3, h4⟩ := hf x hx
  refine ⟨h1, h2, h3, fun u hu => h4 u ?_⟩
  rw [lookO_cons] at hu
  split at hu
  · cases hu
  · exact hu

structure Good (C : Ctx) (w : World) (E : Env) (h : Hp) (E' : Env) (h' : Hp) (t t' : Nat) (F : Nat → Prop) (V : V) (v : Value) : Prop where
  hs : Hs C w E' h'
  add : Add E h E' h' t t' F
  vr : VR w E' (lookO h') V v
  men : ∀ m, men m V = true → t ≤ m ∧ m < t'

structure Goods (C : Ctx) (w : World) (E : Env) (h : Hp) (E' : Env) (h' : Hp) (t t' : Nat) (F : Nat → Prop) (Vs : List V) (vs : List Value) : Prop where
  hs : Hs C w E' h'
  add : Add E h E' h' t t' F
  vr : VRs w E' (lookO h') Vs vs
  men : ∀ m, mens m Vs = true → t ≤ m ∧ m < t'

theorem arr_one {C : Ctx} {w : World} {E E1 : Env} {h h1 : Hp} {t t' b o sz : Nat} {own : Bool} {Vs : List V} {F G : Nat → Prop} (vals : Nat → Value)
    (hs : Hs C w E1 h1) (ha : Add E h E1 h1 (t + 1) t' G) (hvr : VRs w E1 (lookO h1) Vs ((List.range sz).map vals)) (hmen : ∀ m, mens m Vs = true → t + 1 ≤ m ∧ m < t') (ht : t + 1 ≤ t')
    (hm : NoMen t h) (hb : b < w.heap.size) (hone : ∀ f, f < sz → (vals f).oneCell' = true) (hc : ∀ f, f < sz → w.cell? ⟨b, o + f, none⟩ = some (vals f))
    (hGF : ∀ x, G x → F x) (hk : match own with
      | true => F b ∧ Fresh C w E1 ((t, none) :: h1) (fun x => x = b) ∧ ∀ f, f < sz → w.frozen? ⟨b, o + f, none⟩ = false
      | false => E.R b) :
    ∃ E', Good C w E h E' ((t, some (.arr own sz [Vs])) :: h1) t t' F (.pt t 0 0) (.pointer (some ⟨b, o, none⟩)) := by
  have hlt : lookO ((t, some (.arr own sz [Vs])) :: h1) t = some (.arr own sz [Vs]) := by rw [lookO_cons, if_pos rfl]
  have hlen : Vs.length = sz := by rw [hvr.length]; simp
  have hm1 : NoMen t h1 := ha.nm t (by omega) hm
  let F1 : Nat → Prop := match own with | true => fun x => x = b | false => fun _ => False
  have hob : ObR w (E1.set t (some (b, o)) F1) (lookO ((t, some (.arr own sz [Vs])) :: h1)) t (.arr own sz [Vs]) := by
    refine ⟨by simp, b, o, Env.set_γ _ _ _ _, hb, by simpa using hlen, ⟨fun _ f => vals f, ?_, fun i f hi hf => ?_⟩, ?_⟩
    · intro i f hi hf
      obtain rfl : i = 0 := by simpa using hi
      simpa using hc f hf
    · obtain rfl : i = 0 := by simpa using hi
      obtain ⟨x, hx, hv⟩ := hvr.get f (by omega)
      simp [hf] at hx; subst hx
      refine ⟨?_, hone f hf⟩
      have : ([Vs].getD 0 []).getD f .dead = Vs.getD f .dead := rfl
      rw [this]
      refine VR.mono (Shape.refl w) _ _ (fun u hu o' ho' => ?_) hv
      have hne : u ≠ t := by
        have hu' : mens u Vs = true := by
          simp only [List.getD_eq_getElem?_getD] at hu
          cases e : Vs[f]? with
          | none => simp [e, Go.Vm.men] at hu
          | some y => simp [e] at hu; exact mens_mem (List.mem_of_getElem? e) hu
        have := hmen u hu'; omega
      rw [lookO_cons, if_neg (Ne.symm hne)] at ho'
      exact ⟨o', ho', rfl, rfl, id, Env.set_γ' _ _ _ hne⟩
    · cases own with
      | true => exact ⟨fun x => Env.set_F _ _ _ _ x, fun j hj => hk.2.2 j (by simpa using hj)⟩
      | false => exact ⟨by show E1.R b; rw [ha.R]; exact hk, fun x hx => (Env.set_F E1 t _ F1 x).1 hx⟩
  have hfr : Fresh C w E1 ((t, none) :: h1) F1 := by
    cases own with
    | true => exact hk.2.1
    | false => exact fun x hx => hx.elim
  refine ⟨_, hs.add hm1 hfr hob, ⟨fun u hu => ?_, fun u hu => ?_, fun u hu x => ?_, fun u h1 h2 x hx => ?_, ha.R, ha.K, fun m hm' hn u o' ho' => ?_, fun u h1 h2 o' ho' m hm' => ?_⟩, ⟨⟨_, rfl⟩, fun o' ho' => ?_⟩, fun m hm' => ?_⟩
  · rw [lookO_cons, if_neg (by omega)]; exact ha.lk u (by omega)
  · rw [Env.set_γ' _ _ _ (by omega)]; exact ha.γ u (by omega)
  · rw [Env.set_F' _ _ _ (by omega)]; exact ha.Fo u (by omega) x
  · by_cases e : u = t
    · subst e
      rw [Env.set_F] at hx
      cases own with
      | true => obtain rfl : x = b := hx; exact hk.1
      | false => exact hx.elim
    · rw [Env.set_F' _ _ _ e] at hx
      exact hGF x (ha.Fn u (by omega) h2 x hx)
  · rw [lookO_cons] at ho'
    split at ho'
    · cases ho'
      simp only [obMen, elsMen]
      cases e : mens m Vs with
      | false => rfl
      | true => have := hmen m e; omega
    · exact ha.nm m (by omega) hn u o' ho'
  · by_cases e : u = t
    · subst e
      rw [hlt] at ho'; cases ho'
      simp only [obMen, elsMen] at hm'
      cases e : mens m Vs with
      | false => rw [e] at hm'; cases hm'
      | true => have := hmen m e; omega
    · rw [lookO_cons, if_neg (Ne.symm e)] at ho'
      have := ha.nn u (by omega) h2 o' ho' m hm'; omega
  · rw [hlt] at ho'; cases ho'
    exact ⟨b, o, Env.set_γ _ _ _ _, by simp⟩
  · have : t = m := by simpa [Go.Vm.men] using nbeq_eq hm'
    omega

mutual
theorem unf_le (k : Kind) : ∀ (d : D) (t : Nat) (h : Hp) (K : V → Nat → Hp → Prop), unf k d t h K → ∃ V t' h', K V t' h' ∧ t ≤ t'
  | .lf u, t, h, K, hk => ⟨_, t, h, hk, Nat.le_refl _⟩
  | .dead, t, h, K, hk => ⟨_, t, h, hk, Nat.le_refl _⟩
  | .row sz enc l, t, h, K, hk => ⟨_, t + 1, _, hk, by omega⟩
  | .box cs, t, h, K, hk => by
    simp only [unf] at hk
    obtain ⟨Vs, t', h', hk, hle⟩ := unfs_le k cs (t + 1) h _ hk
    cases k <;> exact ⟨_, t', _, hk, by omega⟩
  | .fn f cs, t, h, K, hk => by
    simp only [unf] at hk
    obtain ⟨Vs, t', h', hk, hle⟩ := unfs_le k cs t h _ hk
    exact ⟨_, t', _, hk, hle⟩
  | .sh d, t, h, K, hk => by
    simp only [unf] at hk
    exact unf_le (shK k) d t h _ hk
theorem unfs_le (k : Kind) : ∀ (ds : List D) (t : Nat) (h : Hp) (K : List V → Nat → Hp → Prop), unfs k ds t h K → ∃ Vs t' h', K Vs t' h' ∧ t ≤ t'
  | [], t, h, K, hk => ⟨[], t, h, hk, Nat.le_refl _⟩
  | d :: ds, t, h, K, hk => by
    simp only [unfs] at hk
    obtain ⟨V, t', h', hk, hle⟩ := unf_le k d t h _ hk
    obtain ⟨Vs, t'', h'', hk, hle2⟩ := unfs_le k ds t' h' _ hk
    exact ⟨_, t'', h'', hk, by omega⟩
end

mutual
theorem unf_sound {C : Ctx} {w : World} (k : Kind) (T : Nat) : ∀ (d : D) (t : Nat) (E : Env) (h : Hp) (v : Value) (F : Nat → Prop) (K : V → Nat → Hp → Prop), Hs C w E h → (∀ m, t ≤ m → m < T → NoMen m h) → Fresh C w E h F →
    UnD k w E F v d → unf k d t h K → ∃ V t' h', K V t' h' ∧ t ≤ t' ∧ (t' ≤ T → ∃ E', Good C w E h E' h' t t' F V v)
  | .lf u, t, E, h, v, F, K, r, hm, hF, hd, hk => by
    refine ⟨_, t, h, hk, Nat.le_refl _, fun _ => ⟨E, r, Add.refl E h t F, ?_, fun m hm => by simp [Go.Vm.men] at hm⟩⟩
    cases k with
    | own => cases (show Own w E.Kp F v (.lf u) from hd); exact ⟨rfl, ‹_›⟩
    | mix => exact hd.elim
    | ro => cases hd.1; exact ⟨rfl, ‹_›⟩
    | lent => cases hd.1; exact ⟨rfl, ‹_›⟩
  | .dead, t, E, h, v, F, K, r, hm, hF, hd, hk => by
    refine ⟨_, t, h, hk, Nat.le_refl _, fun _ => ⟨E, r, Add.refl E h t F, ?_, fun m hm => by simp [Go.Vm.men] at hm⟩⟩
    cases k with
    | own => cases (show Own w E.Kp F v .dead from hd); assumption
    | mix => exact hd.elim
    | ro => cases hd.1; assumption
    | lent => cases hd.1; assumption
  | .row sz enc l, t, E, h, v, F, K, r, hm, hF, hd, hk => by
    refine ⟨_, t + 1, _, hk, by omega, fun hT => ?_⟩
    obtain ⟨E', h1, h2, h3⟩ := unf_row r (hm t (Nat.le_refl _) (by omega)) (hF.drop t) hd
    exact ⟨E', h1, h2, h3, fun m hm => by have : t = m := nbeq_eq hm; omega⟩
  | .box cs, t, E, h, v, F, K, r, hm, hF, hd, hk => by
    simp only [unf] at hk
    cases k with
    | mix => exact hd.elim
    | own =>
      cases (show Own w E.Kp F v (.box cs) from hd) with
      | box vals G hb hv hfr hr hdd hg hFF =>
        rename_i b o
        obtain ⟨Vs, t', h', hk, hle, hgood⟩ := unfs_sound .own T cs (t + 1) E h ((List.range cs.length).map vals) G _ r (fun m h1 h2 => hm m (by omega) h2) (by simp)
          (fun i hi => hF.sub fun x hx => (hFF x).2 (.inr ⟨i, hi, hx⟩)) hdd (fun i hi => by simpa [hi, UnD] using hr i hi) hk
        refine ⟨_, t', _, hk, by omega, fun hT => ?_⟩
        obtain ⟨E1, g⟩ := hgood hT
        refine arr_one vals g.hs g.add g.vr g.men hle (hm t (Nat.le_refl _) (by omega)) hb (fun f hf => (hr f hf).one) hv (fun x hx => ?_) ⟨(hFF b).2 (.inl rfl), ?_, hfr⟩
        · obtain ⟨i, hi, hx⟩ := hx; exact (hFF x).2 (.inr ⟨i, hi, hx⟩)
        · exact (hF.mono (G := fun x => x = b) (fun x hx => (hFF x).2 (.inl hx)) g.add (fun x hx hxb => by obtain ⟨i, hi, hx⟩ := hx; subst hxb; exact hg i hi hx)).drop t
    | ro =>
      obtain ⟨hd, hFe⟩ := hd
      cases hd with
      | box vals hR hb hv hr =>
        rename_i b o
        obtain ⟨Vs, t', h', hk, hle, hgood⟩ := unfs_sound .ro T cs (t + 1) E h ((List.range cs.length).map vals) (fun _ _ => False) _ r (fun m h1 h2 => hm m (by omega) h2) (by simp)
          (fun i hi x hx => hx.elim) (fun _ _ _ _ _ _ hx => hx.elim) (fun i hi => ⟨by simpa [hi] using hr i hi, fun _ h => h⟩) hk
        refine ⟨_, t', _, hk, by omega, fun hT => ?_⟩
        obtain ⟨E1, g⟩ := hgood hT
        exact arr_one vals g.hs g.add g.vr g.men hle (hm t (Nat.le_refl _) (by omega)) hb (fun f hf => (hr f hf).one) hv (fun x hx => by obtain ⟨i, hi, hx⟩ := hx; exact hx.elim) (r.KR b hR)
    | lent =>
      obtain ⟨hd, hFe⟩ := hd
      cases hd with
      | box vals hR hb hv hr =>
        rename_i b o
        obtain ⟨Vs, t', h', hk, hle, hgood⟩ := unfs_sound .lent T cs (t + 1) E h ((List.range cs.length).map vals) (fun _ _ => False) _ r (fun m h1 h2 => hm m (by omega) h2) (by simp)
          (fun i hi x hx => hx.elim) (fun _ _ _ _ _ _ hx => hx.elim) (fun i hi => ⟨by simpa [hi] using hr i hi, fun _ h => h⟩) hk
        refine ⟨_, t', _, hk, by omega, fun hT => ?_⟩
        obtain ⟨E1, g⟩ := hgood hT
        exact arr_one vals g.hs g.add g.vr g.men hle (hm t (Nat.le_refl _) (by omega)) hb (fun f hf => (hr f hf).one) hv (fun x hx => by obtain ⟨i, hi, hx⟩ := hx; exact hx.elim) hR
  | .fn f cs, t, E, h, v, F, K, r, hm, hF, hd, hk => by
    simp only [unf] at hk
    have main : ∃ vs : List Value, v = .func (.func f) #[] vs.toArray ∧ vs.length = cs.length ∧ (∀ x ∈ vs, x.oneCell' = true) ∧ ∀ i, i < cs.length → UnD k w E (fun _ => False) (vs.getD i undef) (cs.getD i .dead) := by
      cases k with
      | mix => exact hd.elim
      | own => cases (show Own w E.Kp F v (.fn f cs) from hd); exact ⟨[], rfl, rfl, by simp, fun i hi => by simp at hi⟩
      | ro =>
        obtain ⟨hd, _⟩ := hd
        cases hd with
        | fn vs hl hr => exact ⟨vs, rfl, hl, fun x hx => by obtain ⟨i, hi, rfl⟩ := List.mem_iff_getElem.1 hx; have := (hr i (by omega)).one; simpa [hi] using this, fun i hi => ⟨hr i hi, fun _ h => h⟩⟩
      | lent =>
        obtain ⟨hd, _⟩ := hd
        cases hd with
        | fn vs hl hr => exact ⟨vs, rfl, hl, fun x hx => by obtain ⟨i, hi, rfl⟩ := List.mem_iff_getElem.1 hx; have := (hr i (by omega)).one; simpa [hi] using this, fun i hi => ⟨hr i hi, fun _ h => h⟩⟩
    obtain ⟨vs, rfl, hl, hone, hr⟩ := main
    obtain ⟨Vs, t', h', hk, hle, hgood⟩ := unfs_sound k T cs t E h vs (fun _ _ => False) _ r hm hl (fun i hi x hx => hx.elim) (fun _ _ _ _ _ _ hx => hx.elim) hr hk
    refine ⟨_, t', h', hk, hle, fun hT => ?_⟩
    obtain ⟨E1, g⟩ := hgood hT
    exact ⟨E1, g.hs, (Add.trans g.add (Add.refl E1 h' t' F) hle (Nat.le_refl _) (fun x hx => by obtain ⟨i, hi, hx⟩ := hx; exact hx.elim) (fun x hx => hx)), ⟨vs, rfl, g.vr, hone⟩, g.men⟩
  | .sh d, t, E, h, v, F, K, r, hm, hF, hd, hk => by
    simp only [unf] at hk
    have hd' : UnD (shK k) w E F v d := by
      cases k with
      | mix => exact hd.elim
      | own => cases (show Own w E.Kp F v (.sh d) from hd) with | sh h1 h2 => exact ⟨h1, h2⟩
      | ro => obtain ⟨h1, h2⟩ := hd; cases h1 with | sh h1 => exact ⟨h1, h2⟩
      | lent => obtain ⟨h1, h2⟩ := hd; cases h1 with | sh h1 => exact ⟨h1, h2⟩
    exact unf_sound (shK k) T d t E h v F K r hm hF hd' hk
theorem unfs_sound {C : Ctx} {w : World} (k : Kind) (T : Nat) : ∀ (ds : List D) (t : Nat) (E : Env) (h : Hp) (vs : List Value) (G : Nat → Nat → Prop) (K : List V → Nat → Hp → Prop), Hs C w E h → (∀ m, t ≤ m → m < T → NoMen m h) →
    vs.length = ds.length → (∀ i, i < ds.length → Fresh C w E h (G i)) → (∀ i j, i < ds.length → j < ds.length → i ≠ j → ∀ x, G i x → ¬ G j x) →
    (∀ i, i < ds.length → UnD k w E (G i) (vs.getD i undef) (ds.getD i .dead)) → unfs k ds t h K →
    ∃ Vs t' h', K Vs t' h' ∧ t ≤ t' ∧ (t' ≤ T → ∃ E', Goods C w E h E' h' t t' (fun x => ∃ i, i < ds.length ∧ G i x) Vs vs)
  | [], t, E, h, vs, G, K, r, hm, hl, hF, hdis, hd, hk => by
    obtain rfl : vs = [] := List.length_eq_zero_iff.1 hl
    exact ⟨[], t, h, hk, Nat.le_refl _, fun _ => ⟨E, r, Add.refl E h t _, rfl, fun m hm => by simp [mens] at hm⟩⟩
  | d :: ds, t, E, h, vs, G, K, r, hm, hl, hF, hdis, hd, hk => by
    obtain ⟨v, vs, rfl⟩ : ∃ v vs', vs = v :: vs' := by cases vs with | nil => simp at hl | cons v vs => exact ⟨v, vs, rfl⟩
    simp only [unfs] at hk
    obtain ⟨V, t', h', hk, hle, hg⟩ := unf_sound k T d t E h v (G 0) _ r hm (hF 0 (by simp)) (hd 0 (by simp)) hk
    by_cases hT : t' ≤ T
    · obtain ⟨E1, g⟩ := hg hT
      obtain ⟨Vs, t'', h'', hk, hle2, hg2⟩ := unfs_sound k T ds t' E1 h' vs (fun i => G (i + 1)) _ g.hs (fun m h1 h2 => g.add.nm m (by omega) (hm m (by omega) h2)) (by simpa using hl)
        (fun i hi => (hF (i + 1) (by simpa using hi)).mono (fun _ h => h) g.add (fun x hx hx' => hdis 0 (i + 1) (by simp) (by simpa using hi) (by omega) x hx hx'))
        (fun i j hi hj hne => hdis (i + 1) (j + 1) (by simpa using hi) (by simpa using hj) (by omega))
        (fun i hi => (by simpa using hd (i + 1) (by simpa using hi) : UnD k w E (G (i + 1)) (vs.getD i undef) (ds.getD i .dead)).env g.add.R g.add.K) hk
      refine ⟨V :: Vs, t'', h'', hk, by omega, fun hT2 => ?_⟩
      obtain ⟨E2, g2⟩ := hg2 hT2
      refine ⟨E2, g2.hs, Add.trans g.add g2.add hle hle2 (fun x hx => ⟨0, by simp, hx⟩) (fun x hx => ?_), ⟨v, vs, rfl, VR.mono (Shape.refl w) _ _ (fun u hu => g2.add.sub u (.inl (g.men u hu).2)) g.vr, g2.vr⟩, fun m hm' => ?_⟩
      · obtain ⟨i, hi, hx⟩ := hx
        exact ⟨i + 1, by simpa using hi, hx⟩
      · simp only [mens] at hm'
        split at hm'
        · rename_i e; have := g.men m e; omega
        · have := g2.men m hm'; omega
    · obtain ⟨Vs, t'', h'', hk, hle2⟩ : ∃ Vs t'' h'', K (V :: Vs) t'' h'' ∧ t' ≤ t'' := unfs_le k ds t' h' (fun Vs t'' h'' => K (V :: Vs) t'' h'') hk
      exact ⟨V :: Vs, t'', h'', hk, by omega, fun hT2 => by omega⟩
end
end Go.Vm
