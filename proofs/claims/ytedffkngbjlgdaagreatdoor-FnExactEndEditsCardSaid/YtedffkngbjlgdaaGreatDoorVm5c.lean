/- A verified evaluator for Go code: results. -/
import Derived.Test.YtedffkngbjlgdaaGreatDoorVm5b
namespace Go.Vm
open Go.RowKit
set_option linter.unusedVariables false
set_option linter.unusedSimpArgs false

section
variable {P : Program} {T : Tab} {S : Cons} {C : Ctx} {E E1 : Env} {s : Sl} {h h1 : Hp} {w w' : World} {v : Value}

theorem Goods.nil (r : Hs C w E h) (t : Nat) (F : Nat → Prop) : Goods C w E h E h t t F [] [] := ⟨r, Add.refl E h t F, rfl, fun m hm => by simp [mens] at hm⟩

/-- The results of a call become objects. -/
theorem resK_sound (own : Bool) (T : Nat) : ∀ (gs : List Bool) (res : List (List D)) (t : Nat) (E : Env) (h : Hp) (rs : List Value) (Fs : List (Nat → Prop)) (K : List V → Nat → Hp → Prop), Hs C w E h → (∀ m, t ≤ m → m < T → NoMen m h) →
    ResR own w E.Kp gs res rs Fs → DisF Fs → (∀ F ∈ Fs, Fresh C w E h F) → resK (resK' own) gs res t h K →
    ∃ Vs t' h', K Vs t' h' ∧ t ≤ t' ∧ (t' ≤ T → ∃ E', Goods C w E h E' h' t t' (AnyF Fs) Vs rs)
  | [], [], t, E, h, [], [], K, r, hm, hR, hD, hF, hk => ⟨[], t, h, hk, Nat.le_refl _, fun _ => ⟨E, Goods.nil r t _⟩⟩
  | g :: gs, ds :: res, t, E, h, v :: rs, F :: Fs, K, r, hm, hR, hD, hF, hk => by
    simp only [resK] at hk
    obtain ⟨⟨cs, hc, hl, G, hg1, hg2, hg3⟩, hR⟩ := hR
    obtain ⟨hDF, hD⟩ := DisF_cons.1 hD
    have hF0 := hF F (List.mem_cons_self ..)
    obtain ⟨Vs, t1, h1, hk, hle, hgood⟩ := unfs_sound (resK' own) T ds t E h cs G _ r hm hl (fun i hi => hF0.sub fun x hx => (hg3 x).2 ⟨i, hi, hx⟩) hg2 (fun i hi => by
      have := hg1 i hi
      cases own with
      | true => exact this
      | false => exact this) hk
    have hone : ∀ y ∈ cs, y.oneCell' = true := by
      cases g with
      | true => exact hc.2
      | false => obtain ⟨rfl, h1⟩ := hc; simpa using h1
    by_cases ht1 : t1 ≤ T
    · obtain ⟨E1, gd⟩ := hgood ht1
      have hV : ∃ V, (resK (resK' own) gs res t1 h1 fun vs t'' h'' => K (V :: vs) t'' h'') ∧ VR w E1 (lookO h1) V v ∧ ∀ m, men m V = true → t ≤ m ∧ m < t1 := by
        cases g with
        | true => obtain ⟨rfl, _⟩ := hc; exact ⟨_, hk, ⟨cs, rfl, gd.vr, hone⟩, gd.men⟩
        | false =>
          obtain ⟨rfl, _⟩ := hc
          obtain ⟨V, hk, u, hu, hv⟩ := one_ok gd.vr hone hk
          cases hu
          have : Vs = [V] ∨ True := .inr trivial
          cases Vs with
          | nil => have := gd.vr; simp [VRs] at this
          | cons V0 l =>
            obtain ⟨y, ys, e1, e2, e3⟩ := gd.vr
            cases e1
            cases l with
            | cons V1 l => obtain ⟨_, _, e4, _⟩ := e3; cases e4
            | nil =>
              have hkk : resK (resK' own) gs res t1 h1 fun vs t'' h'' => K (V0 :: vs) t'' h'' := by assumption
              exact ⟨V0, hkk, e2, fun m hm => gd.men m (by simp only [mens, hm])⟩
      obtain ⟨V, hk, hv, hmen⟩ := hV
      have hF' : ∀ G' ∈ Fs, Fresh C w E1 h1 G' := fun G' hG => (hF G' (List.mem_cons_of_mem _ hG)).mono (fun y hy => hy) gd.add (by
        rintro y ⟨i, hi, hy⟩ hy'
        exact hDF y ((hg3 y).2 ⟨i, hi, hy⟩) ⟨G', hG, hy'⟩)
      obtain ⟨Vs', t', h', hk, hle2, hgood2⟩ := resK_sound own T gs res t1 E1 h1 rs Fs _ gd.hs (fun m h1 h2 => gd.add.nm m (.inr h1) (hm m (by omega) h2)) (by rw [gd.add.K]; exact hR) hD hF' hk
      refine ⟨_, t', h', hk, by omega, fun hT => ?_⟩
      obtain ⟨E2, gd2⟩ := hgood2 hT
      refine ⟨E2, gd2.hs, gd.add.trans gd2.add hle hle2 (fun x ⟨i, hi, hx⟩ => AnyF_cons.2 (.inl ((hg3 x).2 ⟨i, hi, hx⟩))) (fun x hx => AnyF_cons.2 (.inr hx)), ⟨v, rs, rfl, VR.mono (Shape.refl w) _ _ (fun m hm => gd2.add.sub m (by have := hmen m hm; omega)) hv, gd2.vr⟩, fun m hm => ?_⟩
      simp only [mens] at hm
      cases e : men m V with
      | true => have := hmen m e; omega
      | false => rw [e] at hm; have := gd2.men m hm; omega
    · -- too many names: nothing is said
      have hk' : ∃ V, resK (resK' own) gs res t1 h1 fun vs t'' h'' => K (V :: vs) t'' h'' := by
        unfold one at hk
        split at hk
        · exact ⟨_, hk⟩
        · split at hk
          · exact ⟨_, hk⟩
          · exact hk.elim
      obtain ⟨V, hk⟩ := hk'
      have le : ∀ (gs : List Bool) (res : List (List D)) (t : Nat) (h : Hp) (K : List Vm.V → Nat → Hp → Prop), resK (resK' own) gs res t h K → ∃ Vs t' h', K Vs t' h' ∧ t ≤ t' := by
        intro gs
        induction gs with
        | nil =>
          intro res t h K hk
          cases res with
          | nil => exact ⟨_, _, _, hk, Nat.le_refl _⟩
          | cons _ _ => exact hk.elim
        | cons g gs ih =>
          intro res t h K hk
          cases res with
          | nil => exact hk.elim
          | cons ds res =>
            simp only [resK] at hk
            obtain ⟨Vs, t1, h1, hk, hle⟩ := unfs_le _ ds t h _ hk
            have hk' : ∃ V, resK (resK' own) gs res t1 h1 fun vs t'' h'' => K (V :: vs) t'' h'' := by
              unfold one at hk
              split at hk
              · exact ⟨_, hk⟩
              · split at hk
                · exact ⟨_, hk⟩
                · exact hk.elim
            obtain ⟨V, hk⟩ := hk'
            obtain ⟨Vs, t', h', hk, hle2⟩ := ih res t1 h1 _ hk
            exact ⟨_, t', h', hk, by omega⟩
      obtain ⟨Vs', t', h', hk, hle2⟩ := le gs res t1 h1 _ hk
      exact ⟨_, t', h', hk, by omega, fun hT => by omega⟩
  | [], _ :: _, t, E, h, rs, Fs, K, r, hm, hR, hD, hF, hk => hk.elim
  | _ :: _, [], t, E, h, rs, Fs, K, r, hm, hR, hD, hF, hk => hk.elim
  | [], [], t, E, h, _ :: _, Fs, K, r, hm, hR, hD, hF, hk => by simp [ResR] at hR
  | [], [], t, E, h, [], _ :: _, K, r, hm, hR, hD, hF, hk => by simp [ResR] at hR
  | _ :: _, _ :: _, t, E, h, [], Fs, K, r, hm, hR, hD, hF, hk => by simp [ResR] at hR
  | _ :: _, _ :: _, t, E, h, _ :: _, [], K, r, hm, hR, hD, hF, hk => by simp [ResR] at hR

theorem retV_VR {g : Nat → Option Ob} : ∀ {Vs : List Vm.V} {rs : List Value} {v : Value}, VRs w E g Vs rs → retR rs v → VR w E g (retV Vs) v
  | [], rs, v, h, hr => by
    obtain rfl : rs = [] := h
    exact ⟨[], hr, rfl⟩
  | [V], rs, v, h, hr => by
    obtain ⟨x, xs, rfl, h1, h2⟩ := h
    obtain rfl : xs = [] := h2
    obtain rfl : v = x := hr
    exact h1
  | V :: V' :: Vs, rs, v, h, hr => by
    obtain ⟨x, xs, rfl, h1, y, ys, rfl, h2, h3⟩ := h
    exact ⟨_, hr, x, _, rfl, h1, y, ys, rfl, h2, h3⟩
end
end Go.Vm
