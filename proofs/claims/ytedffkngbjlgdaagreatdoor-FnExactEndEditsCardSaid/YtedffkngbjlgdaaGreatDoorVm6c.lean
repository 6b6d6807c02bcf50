/- A verified evaluator for Go code: a function's start. -/
import Derived.Test.YtedffkngbjlgdaaGreatDoorVm6b
namespace Go.Vm
open Go.RowKit
set_option linter.unusedVariables false
set_option linter.unusedSimpArgs false

section
variable {P : Program} {T : Tab} {S : Cons} {C : Ctx} {E E1 : Env} {s : Sl} {h h1 : Hp} {a : Act} {w w' : World} {v : Value}

theorem one_inv {g : Bool} {cs : List V} {K : V → Prop} (hk : one g cs K) : ∃ V, K V ∧ (g = true ∧ V = .agg cs ∨ g = false ∧ cs = [V]) := by
  cases g with
  | true => exact ⟨_, hk, .inl ⟨rfl, rfl⟩⟩
  | false =>
    cases cs with
    | nil => exact hk.elim
    | cons c l =>
      cases l with
      | nil => exact ⟨c, hk, .inr ⟨rfl, rfl⟩⟩
      | cons _ _ => exact hk.elim

theorem one_val' {g : Bool} {cs : List Vm.V} {us : List Value} {V : Vm.V} {G : Nat → Option Ob} (hc : CellsOf g v us) (hv : VRs w E G cs us) (hone : ∀ y ∈ us, y.oneCell' = true) (hV : g = true ∧ V = .agg cs ∨ g = false ∧ cs = [V]) :
    VR w E G V v ∧ ∀ m, men m V = mens m cs := by
  rcases hV with ⟨rfl, rfl⟩ | ⟨rfl, rfl⟩
  · obtain ⟨rfl, _⟩ := hc; exact ⟨⟨us, rfl, hv, hone⟩, fun m => rfl⟩
  · obtain ⟨rfl, _⟩ := hc
    obtain ⟨x, xs, e1, h1, h2⟩ := hv
    cases e1
    exact ⟨h1, fun m => by simp only [mens]; cases men m V <;> rfl⟩

def mKind (m : Mode) : Kind := match m with | .rd => .lent | .keep => .ro | _ => .own
theorem modeKind_ok {m : Mode} {K : Kind → Prop} (h : modeKind m K) : K (mKind m) := by cases m <;> exact h

theorem start_sound {R Kp : Nat → Prop} {tv : Nat → Value} : ∀ (ps : List (Mode × Bool)) (dss : List (List D)) (vs : List Value) (Fs : List (Nat → Prop)) (n : Nat) (s : Sl) (h : Hp) (E : Env) (K : Sl → Hp → Prop), Hs C w E h → E.R = R → E.Kp = Kp →
    (∀ m, 16 * n ≤ m → NoMen m h) → (∀ k m, men m (look s k) = true → m < 16 * n) → (∀ k, look s k = .dead ∨ VR w E (lookO h) (look s k) (tv k)) → (∀ i, i < vs.length → tv (n + i) = vs.getD i undef ∧ tv (1000000 + (n + i)) = vs.getD i undef) →
    ArgsR w R Kp ps dss vs Fs → DisF Fs → (∀ F ∈ Fs, Fresh C w E h F) → startK ps dss n s h K →
    ∃ s' h' E', K s' h' ∧ Hs C w E' h' ∧ ∀ k, look s' k = .dead ∨ VR w E' (lookO h') (look s' k) (tv k)
  | [], [], [], [], n, s, h, E, K, r, hR, hK, hm, hs, hsl, htv, hA, hD, hF, hk => ⟨s, h, E, hk, r, hsl⟩
  | (m, g) :: ps, ds :: dss, v :: vs, F :: Fs, n, s, h, E, K, r, hR, hK, hm, hs, hsl, htv, hA, hD, hF, hk => by
    simp only [startK] at hk
    obtain ⟨⟨cs, hc, hl, G, g1, g2, g3⟩, hA⟩ := hA
    obtain ⟨hDF, hD⟩ := DisF_cons.1 hD
    have hF0 := hF F (List.mem_cons_self ..)
    obtain ⟨Vs, t', h', hk, hle, hgood⟩ := unfs_sound (mKind m) (16 * n + 16) ds (16 * n) E h cs G _ r (fun q h1 _ => hm q h1) hl (fun i hi => hF0.sub fun x hx => (g3 x).2 ⟨i, hi, hx⟩) g2 (fun i hi => by
      have := g1 i hi
      subst hR hK
      cases m with
      | rd => exact this
      | keep => exact this
      | «mut» => exact this
      | take => exact this) (modeKind_ok hk)
    obtain ⟨V, hk, hV⟩ := one_inv hk
    split at hk
    · rename_i hble
      have ht := Nat.le_of_ble_eq_true hble
      obtain ⟨E1, gd⟩ := hgood ht
      have hone : ∀ y ∈ cs, y.oneCell' = true := by
        cases g with
        | true => exact hc.2
        | false => obtain ⟨rfl, h1⟩ := hc; simpa using h1
      obtain ⟨hvr, hmen⟩ := one_val' hc gd.vr hone hV
      have hold : ∀ k, look s k = .dead ∨ VR w E1 (lookO h') (look s k) (tv k) := fun k => (hsl k).imp id fun h1 => VR.mono (Shape.refl w) _ _ (fun u hu => gd.add.sub u (by have := hs k u hu; omega)) h1
      have hm' : ∀ q, 16 * (n + 1) ≤ q → NoMen q h' := fun q hq => gd.add.nm q (.inr (by omega)) (hm q (by omega))
      have htv0 := htv 0 (by simp)
      simp only [Nat.add_zero, List.getD_cons_zero] at htv0
      have htv' : ∀ i, i < vs.length → tv (n + 1 + i) = vs.getD i undef ∧ tv (1000000 + (n + 1 + i)) = vs.getD i undef := by
        intro i hi
        have := htv (i + 1) (by simpa using hi)
        rw [show n + 1 + i = n + (i + 1) by omega]
        simpa using this
      have hF' : ∀ G' ∈ Fs, Fresh C w E1 h' G' := fun G' hG => (hF G' (List.mem_cons_of_mem _ hG)).mono (fun y hy => hy) gd.add (by
        rintro y ⟨i, hi, hy⟩ hy'
        exact hDF y ((g3 y).2 ⟨i, hi, hy⟩) ⟨G', hG, hy'⟩)
      have hVm : ∀ q, men q V = true → q < 16 * (n + 1) := fun q hq => by rw [hmen q] at hq; have := gd.men q hq; omega
      have s1 : ∀ k q, men q (look ((n, V) :: s) k) = true → q < 16 * (n + 1) := by
        intro k q hq
        rw [look_cons] at hq
        split at hq
        · exact hVm q hq
        · have := hs k q hq; omega
      have s2 : ∀ k, look ((n, V) :: s) k = .dead ∨ VR w E1 (lookO h') (look ((n, V) :: s) k) (tv k) := by
        intro k
        rw [look_cons]
        split
        · rename_i e; subst e; rw [htv0.1]; exact .inr hvr
        · exact hold k
      have plain : startK ps dss (n + 1) ((n, V) :: s) h' K → ∃ s' h' E', K s' h' ∧ Hs C w E' h' ∧ ∀ k, look s' k = .dead ∨ VR w E' (lookO h') (look s' k) (tv k) := fun hk =>
        start_sound ps dss vs Fs (n + 1) _ h' E1 K gd.hs (gd.add.R.trans hR) (gd.add.K.trans hK) hm' s1 s2 htv' hA hD hF' hk
      cases m with
      | rd => exact plain hk
      | keep => exact plain hk
      | take => exact plain hk
      | «mut» =>
        refine start_sound ps dss vs Fs (n + 1) _ h' E1 K gd.hs (gd.add.R.trans hR) (gd.add.K.trans hK) hm' (fun k q hq => ?_) (fun k => ?_) htv' hA hD hF' hk
        · rw [look_cons] at hq
          split at hq
          · exact hVm q hq
          · exact s1 k q hq
        · rw [look_cons]
          split
          · rename_i e; subst e; rw [htv0.2]; exact .inr hvr
          · exact s2 k
    · exact hk.elim
  | [], _ :: _, vs, Fs, n, s, h, E, K, r, hR, hK, hm, hs, hsl, htv, hA, hD, hF, hk => hk.elim
  | _ :: _, [], vs, Fs, n, s, h, E, K, r, hR, hK, hm, hs, hsl, htv, hA, hD, hF, hk => hk.elim
  | [], [], _ :: _, Fs, n, s, h, E, K, r, hR, hK, hm, hs, hsl, htv, hA, hD, hF, hk => by simp [ArgsR] at hA
  | [], [], [], _ :: _, n, s, h, E, K, r, hR, hK, hm, hs, hsl, htv, hA, hD, hF, hk => by simp [ArgsR] at hA
  | _ :: _, _ :: _, [], Fs, n, s, h, E, K, r, hR, hK, hm, hs, hsl, htv, hA, hD, hF, hk => by simp [ArgsR] at hA
  | _ :: _, _ :: _, _ :: _, [], n, s, h, E, K, r, hR, hK, hm, hs, hsl, htv, hA, hD, hF, hk => by simp [ArgsR] at hA

/-! ### The end -/
theorem mvRes_sound (own : Bool) : ∀ (Vss : List (List V)) (E : Env) (h : Hp) (gs : List Bool) (vs : List Value) (K : List (List D) → Hp → Prop), Hs C w E h →
    (gs.length = Vss.length ∧ vs.length = Vss.length ∧ ∀ i, i < Vss.length → ∃ cs, CellsOf (gs.getD i false) (vs.getD i undef) cs ∧ VRs w E (lookO h) (Vss.getD i []) cs ∧ ∀ y ∈ cs, y.oneCell' = true) → mvRes own Vss h K →
    ∃ dss h' E' Fs, K dss h' ∧ Mv C w E h E' h' (AnyF Fs) ∧ DisF Fs ∧ ResR own w E'.Kp gs dss vs Fs
  | [], E, h, gs, vs, K, r, ⟨h1, h2, h3⟩, hk => by
    rw [List.length_nil, List.length_eq_zero_iff] at h1 h2
    subst h1 h2
    exact ⟨[], h, E, [], hk, Mv.none r (Tr.refl E h) (fun x hx => AnyF_nil hx), List.Pairwise.nil, trivial⟩
  | Vs :: Vss, E, h, gs, vs, K, r, ⟨h1, h2, h3⟩, hk => by
    cases gs with
    | nil => simp at h1
    | cons g gs =>
      cases vs with
      | nil => simp at h2
      | cons v vs =>
        simp only [mvRes] at hk
        obtain ⟨cs, hc, hv, hone⟩ := h3 0 (by simp)
        simp only [List.getD_cons_zero] at hc hv
        obtain ⟨ds, h', E', G, hk, mv, hl, hd, hdis⟩ := mvDs_sound fuel own E h Vs cs _ r hv hone hk
        obtain ⟨dss, h'', E'', Fs, hk, mv2, hD, hR⟩ := mvRes_sound own Vss E' h' gs vs _ mv.hs ⟨by simpa using h1, by simpa using h2, fun i hi => by
          obtain ⟨cs, q1, q2, q3⟩ := h3 (i + 1) (by simpa using hi)
          simp only [List.getD_cons_succ] at q1 q2
          exact ⟨cs, q1, VRs.mono (Shape.refl w) _ _ (fun u _ => mv.tr.sub u) q2, q3⟩⟩ hk
        obtain ⟨mv3, hdj⟩ := mv.trans mv2
        have e : (AnyF ((fun x => ∃ i, i < Vs.length ∧ G i x) :: Fs)) = fun x => (∃ i, i < Vs.length ∧ G i x) ∨ AnyF Fs x := funext fun x => propext AnyF_cons
        refine ⟨_, h'', E'', (fun x => ∃ i, i < Vs.length ∧ G i x) :: Fs, hk, by rw [e]; exact mv3, DisF_cons.2 ⟨hdj, hD⟩, ⟨⟨cs, hc, by rw [hl, hv.length], G, fun f hf => ?_, fun f g hf hg => hdis f g (by omega) (by omega), fun x => by rw [hl]⟩, hR⟩⟩
        have := (hd f (by omega)).mono mv2.tr.K
        cases own with
        | true => exact this
        | false => exact this

theorem OutsR.mono {Kp Kp' : Nat → Prop} (hK : ∀ x, Kp x → Kp' x) : ∀ {vs : List Value} {os : List (List D)} {Os : List (Nat → Prop)}, OutsR w Kp vs os Os → OutsR w Kp' vs os Os
  | [], [], [], _ => trivial
  | _ :: _, [_] :: _, _ :: _, h => ⟨h.1.mono hK, OutsR.mono hK h.2⟩
  | [], [], _ :: _, h => h.elim
  | [], _ :: _, _, h => by cases h
  | _ :: _, [], _, h => by cases h
  | _ :: _, [] :: _, _, h => by cases h
  | _ :: _, (_ :: _ :: _) :: _, _, h => by cases h
  | _ :: _, [_] :: _, [], h => by cases h
theorem OutsR.app {Kp : Nat → Prop} : ∀ {vs us : List Value} {os ps : List (List D)} {Os Ps : List (Nat → Prop)}, OutsR w Kp vs os Os → OutsR w Kp us ps Ps → OutsR w Kp (vs ++ us) (os ++ ps) (Os ++ Ps)
  | [], us, [], ps, [], Ps, _, h2 => h2
  | _ :: _, us, [_] :: _, ps, _ :: _, Ps, h1, h2 => ⟨h1.1, OutsR.app h1.2 h2⟩
  | [], _, [], _, _ :: _, _, h, _ => h.elim
  | [], _, _ :: _, _, _, _, h, _ => by cases h
  | _ :: _, _, [], _, _, _, h, _ => by cases h
  | _ :: _, _, [] :: _, _, _, _, h, _ => by cases h
  | _ :: _, _, (_ :: _ :: _) :: _, _, _, _, h, _ => by cases h
  | _ :: _, _, [_] :: _, _, [], _, h, _ => by cases h

theorem mvEach_sound : ∀ (cs : List V) (us : List Value) (E : Env) (h : Hp) (K : List (List D) → Hp → Prop), Hs C w E h → VRs w E (lookO h) cs us → mvEach cs h K →
    ∃ os h' E' Os, K os h' ∧ Mv C w E h E' h' (AnyF Os) ∧ DisF Os ∧ OutsR w E'.Kp us os Os
  | [], us, E, h, K, r, hv, hk => by
    obtain rfl : us = [] := hv
    exact ⟨[], h, E, [], hk, Mv.none r (Tr.refl E h) (fun x hx => AnyF_nil hx), List.Pairwise.nil, trivial⟩
  | c :: cs, us, E, h, K, r, hv, hk => by
    obtain ⟨x, xs, rfl, h2, h3⟩ := hv
    simp only [mvEach] at hk
    obtain ⟨d, h', E', F, hk, mv, hd⟩ := mvD_sound fuel true E h c x _ r h2 hk
    obtain ⟨os, h'', E'', Os, hk, mv2, hD, hO⟩ := mvEach_sound cs xs E' h' _ mv.hs (VRs.mono (Shape.refl w) _ _ (fun u _ => mv.tr.sub u) h3) hk
    obtain ⟨mv3, hdj⟩ := mv.trans mv2
    have e : (AnyF (F :: Os)) = fun x => F x ∨ AnyF Os x := funext fun x => propext AnyF_cons
    exact ⟨_, h'', E'', F :: Os, hk, by rw [e]; exact mv3, DisF_cons.2 ⟨hdj, hD⟩, Own.mono hd mv2.tr.K, hO⟩

theorem endOuts_sound {tv : Nat → Value} (s : Sl) : ∀ (ps : List (Mode × Bool)) (n : Nat) (E : Env) (h : Hp) (vs : List Value) (K : List (List D) → Prop), Hs C w E h → vs.length = ps.length → (∀ i, i < vs.length → tv (1000000 + (n + i)) = vs.getD i undef) →
    (∀ k, look s k = .dead ∨ VR w E (lookO h) (look s k) (tv k)) → endOuts s ps n h K →
    ∃ outs h' E' Os, K outs ∧ Mv C w E h E' h' (AnyF Os) ∧ DisF Os ∧ OutsR w E'.Kp (mutsW ps vs) outs Os
  | [], n, E, h, vs, K, r, hl, htv, hsl, hk => by
    rw [List.length_nil, List.length_eq_zero_iff] at hl
    subst hl
    exact ⟨[], h, E, [], hk, Mv.none r (Tr.refl E h) (fun x hx => AnyF_nil hx), List.Pairwise.nil, trivial⟩
  | (m, g) :: ps, n, E, h, vs, K, r, hl, htv, hsl, hk => by
    cases vs with
    | nil => simp at hl
    | cons v vs =>
      have htv' : ∀ i, i < vs.length → tv (1000000 + (n + 1 + i)) = vs.getD i undef := by
        intro i hi
        have := htv (i + 1) (by simpa using hi)
        rw [show n + 1 + i = n + (i + 1) by omega]
        simpa using this
      cases m with
      | rd => cases g <;> exact endOuts_sound s ps (n + 1) E h vs K r (by simpa using hl) htv' hsl hk
      | keep => cases g <;> exact endOuts_sound s ps (n + 1) E h vs K r (by simpa using hl) htv' hsl hk
      | take => cases g <;> exact endOuts_sound s ps (n + 1) E h vs K r (by simpa using hl) htv' hsl hk
      | «mut» =>
        have h0 := htv 0 (by simp)
        simp only [Nat.add_zero, List.getD_cons_zero] at h0
        cases g with
        | true =>
          simp only [endOuts] at hk
          split at hk
          · rename_i cs e0
            have hv : VR w E (lookO h) (.agg cs) v := by
              rcases hsl (1000000 + n) with e | e
              · rw [e0] at e; cases e
              · rw [e0, h0] at e; exact e
            obtain ⟨us, rfl, hv1, hone⟩ := hv
            obtain ⟨os, h', E', Os1, hk, mv, hD1, hO1⟩ := mvEach_sound cs us E h _ r hv1 hk
            obtain ⟨outs, h'', E'', Os, hk, mv2, hD, hO⟩ := endOuts_sound s ps (n + 1) E' h' vs _ mv.hs (by simpa using hl) htv' (fun k => (hsl k).imp id fun q => VR.mono (Shape.refl w) _ _ (fun u _ => mv.tr.sub u) q) hk
            obtain ⟨mv3, hdj⟩ := mv.trans mv2
            have e : (AnyF (Os1 ++ Os)) = fun x => AnyF Os1 x ∨ AnyF Os x := funext fun x => propext AnyF_append
            rw [appV_eq0] at hk
            exact ⟨_, h'', E'', Os1 ++ Os, hk, by rw [e]; exact mv3, DisF_append.2 ⟨hD1, hD, hdj⟩, (hO1.mono mv2.tr.K).app hO⟩
          · exact hk.elim
        | false =>
        simp only [endOuts] at hk
        have hv : VR w E (lookO h) (look s (1000000 + n)) v := by
          rcases hsl (1000000 + n) with e | e
          · rw [e] at hk; simp [fuel, mvD] at hk
          · rwa [h0] at e
        obtain ⟨d, h', E', F, hk, mv, ho⟩ := mvD_sound fuel true E h _ v _ r hv hk
        obtain ⟨outs, h'', E'', Os, hk, mv2, hD, hO⟩ := endOuts_sound s ps (n + 1) E' h' vs _ mv.hs (by simpa using hl) htv' (fun k => (hsl k).imp id fun q => VR.mono (Shape.refl w) _ _ (fun u _ => mv.tr.sub u) q) hk
        obtain ⟨mv3, hdj⟩ := mv.trans mv2
        have e : (AnyF (F :: Os)) = fun x => F x ∨ AnyF Os x := funext fun x => propext AnyF_cons
        exact ⟨_, h'', E'', F :: Os, hk, by rw [e]; exact mv3, DisF_cons.2 ⟨hdj, hD⟩, Own.mono ho mv2.tr.K, hO⟩
end
end Go.Vm
