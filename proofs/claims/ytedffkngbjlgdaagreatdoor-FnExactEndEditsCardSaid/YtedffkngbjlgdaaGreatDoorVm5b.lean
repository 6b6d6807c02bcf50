/- A verified evaluator for Go code: what a callee leaves behind. -/
import Derived.Test.YtedffkngbjlgdaaGreatDoorVm5a
namespace Go.Vm
open Go.RowKit
set_option linter.unusedVariables false
set_option linter.unusedSimpArgs false

section
variable {P : Program} {T : Tab} {S : Cons} {C : Ctx} {E E1 : Env} {s : Sl} {h h1 : Hp} {w w' : World} {v : Value}

theorem Own.box_inv {Kp F : Nat → Prop} {cs : List D} (hh : Own w Kp F v (.box cs)) : ∃ (b o : Nat) (vals : Nat → Value) (G : Nat → Nat → Prop), v = .pointer (some ⟨b, o, none⟩) ∧ b < w.heap.size ∧ (∀ f, f < cs.length → w.cell? ⟨b, o + f, none⟩ = some (vals f)) ∧
    (∀ f, f < cs.length → w.frozen? ⟨b, o + f, none⟩ = false) ∧ (∀ f, f < cs.length → Own w Kp (G f) (vals f) (cs.getD f .dead)) ∧ (∀ f g, f < cs.length → g < cs.length → f ≠ g → ∀ x, G f x → ¬ G g x) ∧
    (∀ f, f < cs.length → ¬ G f b) ∧ ∀ x, F x ↔ x = b ∨ ∃ f, f < cs.length ∧ G f x := by
  cases hh with
  | box vals G hb hv hfr hr hd hg hF => exact ⟨_, _, vals, G, rfl, hb, hv, hfr, hr, hd, hg, hF⟩

/-- What holds while the changed objects come back: X are the names that were given anew. -/
structure Back (C : Ctx) (w' : World) (E : Env) (h : Hp) (w : World) (s : Sl) (X : Nat → Prop) (E1 : Env) (h1 : Hp) : Prop where
  hs : Hs C w' E1 h1
  sub : ∀ m, ¬ X m → Sub E (lookO h) E1 (lookO h1) m
  arr : ∀ u o, lookO h1 u = some o → (∀ m, obMen m o = true → X m) ∨
    (lookO h u = some o ∧ E1.γ u = E.γ u ∧ (∀ b p, E.γ u = some (b, p) → w'.heap[b]? = w.heap[b]?) ∧ ∀ m, obMen m o = true → ¬ X m)
  sl : ∀ n m, men m (look s n) = true → ¬ X m

theorem outs_sound (r0 : Hs C w E h) (hsh : Shape w w') : ∀ (ts : List MT) (muts : List (Option Nat × V)) (vs : List Value) (os : List (List D)) (Os : List (Nat → Prop)) (X : Nat → Prop) (E1 : Env) (h1 : Hp) (K : Hp → Prop),
    Back C w' E h w s X E1 h1 → TsR E h muts ts → (∀ p ∈ muts, ∀ m, men m p.2 = true → ∃ n, men m (look s n) = true) → VRl w E (lookO h) muts vs → OutsR w' E1.Kp vs os Os → DisF Os → (∀ F ∈ Os, Fresh C w' E1 h1 F) → outsK s ts os h1 K →
    ∃ X' E' h', K h' ∧ Back C w' E h w s X' E' h' ∧ E'.R = E1.R ∧ E'.Kp = E1.Kp ∧ ∀ G, Fresh C w' E1 h1 G → (∀ x, AnyF Os x → ¬ G x) → Fresh C w' E' h' G
  | [], [], [], [], [], X, E1, h1, K, hb, _, _, _, _, _, _, hk => ⟨X, E1, h1, hk, hb, rfl, rfl, fun G hG _ => hG⟩
  | .leaf :: ts, (x, V) :: muts, v :: vs, [d] :: os, F :: Os, X, E1, h1, K, hb, hT, hmen, hv, hO, hD, hF, hk => by
    simp only [outsK] at hk
    obtain ⟨hDF, hD⟩ := DisF_cons.1 hD
    obtain ⟨X', E', h', hk, hB', hR, hK, hfr'⟩ := outs_sound r0 hsh ts muts vs os Os X E1 h1 K hb hT.2 (fun p hp => hmen p (List.mem_cons_of_mem _ hp)) hv.2 hO.2 hD (fun G hG => hF G (List.mem_cons_of_mem _ hG)) hk
    exact ⟨X', E', h', hk, hB', hR, hK, fun G hG hd => hfr' G hG (fun x hx => hd x (AnyF_cons.2 (.inr hx)))⟩
  | .row t sz :: ts, (x, V) :: muts, v :: vs, [d] :: os, F :: Os, X, E1, h1, K, hb, hT, hmen, hv, hO, hD, hF, hk => by
    cases d with
    | row sz' enc l =>
      simp only [outsK] at hk
      split at hk
      · rename_i hsz
        obtain rfl := nbeq_eq hsz
        obtain ⟨⟨rfl, o0, ho0, hosz, hown⟩, hT⟩ := hT
        obtain ⟨hv1, hv⟩ := hv
        have hv1 := hv1 (by simp)
        obtain ⟨ho, hO⟩ := hO
        obtain ⟨hDF, hD⟩ := DisF_cons.1 hD
        obtain ⟨n0, hn0⟩ := hmen _ (List.mem_cons_self ..) t (by simp [men])
        have hXt := hb.sl n0 t hn0
        have hs := hv1.2 _ ho0
        obtain ⟨base, c, hvb, _, _, hbn⟩ := r0.slice ho0 hs
        obtain ⟨hz, hm, h3⟩ := ho.row_inv
        have hlen : o0.len = l.length := by
          have e1 : cutLen none o0.len = o0.len := rfl
          rcases h3 with ⟨e2, e3, _⟩ | ⟨b, o, c', e3, _⟩
          · rw [hvb, e1] at e3
            injection e3 with e4 e5 e6
            rw [e2, e5]; rfl
          · rw [hvb, e1] at e3
            injection e3
        have hfr : Fresh C w' E1 ((t, none) :: h1) F := (hF F (List.mem_cons_self ..)).drop t
        have hob : ObR w' (E1.set t (E.γ t) F) (lookO ((t, some (.row .own sz enc l)) :: h1)) t (.row .own sz enc l) := by
          refine ⟨hz, hm, ?_⟩
          rw [Env.set_γ]
          cases eγ : E.γ t with
          | none =>
            rw [eγ] at hs
            obtain ⟨ab, e1, hab, _⟩ := hs
            obtain rfl := hab hown
            rcases h3 with ⟨e2, e3, e4⟩ | ⟨b, o, c', e3, _⟩
            · exact ⟨e2, fun x hx => e4 x ((Env.set_F _ _ _ _ x).1 hx)⟩
            · rw [e1] at e3; cases e3
          | some bp =>
            obtain ⟨b, p⟩ := bp
            rw [eγ] at hs
            obtain ⟨off, n, oo, c', g1, g2, g3, g4, g5, g6⟩ := hs
            rcases h3 with ⟨e2, e3, _⟩ | ⟨b', o', c2, e3, hc, hcap, hbl, vals, hvs, G, q1, q2, q3, q4⟩
            · rw [g5] at e3; cases e3
            · rw [g5] at e3
              injection e3 with e4 e5 e6
              injection e4 with e4
              injection e4 with e7 e8
              subst e7 e8 e5 e6
              have hoff : off = 0 ∧ l.length = o0.len := by
                rcases g1 with ⟨_, g1, g7⟩ | g1
                · exact ⟨g1, g7⟩
                · cases g1
              obtain ⟨rfl, _⟩ := hoff
              have hpo : c' = 0 ∨ oo = p := by rcases g4 with g4 | g4 <;> omega
              refine ⟨hbl, vals, fun i f hi hf => ?_, G, q1, q2, q3, fun x => (Env.set_F _ _ _ _ x).trans (q4 x), fun j hj => ?_⟩
              · rcases hpo with h0 | rfl
                · omega
                · exact hvs i f hi hf
              · rcases hpo with h0 | rfl
                · have : l.length = 0 := by omega
                  rw [this] at hj; simp at hj
                · exact (hcap j (Nat.lt_of_lt_of_le hj (Nat.mul_le_mul_right _ hc))).2
        have hsback := r0.back (o := .row .own sz enc l) hb.hs hsh ho0 hosz hlen (fun _ => hown)
          (fun u hu oo hl => by
            rcases hb.arr u oo hl with h4 | ⟨h4, h5, h6, h7⟩
            · left
              cases e : obMen t oo with
              | false => rfl
              | true => exact absurd (h4 t e) hXt
            · exact .inr ⟨h4, h5, h6, fun m hm _ => hb.sub m (h7 m hm)⟩) hfr hob
        have hB : Back C w' E h w s X (E1.set t (E.γ t) F) ((t, some (.row .own sz enc l)) :: h1) := by
          refine ⟨hsback, fun m hm o' ho' => ?_, fun u oo hl => ?_, hb.sl⟩
          · rw [lookO_cons] at ho'
            split at ho'
            · rename_i e; subst e; cases ho'
              exact ⟨o0, ho0, hosz, hlen, fun _ => hown, Env.set_γ _ _ _ _⟩
            · rename_i e
              obtain ⟨o2, a1, a2, a3, a4, a5⟩ := hb.sub m hm o' ho'
              exact ⟨o2, a1, a2, a3, a4, by rw [Env.set_γ' _ _ _ (Ne.symm e)]; exact a5⟩
          · rw [lookO_cons] at hl
            split at hl
            · cases hl; exact .inl fun m hm => by cases hm
            · rename_i e
              rcases hb.arr u oo hl with h4 | ⟨h4, h5, h6, h7⟩
              · exact .inl h4
              · exact .inr ⟨h4, by rw [Env.set_γ' _ _ _ (Ne.symm e)]; exact h5, h6, h7⟩
        have hfresh : ∀ G, Fresh C w' E1 h1 G → (∀ x, F x → ¬ G x) → Fresh C w' (E1.set t (E.γ t) F) ((t, some (.row .own sz enc l)) :: h1) G := by
          intro G hG hdis x hx
          obtain ⟨a1, a2, a3, a4⟩ := hG x hx
          refine ⟨a1, a2, a3, fun u hu hux => ?_⟩
          by_cases e : u = t
          · subst e; exact hdis x ((Env.set_F _ _ _ _ x).1 hux) hx
          · rw [lookO_cons, if_neg (Ne.symm e)] at hu
            exact a4 u hu ((Env.set_F' _ _ _ e x).1 hux)
        obtain ⟨X', E', h', hk, hB', hR, hK, hfr'⟩ := outs_sound r0 hsh ts muts vs os Os X _ _ K hB hT (fun p hp => hmen p (List.mem_cons_of_mem _ hp)) hv hO hD
          (fun G hG => hfresh G (hF G (List.mem_cons_of_mem _ hG)) (fun x hx hx' => hDF x hx ⟨G, hG, hx'⟩)) hk
        exact ⟨X', E', h', hk, hB', hR, hK, fun G hG hd => hfr' G (hfresh G hG (fun x hx => hd x (AnyF_cons.2 (.inl hx)))) (fun x hx => hd x (AnyF_cons.2 (.inr hx)))⟩
      · exact hk.elim
    | lf u => simp [outsK] at hk
    | dead => simp [outsK] at hk
    | box cs => simp [outsK] at hk
    | fn f cs => simp [outsK] at hk
    | sh d => simp [outsK] at hk
  | .box t sz x :: ts, (xo, V) :: muts, v :: vs, [d] :: os, F :: Os, X, E1, h1, K, hb, hT, hmen, hv, hO, hD, hF, hk => by
    cases d with
    | box ds =>
      simp only [outsK] at hk
      split at hk
      · rename_i hsz
        obtain rfl := nbeq_eq hsz
        obtain ⟨⟨rfl, o0, ho0, hosz, holen, hown⟩, hT⟩ := hT
        obtain ⟨hv1, hv⟩ := hv
        have hv1 := hv1 (by simp)
        obtain ⟨ho, hO⟩ := hO
        obtain ⟨hDF, hD⟩ := DisF_cons.1 hD
        obtain ⟨n0, hn0⟩ := hmen _ (List.mem_cons_self ..) t (by simp [men])
        have hXt := hb.sl n0 t hn0
        obtain ⟨b0, p, hγ, hpv⟩ := hv1.2 _ ho0
        obtain ⟨b, o, vals, G, rfl, hbl, hvs, hfz, hr, hdd, hg, hFF⟩ := ho.box_inv
        simp only [free] at hk
        split at hk
        · exact hk.elim
        · rename_i e1
          split at hk
          · exact hk.elim
          · rename_i e2
            have hno : ∀ m, 16 * x ≤ m → m < 16 * x + 16 → NoMen m h1 := fun m hm1 hm2 => noMen_of_ref (by rw [show m / 16 = x by omega]; exact e2)
            have hslx : ∀ n m, m / 16 = x → men m (look s n) = false := fun n m hm => men_of_slRef (by rw [hm]; exact e1) n
            have htx : t / 16 ≠ x := by intro e; rw [hslx n0 t e] at hn0; cases hn0
            have hF0 := hF F (List.mem_cons_self ..)
            obtain ⟨Vs, t', h2, hk, hle, hgood⟩ := unfs_sound .own (16 * x + 16) ds (16 * x) E1 h1 ((List.range ds.length).map vals) G _ hb.hs hno (by simp) (fun i hi => hF0.sub fun y hy => (hFF y).2 (.inr ⟨i, hi, hy⟩)) hdd
              (fun i hi => by simpa [hi, UnD] using hr i hi) hk
            split at hk
            · rename_i hble
              have ht' := Nat.le_of_ble_eq_true hble
              obtain ⟨E2, g⟩ := hgood ht'
              have hFb : F b := (hFF b).2 (.inl rfl)
              have hbp : b0 = b ∧ p = o := by
                simp only [Nat.zero_mul, Nat.add_zero] at hpv
                injection hpv with e; injection e with e; injection e with e3 e4; exact ⟨e3.symm, e4.symm⟩
              obtain ⟨rfl, rfl⟩ := hbp
              have hlV : Vs.length = ds.length := by rw [g.vr.length]; simp
              have hrange : ∀ m, 16 * x ≤ m → m < t' → m / 16 = x := fun m h1 h2 => by omega
              have htout : t < 16 * x ∨ t' ≤ t := by omega
              have hfr1 : Fresh C w' E2 ((t, none) :: h2) (fun y => y = b0) := by
                have : Fresh C w' E2 h2 (fun y => y = b0) := (hF0.sub (G := fun y => y = b0) (fun y hy => hy ▸ hFb)).mono (fun y hy => hy) g.add (by rintro y ⟨i, hi, hy⟩ rfl; exact hg i hi hy)
                exact this.drop t
              have hob : ObR w' (E2.set t (E.γ t) (fun y => y = b0)) (lookO ((t, some (.arr true ds.length [Vs])) :: h2)) t (.arr true ds.length [Vs]) := by
                refine ⟨by simp, b0, p, by rw [Env.set_γ]; exact hγ, hbl, by simpa using hlV, ⟨fun _ f => vals f, fun i f hi hf => ?_, fun i f hi hf => ?_⟩, fun y => Env.set_F _ _ _ _ y, fun j hj => hfz j (by simpa using hj)⟩
                · obtain rfl : i = 0 := by simpa using hi
                  simpa using hvs f hf
                · obtain rfl : i = 0 := by simpa using hi
                  obtain ⟨y, hy, hvr⟩ := g.vr.get f (by omega)
                  simp [hf] at hy; subst hy
                  refine ⟨?_, (hr f hf).one⟩
                  rw [show ([Vs].getD 0 []).getD f .dead = Vs.getD f .dead from rfl]
                  refine VR.mono (Shape.refl w') _ _ (fun u hu o' ho' => ?_) hvr
                  have hne : u ≠ t := by
                    have hu' : mens u Vs = true := by
                      simp only [List.getD_eq_getElem?_getD] at hu
                      cases e : Vs[f]? with
                      | none => simp [e, men] at hu
                      | some y => simp [e] at hu; exact mens_mem (List.mem_of_getElem? e) hu
                    have := g.men u hu'; omega
                  rw [lookO_cons, if_neg (Ne.symm hne)] at ho'
                  exact ⟨o', ho', rfl, rfl, id, Env.set_γ' _ _ _ hne⟩
              let X2 : Nat → Prop := fun m => X m ∨ m / 16 = x
              -- the arrays of h2
              have harr2 : ∀ u o, lookO h2 u = some o → (∀ m, obMen m o = true → X2 m) ∨
                  (lookO h u = some o ∧ E2.γ u = E.γ u ∧ (∀ b p, E.γ u = some (b, p) → w'.heap[b]? = w.heap[b]?) ∧ ∀ m, obMen m o = true → ¬ X2 m) := by
                intro u oo hl
                by_cases e : 16 * x ≤ u ∧ u < t'
                · left
                  intro m hm
                  have := g.add.nn u e.1 e.2 _ hl m hm
                  exact .inr (hrange m this.1 this.2)
                · have hu : u < 16 * x ∨ t' ≤ u := by omega
                  rw [g.add.lk u hu] at hl
                  rcases hb.arr u oo hl with h4 | ⟨h4, h5, h6, h7⟩
                  · exact .inl fun m hm => .inl (h4 m hm)
                  · refine .inr ⟨h4, by rw [g.add.γ u hu]; exact h5, h6, fun m hm hX => ?_⟩
                    rcases hX with hX | hX
                    · exact h7 m hm hX
                    · have := hno m (by omega) (by omega) u _ hl
                      rw [hm] at this; cases this
              have hsub2 : ∀ m, ¬ X2 m → Sub E (lookO h) E2 (lookO h2) m := by
                intro m hm
                refine (hb.sub m (fun h => hm (.inl h))).trans (g.add.sub m ?_)
                have : m / 16 ≠ x := fun h => hm (.inr h)
                omega
              have hX2t : ¬ X2 t := fun h => h.elim hXt htx
              have hsback := r0.back (o := .arr true ds.length [Vs]) g.hs hsh ho0 hosz holen (fun _ => hown)
                (fun u hu oo hl => by
                  rcases harr2 u oo hl with h4 | ⟨h4, h5, h6, h7⟩
                  · left
                    cases e : obMen t oo with
                    | false => rfl
                    | true => exact absurd (h4 t e) hX2t
                  · exact .inr ⟨h4, h5, h6, fun m hm _ => hsub2 m (h7 m hm)⟩) hfr1 hob
              have hB : Back C w' E h w s X2 (E2.set t (E.γ t) (fun y => y = b0)) ((t, some (.arr true ds.length [Vs])) :: h2) := by
                refine ⟨hsback, fun m hm o' ho' => ?_, fun u oo hl => ?_, fun n m hm hX => ?_⟩
                · rw [lookO_cons] at ho'
                  split at ho'
                  · rename_i e; subst e; cases ho'
                    exact ⟨o0, ho0, hosz, holen, fun _ => hown, Env.set_γ _ _ _ _⟩
                  · rename_i e
                    obtain ⟨o2, a1, a2, a3, a4, a5⟩ := hsub2 m hm o' ho'
                    exact ⟨o2, a1, a2, a3, a4, by rw [Env.set_γ' _ _ _ (Ne.symm e)]; exact a5⟩
                · rw [lookO_cons] at hl
                  split at hl
                  · rename_i e; subst e; cases hl
                    left
                    intro m hm
                    have hm' : mens m Vs = true := by
                      simp only [obMen, elsMen] at hm
                      cases e : mens m Vs with
                      | true => rfl
                      | false => rw [e] at hm; cases hm
                    have := g.men m hm'
                    exact .inr (hrange m this.1 this.2)
                  · rename_i e
                    rcases harr2 u oo hl with h4 | ⟨h4, h5, h6, h7⟩
                    · exact .inl h4
                    · exact .inr ⟨h4, by rw [Env.set_γ' _ _ _ (Ne.symm e)]; exact h5, h6, h7⟩
                · rcases hX with hX | hX
                  · exact hb.sl n m hm hX
                  · rw [hslx n m hX] at hm; cases hm
              have hfresh : ∀ G', Fresh C w' E1 h1 G' → (∀ y, F y → ¬ G' y) → Fresh C w' (E2.set t (E.γ t) (fun y => y = b0)) ((t, some (.arr true ds.length [Vs])) :: h2) G' := by
                intro G' hG hdis y hy
                have h2' : Fresh C w' E2 h2 G' := hG.mono (fun y hy => hy) g.add (by rintro y ⟨i, hi, hy⟩; exact hdis y ((hFF y).2 (.inr ⟨i, hi, hy⟩)))
                obtain ⟨a1, a2, a3, a4⟩ := h2' y hy
                refine ⟨a1, a2, a3, fun u hu hux => ?_⟩
                by_cases e : u = t
                · subst e
                  have : y = b0 := (Env.set_F _ _ _ _ y).1 hux
                  exact hdis y (this ▸ hFb) hy
                · rw [lookO_cons, if_neg (Ne.symm e)] at hu
                  exact a4 u hu ((Env.set_F' _ _ _ e y).1 hux)
              obtain ⟨X', E', h', hk, hB', hR, hK, hfr'⟩ := outs_sound r0 hsh ts muts vs os Os X2 _ _ K hB hT (fun p hp => hmen p (List.mem_cons_of_mem _ hp)) hv (by show OutsR w' E2.Kp vs os Os; rw [g.add.K]; exact hO) hD
                (fun G' hG => hfresh G' (hF G' (List.mem_cons_of_mem _ hG)) (fun y hy hy' => hDF y hy ⟨G', hG, hy'⟩)) hk
              exact ⟨X', E', h', hk, hB', hR.trans g.add.R, hK.trans g.add.K, fun G' hG hd => hfr' G' (hfresh G' hG (fun y hy => hd y (AnyF_cons.2 (.inl hy)))) (fun y hy => hd y (AnyF_cons.2 (.inr hy)))⟩
            · exact hk.elim
      · exact hk.elim
    | lf u => simp [outsK] at hk
    | dead => simp [outsK] at hk
    | row _ _ _ => simp [outsK] at hk
    | fn f cs => simp [outsK] at hk
    | sh d => simp [outsK] at hk
  | [], _ :: _, _, _, _, X, E1, h1, K, hb, hT, _, _, _, _, _, hk => hT.elim
  | _ :: _, [], _, _, _, X, E1, h1, K, hb, hT, _, _, _, _, _, hk => hT.elim
  | [], [], _ :: _, _, _, X, E1, h1, K, hb, hT, _, hv, _, _, _, hk => hv.elim
  | [], [], [], _ :: _, _, X, E1, h1, K, hb, hT, _, hv, hO, _, _, hk => by simp [OutsR] at hO
  | [], [], [], [], _ :: _, X, E1, h1, K, hb, hT, _, hv, hO, _, _, hk => by simp [OutsR] at hO
  | _ :: _, (_, _) :: _, [], _, _, X, E1, h1, K, hb, hT, _, hv, hO, _, _, hk => hv.elim
  | _ :: _, (_, _) :: _, _ :: _, [], _, X, E1, h1, K, hb, hT, _, hv, hO, _, _, hk => by simp [OutsR] at hO
  | _ :: _, (_, _) :: _, _ :: _, [] :: _, _, X, E1, h1, K, hb, hT, _, hv, hO, _, _, hk => by simp [OutsR] at hO
  | _ :: _, (_, _) :: _, _ :: _, (_ :: _ :: _) :: _, _, X, E1, h1, K, hb, hT, _, hv, hO, _, _, hk => by simp [OutsR] at hO
  | _ :: _, (_, _) :: _, _ :: _, [_] :: _, [], X, E1, h1, K, hb, hT, _, hv, hO, _, _, hk => by simp [OutsR] at hO
end
end Go.Vm
