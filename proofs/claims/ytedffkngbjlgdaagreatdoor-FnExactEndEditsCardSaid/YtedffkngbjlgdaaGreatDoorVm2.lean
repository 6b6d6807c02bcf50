/- A verified evaluator for Go code: new objects. -/
import Derived.Test.YtedffkngbjlgdaaGreatDoorVm1e
namespace Go.Vm
open Go.RowKit
set_option linter.unusedVariables false
set_option linter.unusedSimpArgs false

/-- The memory grows. -/
theorem Hs.world {C : Ctx} {E : Env} {h : Hp} {w w' : World} (r : Hs C w E h) (hs : Shape w w') (hw : ∀ b, b < w.heap.size → w'.heap[b]? = w.heap[b]?) : Hs C w' E h :=
  ⟨fun t o ho => (r.ob t o ho).mono r.KR rfl (fun _ => Iff.rfl) (fun _ h => h) (fun _ h => h) (fun u _ => Sub.refl E _ u)
      (fun b hb => hw b (hb.elim (fun h => (r.Fin t (by rw [ho]; rfl) b h).1) (r.Rlt b))) hs,
   r.dis, r.disR, r.KR, fun x hx => Nat.lt_of_lt_of_le (r.Rlt x hx) hs.size, fun t ht x hx => ⟨Nat.lt_of_lt_of_le (r.Fin t ht x hx).1 hs.size, (r.Fin t ht x hx).2.1, (r.Fin t ht x hx).2.2.shape hs (r.Fin t ht x hx).1⟩, r.R0, r.K0, r.Rin, r.Kin⟩

def Env.set (E : Env) (t : Nat) (g : Option (Nat × Nat)) (F : Nat → Prop) : Env :=
  { γ := fun u => if u = t then g else E.γ u, F := fun u x => if u = t then F x else E.F u x, R := E.R, Kp := E.Kp }

theorem Env.set_γ (E : Env) (t : Nat) (g : Option (Nat × Nat)) (F : Nat → Prop) : (E.set t g F).γ t = g := by simp [Env.set]
theorem Env.set_γ' (E : Env) {t u : Nat} (g : Option (Nat × Nat)) (F : Nat → Prop) (h : u ≠ t) : (E.set t g F).γ u = E.γ u := by simp [Env.set, h]
theorem Env.set_F (E : Env) (t : Nat) (g : Option (Nat × Nat)) (F : Nat → Prop) (x : Nat) : (E.set t g F).F t x ↔ F x := by simp [Env.set]
theorem Env.set_F' (E : Env) {t u : Nat} (g : Option (Nat × Nat)) (F : Nat → Prop) (h : u ≠ t) (x : Nat) : (E.set t g F).F u x ↔ E.F u x := by simp [Env.set, h]

/-- Blocks that are no object's and are not read. -/
def Fresh (C : Ctx) (w : World) (E : Env) (h : Hp) (F : Nat → Prop) : Prop :=
  ∀ x, F x → x < w.heap.size ∧ (C.ok x ∧ Cl w x) ∧ ¬ E.R x ∧ ∀ u, (lookO h u).isSome = true → ¬ E.F u x

theorem Hs.add {C : Ctx} {E : Env} {h : Hp} {w : World} (r : Hs C w E h) {t : Nat} {o : Ob} {g : Option (Nat × Nat)} {F : Nat → Prop} (hm : NoMen t h) (hF : Fresh C w E ((t, none) :: h) F)
    (ho : ObR w (E.set t g F) (lookO ((t, some o) :: h)) t o) : Hs C w (E.set t g F) ((t, some o) :: h) := by
  have hl : ∀ u, u ≠ t → lookO ((t, some o) :: h) u = lookO h u := fun u hu => by rw [lookO_cons, if_neg (Ne.symm hu)]
  have hl' : ∀ u, u ≠ t → lookO ((t, none) :: h) u = lookO h u := fun u hu => by rw [lookO_cons, if_neg (Ne.symm hu)]
  have ht : lookO ((t, some o) :: h) t = some o := by rw [lookO_cons, if_pos rfl]
  refine ⟨fun u o' ho' => ?_, fun u v hne hu hv x hx hx' => ?_, fun u hu x hx hR => ?_, r.KR, r.Rlt, fun u hu x hx => ?_, r.R0, r.K0, r.Rin, r.Kin⟩
  · by_cases e : u = t
    · subst e; rw [ht] at ho'; cases ho'; exact ho
    · rw [hl u e] at ho'
      refine (r.ob u o' ho').mono r.KR (Env.set_γ' E g F e) (Env.set_F' E g F e) (fun _ h => h) (fun _ h => h) (fun v hv => ?_) (fun _ _ => rfl) (Shape.refl w)
      have hvt : v ≠ t := by rintro rfl; rw [hm u o' ho'] at hv; cases hv
      intro o2 ho2; rw [hl v hvt] at ho2
      exact ⟨o2, ho2, rfl, rfl, id, Env.set_γ' E g F hvt⟩
  · by_cases e : u = t
    · subst e
      have e' : v ≠ u := Ne.symm hne
      rw [Env.set_F] at hx; rw [Env.set_F' E g F e'] at hx'
      rw [hl v e'] at hv
      exact (hF x hx).2.2.2 v (by rw [hl' v e']; exact hv) hx'
    · rw [Env.set_F' E g F e] at hx
      by_cases e' : v = t
      · subst e'
        rw [Env.set_F] at hx'
        rw [hl u e] at hu
        exact (hF x hx').2.2.2 u (by rw [hl' u e]; exact hu) hx
      · rw [Env.set_F' E g F e'] at hx'
        rw [hl u e] at hu; rw [hl v e'] at hv
        exact r.dis u v hne hu hv x hx hx'
  · by_cases e : u = t
    · subst e; rw [Env.set_F] at hx; exact (hF x hx).2.2.1 hR
    · rw [Env.set_F' E g F e] at hx; rw [hl u e] at hu; exact r.disR u hu x hx hR
  · by_cases e : u = t
    · subst e; rw [Env.set_F] at hx; exact ⟨(hF x hx).1, (hF x hx).2.1⟩
    · rw [Env.set_F' E g F e] at hx; rw [hl u e] at hu; exact r.Fin u hu x hx

/-- Nothing but the objects t .. t'-1 has turned. -/
structure Add (E : Env) (h : Hp) (E' : Env) (h' : Hp) (t t' : Nat) (F : Nat → Prop) : Prop where
  lk : ∀ u, u < t ∨ t' ≤ u → lookO h' u = lookO h u
  γ : ∀ u, u < t ∨ t' ≤ u → E'.γ u = E.γ u
  Fo : ∀ u, u < t ∨ t' ≤ u → ∀ x, E'.F u x ↔ E.F u x
  Fn : ∀ u, t ≤ u → u < t' → ∀ x, E'.F u x → F x
  R : E'.R = E.R
  K : E'.Kp = E.Kp
  nm : ∀ m, m < t ∨ t' ≤ m → NoMen m h → NoMen m h'
  nn : ∀ u, t ≤ u → u < t' → ∀ o, lookO h' u = some o → ∀ m, obMen m o = true → t ≤ m ∧ m < t'

theorem Add.refl (E : Env) (h : Hp) (t : Nat) (F : Nat → Prop) : Add E h E h t t F :=
  ⟨fun _ _ => rfl, fun _ _ => rfl, fun _ _ _ => Iff.rfl, fun u h1 h2 => by omega, rfl, rfl, fun _ _ h => h, fun u h1 h2 => by omega⟩
theorem Add.trans {E1 E2 E3 : Env} {h1 h2 h3 : Hp} {t1 t2 t3 : Nat} {F G H : Nat → Prop} (a : Add E1 h1 E2 h2 t1 t2 F) (b : Add E2 h2 E3 h3 t2 t3 G) (l1 : t1 ≤ t2) (l2 : t2 ≤ t3)
    (hF : ∀ x, F x → H x) (hG : ∀ x, G x → H x) : Add E1 h1 E3 h3 t1 t3 H :=
  ⟨fun u hu => (b.lk u (by omega)).trans (a.lk u (by omega)), fun u hu => (b.γ u (by omega)).trans (a.γ u (by omega)), fun u hu x => (b.Fo u (by omega) x).trans (a.Fo u (by omega) x),
   fun u hu hu' x hx => by
    by_cases e : u < t2
    · exact hF x (a.Fn u hu e x ((b.Fo u (.inl e) x).1 hx))
    · exact hG x (b.Fn u (by omega) hu' x hx),
   b.R.trans a.R, b.K.trans a.K, fun m hm h => b.nm m (by omega) (a.nm m (by omega) h),
   fun u hu hu' o ho m hm => by
    by_cases e : u < t2
    · rw [b.lk u (.inl e)] at ho; have := a.nn u hu e o ho m hm; omega
    · have := b.nn u (by omega) hu' o ho m hm; omega⟩
theorem Add.sub {E E' : Env} {h h' : Hp} {t t' : Nat} {F : Nat → Prop} (a : Add E h E' h' t t' F) (u : Nat) (hu : u < t ∨ t' ≤ u) : Sub E (lookO h) E' (lookO h') u := by
  intro o ho; rw [a.lk u hu] at ho; exact ⟨o, ho, rfl, rfl, id, a.γ u hu⟩

theorem Hs.add1 {C : Ctx} {E : Env} {h : Hp} {w : World} (r : Hs C w E h) {t : Nat} {o : Ob} {g : Option (Nat × Nat)} {F : Nat → Prop} (hm : NoMen t h) (hF : Fresh C w E ((t, none) :: h) F)
    (ho : ObR w (E.set t g F) (lookO ((t, some o) :: h)) t o) (hmo : ∀ m, m < t ∨ t + 1 ≤ m → obMen m o = false) :
    Hs C w (E.set t g F) ((t, some o) :: h) ∧ Add E h (E.set t g F) ((t, some o) :: h) t (t + 1) F := by
  refine ⟨r.add hm hF ho, ⟨fun u hu => by rw [lookO_cons, if_neg (by omega)], fun u hu => Env.set_γ' E g F (by omega), fun u hu => Env.set_F' E g F (by omega),
    fun u h1 h2 x hx => ?_, rfl, rfl, fun m hm' h1 u o' ho' => ?_, fun u h1 h2 o' ho' m hm' => ?_⟩⟩
  · obtain rfl : u = t := by omega
    exact (Env.set_F E u g F x).1 hx
  · rw [lookO_cons] at ho'
    split at ho'
    · cases ho'; exact hmo m hm'
    · exact h1 u o' ho'
  · obtain rfl : u = t := by omega
    rw [lookO_cons, if_pos rfl] at ho'; cases ho'
    by_cases e : m < u ∨ u + 1 ≤ m
    · rw [hmo m e] at hm'; cases hm'
    · omega

def UnD (k : Kind) (w : World) (E : Env) (F : Nat → Prop) (v : Value) (d : D) : Prop :=
  match k with
  | .own => Own w E.Kp F v d
  | .ro => Ro w E.Kp v d ∧ ∀ x, ¬ F x
  | .lent => Ro w E.R v d ∧ ∀ x, ¬ F x
  | .mix => False

theorem UnD.env {k : Kind} {w : World} {E E' : Env} {F : Nat → Prop} {v : Value} {d : D} (h : UnD k w E F v d) (hR : E'.R = E.R) (hK : E'.Kp = E.Kp) : UnD k w E' F v d := by
  cases k <;> simp only [UnD] at h ⊢
  · rw [hK]; exact h
  · rw [hK]; exact h
  · rw [hR]; exact h

theorem Own.row_inv {w : World} {Kp F : Nat → Prop} {v : Value} {sz : Nat} {α : Type} {enc : α → List D} {l : List α} (h : Own w Kp F v (.row sz enc l)) :
    (∀ a, (enc a).length = sz) ∧ l.length ≤ 9223372036854775807 ∧ ((l = [] ∧ v = .slice none 0 0 ∧ ∀ x, ¬ F x) ∨ ∃ b o c, v = .slice (some ⟨b, o, none⟩) l.length c ∧ l.length ≤ c ∧
      (∀ j, j < c * sz → (∃ x, w.cell? ⟨b, o + j, none⟩ = some x) ∧ w.frozen? ⟨b, o + j, none⟩ = false) ∧ b < w.heap.size ∧ ∃ vals, RowC w b o sz l.length vals ∧
      ∃ G : Nat → Nat → Nat → Prop, (∀ i f, i < l.length → f < sz → Own w Kp (G i f) (vals i f) (dat enc l i f)) ∧
          (∀ i f j g, i < l.length → f < sz → j < l.length → g < sz → (i ≠ j ∨ f ≠ g) → ∀ x, G i f x → ¬ G j g x) ∧
          (∀ i f, i < l.length → f < sz → ¬ G i f b) ∧ ∀ x, F x ↔ x = b ∨ ∃ i f, i < l.length ∧ f < sz ∧ G i f x) := by
  cases h with
  | nil hz hF => exact ⟨hz, by simp, .inl ⟨rfl, rfl, hF⟩⟩
  | row vals G hn hb hc hm hcap hz hv hr hd hg hF =>
    subst hn
    exact ⟨hz, hm, .inr ⟨_, _, _, rfl, hc, hcap, hb, vals, hv, G, hr, hd, hg, hF⟩⟩

theorem Ro.row_inv {w : World} {R : Nat → Prop} {v : Value} {sz : Nat} {α : Type} {enc : α → List D} {l : List α} (h : Ro w R v (.row sz enc l)) :
    (∀ a, (enc a).length = sz) ∧ l.length ≤ 9223372036854775807 ∧ ((l = [] ∧ ∃ ab, v = .slice ab 0 0) ∨ ∃ b o c, v = .slice (some ⟨b, o, none⟩) l.length c ∧ l.length ≤ c ∧
      (∀ j, j < c * sz → (∃ x, w.cell? ⟨b, o + j, none⟩ = some x)) ∧ b < w.heap.size ∧ R b ∧ ∃ vals, RowC w b o sz l.length vals ∧
      ∀ i f, i < l.length → f < sz → Ro w R (vals i f) (dat enc l i f)) := by
  cases h with
  | nil hz => exact ⟨hz, by simp, .inl ⟨rfl, _, rfl⟩⟩
  | row vals hn hR hb hc hm hcap hz hv hr =>
    subst hn
    exact ⟨hz, hm, .inr ⟨_, _, _, rfl, hc, hcap, hb, hR, vals, hv, hr⟩⟩

/-- A row laid open: it becomes object t. -/
theorem unf_row {C : Ctx} {E : Env} {h : Hp} {w : World} (r : Hs C w E h) {k : Kind} {t sz : Nat} {α : Type} {enc : α → List D} {l : List α} {F : Nat → Prop} {v : Value}
    (hm : NoMen t h) (hF : Fresh C w E ((t, none) :: h) F) (hd : UnD k w E F v (.row sz enc l)) :
    ∃ E', Hs C w E' ((t, some (.row k sz enc l)) :: h) ∧ Add E h E' ((t, some (.row k sz enc l)) :: h) t (t + 1) F ∧ VR w E' (lookO ((t, some (.row k sz enc l)) :: h)) (.sl t none) v := by
  have ht : lookO ((t, some (.row k sz enc l)) :: h) t = some (.row k sz enc l) := by rw [lookO_cons, if_pos rfl]
  have main : ∃ g, ObR w (E.set t g F) (lookO ((t, some (.row k sz enc l)) :: h)) t (.row k sz enc l) ∧ v.oneCell' = true ∧ SlR w g sz l.length (Ob.own (.row k sz enc l)) none v := by
    cases k with
    | mix => exact hd.elim
    | own =>
      obtain ⟨hz, hm', h3⟩ := Own.row_inv hd
      rcases h3 with ⟨rfl, rfl, hF'⟩ | ⟨b, o, c, rfl, hc, hcap, hb, vals, hv, G, g1, g2, g3, g4⟩
      · refine ⟨none, ⟨hz, hm', ?_⟩, rfl, none, rfl, fun _ => rfl, .inl rfl⟩
        rw [Env.set_γ]; exact ⟨rfl, fun x hx => hF' x ((Env.set_F E t none F x).1 hx)⟩
      · refine ⟨some (b, o), ⟨hz, hm', ?_⟩, rfl, 0, l.length, o, c, .inl ⟨rfl, rfl, rfl⟩, by omega, hc, .inr (by simp), rfl, fun j hj => ⟨(hcap j hj).1, fun _ => (hcap j hj).2⟩⟩
        rw [Env.set_γ]; exact ⟨hb, vals, hv, G, g1, g2, g3, fun x => (Env.set_F E t _ F x).trans (g4 x), fun j hj => (hcap j (Nat.lt_of_lt_of_le hj (Nat.mul_le_mul_right _ hc))).2⟩
    | ro =>
      obtain ⟨hz, hm', h3⟩ := Ro.row_inv hd.1
      rcases h3 with ⟨rfl, ab, rfl⟩ | ⟨b, o, c, rfl, hc, hcap, hb, hR, vals, hv, hr⟩
      · refine ⟨none, ⟨hz, hm', ?_⟩, rfl, ab, rfl, (fun h => by simp [Ob.own] at h), .inl rfl⟩
        rw [Env.set_γ]; exact ⟨rfl, fun x hx => hd.2 x ((Env.set_F E t none F x).1 hx)⟩
      · refine ⟨some (b, o), ⟨hz, hm', ?_⟩, rfl, 0, l.length, o, c, .inl ⟨rfl, rfl, rfl⟩, by omega, hc, .inr (by simp), rfl, fun j hj => ⟨hcap j hj, fun h => by simp [Ob.own] at h⟩⟩
        rw [Env.set_γ]; exact ⟨hb, vals, hv, hR, hr, fun x hx => hd.2 x ((Env.set_F E t _ F x).1 hx)⟩
    | lent =>
      obtain ⟨hz, hm', h3⟩ := Ro.row_inv hd.1
      rcases h3 with ⟨rfl, ab, rfl⟩ | ⟨b, o, c, rfl, hc, hcap, hb, hR, vals, hv, hr⟩
      · refine ⟨none, ⟨hz, hm', ?_⟩, rfl, ab, rfl, (fun h => by simp [Ob.own] at h), .inl rfl⟩
        rw [Env.set_γ]; exact ⟨rfl, fun x hx => hd.2 x ((Env.set_F E t none F x).1 hx)⟩
      · refine ⟨some (b, o), ⟨hz, hm', ?_⟩, rfl, 0, l.length, o, c, .inl ⟨rfl, rfl, rfl⟩, by omega, hc, .inr (by simp), rfl, fun j hj => ⟨hcap j hj, fun h => by simp [Ob.own] at h⟩⟩
        rw [Env.set_γ]; exact ⟨hb, vals, hv, hR, hr, fun x hx => hd.2 x ((Env.set_F E t _ F x).1 hx)⟩
  obtain ⟨g, h1, h2, h3⟩ := main
  obtain ⟨a, b⟩ := r.add1 hm hF h1 (fun _ _ => rfl)
  exact ⟨_, a, b, h2, fun o ho => by rw [ht] at ho; cases ho; rw [Env.set_γ]; exact h3⟩
end Go.Vm
