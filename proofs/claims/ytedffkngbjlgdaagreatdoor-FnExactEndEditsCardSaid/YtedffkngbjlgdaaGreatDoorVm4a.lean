/- A verified evaluator for Go code: the memory changes. -/
import Derived.Test.YtedffkngbjlgdaaGreatDoorVm3l
import Derived.Deep.MidRow
import Derived.Deep.Upon
namespace Go.Vm
open Go.RowKit
set_option linter.unusedVariables false
set_option linter.unusedSimpArgs false

/-- Cells of a block change that is no object's and is not read. -/
theorem Hs.frame {C : Ctx} {E : Env} {h : Hp} {w w' : World} (r : Hs C w E h) (hs : Shape w w') (hw : ∀ b, E.R b ∨ (∃ u, (lookO h u).isSome = true ∧ E.F u b) → w'.heap[b]? = w.heap[b]?) : Hs C w' E h :=
  ⟨fun t o ho => (r.ob t o ho).mono r.KR rfl (fun _ => Iff.rfl) (fun _ h => h) (fun _ h => h) (fun u _ => Sub.refl E _ u)
      (fun b hb => hw b (hb.elim (fun h => .inr ⟨t, by rw [ho]; rfl, h⟩) .inl)) hs,
   r.dis, r.disR, r.KR, fun x hx => Nat.lt_of_lt_of_le (r.Rlt x hx) hs.size, fun t ht x hx => ⟨Nat.lt_of_lt_of_le (r.Fin t ht x hx).1 hs.size, (r.Fin t ht x hx).2.1, (r.Fin t ht x hx).2.2.shape hs (r.Fin t ht x hx).1⟩, r.R0, r.K0, r.Rin, r.Kin⟩

/-- Object t comes back, or another in its place that is as large and lies where it lay. -/
theorem Hs.back {C : Ctx} {E E1 : Env} {h h1 : Hp} {w w1 : World} {t : Nat} {o o0 : Ob} {F : Nat → Prop} (r0 : Hs C w E h) (r1 : Hs C w1 E1 h1) (hs : Shape w w1)
    (ht : lookO h t = some o0) (hsz : o0.sz = o.sz) (hlen : o0.len = o.len) (hown : o.own = true → o0.own = true)
    (harr : ∀ u, u ≠ t → ∀ o, lookO h1 u = some o → obMen t o = false ∨
      (lookO h u = some o ∧ E1.γ u = E.γ u ∧ (∀ b p, E.γ u = some (b, p) → w1.heap[b]? = w.heap[b]?) ∧ ∀ m, obMen m o = true → m ≠ t → Sub E (lookO h) E1 (lookO h1) m))
    (hF : Fresh C w1 E1 ((t, none) :: h1) F) (ho : ObR w1 (E1.set t (E.γ t) F) (lookO ((t, some o) :: h1)) t o) :
    Hs C w1 (E1.set t (E.γ t) F) ((t, some o) :: h1) := by
  have hl : ∀ u, u ≠ t → lookO ((t, some o) :: h1) u = lookO h1 u := fun u hu => by rw [lookO_cons, if_neg (Ne.symm hu)]
  have hl' : ∀ u, u ≠ t → lookO ((t, none) :: h1) u = lookO h1 u := fun u hu => by rw [lookO_cons, if_neg (Ne.symm hu)]
  have htt : lookO ((t, some o) :: h1) t = some o := by rw [lookO_cons, if_pos rfl]
  have hsubt : Sub E (lookO h) (E1.set t (E.γ t) F) (lookO ((t, some o) :: h1)) t := by
    intro o' ho'; rw [htt] at ho'; cases ho'
    exact ⟨o0, ht, hsz, hlen, hown, Env.set_γ _ _ _ _⟩
  refine ⟨fun u o' ho' => ?_, fun u v hne hu hv x hx hx' => ?_, fun u hu x hx hR => ?_, r1.KR, r1.Rlt, fun u hu x hx => ?_, r1.R0, r1.K0, r1.Rin, r1.Kin⟩
  · by_cases e : u = t
    · subst e; rw [htt] at ho'; cases ho'; exact ho
    · rw [hl u e] at ho'
      have keep : (∀ v, obMen v o' = true → v ≠ t) → ObR w1 (E1.set t (E.γ t) F) (lookO ((t, some o) :: h1)) u o' := fun hm =>
        (r1.ob u o' ho').mono r1.KR (Env.set_γ' E1 _ F e) (Env.set_F' E1 _ F e) (fun _ h => h) (fun _ h => h) (fun v hv => by
          have hvt := hm v hv
          intro o2 ho2; rw [hl v hvt] at ho2
          exact ⟨o2, ho2, rfl, rfl, id, Env.set_γ' E1 _ F hvt⟩) (fun _ _ => rfl) (Shape.refl w1)
      cases o' with
      | row k sz enc l => exact keep fun v hv => by simp [obMen] at hv
      | arr own sz els =>
        rcases harr u e _ ho' with hm | ⟨h1', h2', h3', h4'⟩
        · exact keep fun v hv => by rintro rfl; rw [hm] at hv; cases hv
        · obtain ⟨a0, b, p, a1, a2, a3, ⟨vals, a4, a5⟩, a6⟩ := r1.ob u _ ho'
          obtain ⟨_, b', p', c1, c2, _, ⟨vals0, c4, c5⟩, _⟩ := r0.ob u _ h1'
          rw [h2', c1] at a1; cases a1
          have hbe := h3' b p c1
          refine ⟨a0, b, p, by rw [Env.set_γ' E1 _ F e, h2']; exact c1, a2, a3, ⟨vals, a4, fun i f hi hf => ⟨?_, (a5 i f hi hf).2⟩⟩, ?_⟩
          · have e1 : vals i f = vals0 i f := by
              have x1 := a4 i f hi hf
              have x2 := c4 i f hi hf
              rw [cell_eq hbe, x2] at x1; exact (Option.some.inj x1).symm
            rw [e1]
            refine VR.mono hs _ _ (fun m hm => ?_) (c5 i f hi hf).1
            by_cases em : m = t
            · subst em; exact hsubt
            · intro o2 ho2; rw [hl m em] at ho2
              obtain ⟨o3, x1, x2, x3, x4, x5⟩ := h4' m (elsMen_get hm) em o2 ho2
              exact ⟨o3, x1, x2, x3, x4, by rw [Env.set_γ' E1 _ F em]; exact x5⟩
          · cases own with
            | true => exact ⟨fun x => by rw [Env.set_F' E1 _ F e]; exact a6.1 x, a6.2⟩
            | false => exact ⟨a6.1, fun x hx => a6.2 x ((Env.set_F' E1 _ F e x).1 hx)⟩
      | foc sz enc l q cs =>
        rcases harr u e _ ho' with hm | ⟨h1', h2', h3', h4'⟩
        · exact keep fun v hv => by rintro rfl; rw [hm] at hv; cases hv
        · obtain ⟨a1, a2, a3, a4, b, p, a5, a6, vals, a7, a8, G, g1, g2, g3, g4, g5⟩ := r1.ob u _ ho'
          obtain ⟨_, _, c3, _, b', p', c5, _, vals0, c7, c8, _⟩ := r0.ob u _ h1'
          rw [h2', c5] at a5; cases a5
          have hbe := h3' b p c5
          refine ⟨a1, a2, a3, a4, b, p, by rw [Env.set_γ' E1 _ F e, h2']; exact c5, a6, vals, a7, fun f hf => ⟨?_, (a8 f hf).2⟩, G, g1, g2, g3, fun x => by rw [Env.set_F' E1 _ F e]; exact g4 x, g5⟩
          have e1 : vals q f = vals0 q f := by
            have x1 := a7 q f a3 hf
            have x2 := c7 q f c3 hf
            rw [cell_eq hbe, x2] at x1; exact (Option.some.inj x1).symm
          rw [e1]
          refine VR.mono hs _ _ (fun m hm => ?_) (c8 f hf).1
          by_cases em : m = t
          · subst em; exact hsubt
          · intro o2 ho2; rw [hl m em] at ho2
            obtain ⟨o3, x1, x2, x3, x4, x5⟩ := h4' m (mens_get hm) em o2 ho2
            exact ⟨o3, x1, x2, x3, x4, by rw [Env.set_γ' E1 _ F em]; exact x5⟩
  · by_cases e : u = t
    · subst e
      have e' : v ≠ u := Ne.symm hne
      rw [Env.set_F] at hx; rw [Env.set_F' E1 _ F e'] at hx'
      rw [hl v e'] at hv
      exact (hF x hx).2.2.2 v (by rw [hl' v e']; exact hv) hx'
    · rw [Env.set_F' E1 _ F e] at hx
      by_cases e' : v = t
      · subst e'
        rw [Env.set_F] at hx'
        rw [hl u e] at hu
        exact (hF x hx').2.2.2 u (by rw [hl' u e]; exact hu) hx
      · rw [Env.set_F' E1 _ F e'] at hx'
        rw [hl u e] at hu; rw [hl v e'] at hv
        exact r1.dis u v hne hu hv x hx hx'
  · by_cases e : u = t
    · subst e; rw [Env.set_F] at hx; exact (hF x hx).2.2.1 hR
    · rw [Env.set_F' E1 _ F e] at hx; rw [hl u e] at hu; exact r1.disR u hu x hx hR
  · by_cases e : u = t
    · subst e; rw [Env.set_F] at hx; exact ⟨(hF x hx).1, (hF x hx).2.1⟩
    · rw [Env.set_F' E1 _ F e] at hx; rw [hl u e] at hu; exact r1.Fin u hu x hx

theorem Hs.look {C : Ctx} {E : Env} {h h' : Hp} {w : World} (e : lookO h = lookO h') (r : Hs C w E h) : Hs C w E h' :=
  ⟨by rw [← e]; exact r.ob, by rw [← e]; exact r.dis, by rw [← e]; exact r.disR, r.KR, r.Rlt, by rw [← e]; exact r.Fin, r.R0, r.K0, r.Rin, r.Kin⟩
theorem lookO_twice (t : Nat) (o o' : Option Ob) (h : Hp) : lookO ((t, o) :: (t, o') :: h) = lookO ((t, o) :: h) := by
  funext x; rw [lookO_cons, lookO_cons, lookO_cons]; split <;> simp_all

/-- The world behind an operation that changes memory. -/
structure Chg (C : Ctx) (w w' : World) : Prop where
  shape : Shape w w'
  frame : ∀ b, b < C.w0.heap.size → ¬ C.own0 b → w'.heap[b]? = w.heap[b]?

theorem Ext.chg {C : Ctx} {w w' : World} (x : Ext w w') (h : C.w0.heap.size ≤ w.heap.size) : Chg C w w' := ⟨x.shape, fun b hb _ => x.blk b (Nat.lt_of_lt_of_le hb h)⟩
theorem Chg.trans {C : Ctx} {a b c : World} (h : Chg C a b) (k : Chg C b c) : Chg C a c := ⟨h.shape.trans k.shape, fun x h1 h2 => (k.frame x h1 h2).trans (h.frame x h1 h2)⟩

theorem Rel.putW {C : Ctx} {E E' : Env} {s : Sl} {h h' : Hp} {a : Act} {w w' : World} (r : Rel C E s h a w) (x : Chg C w w') (hs : Hs C w' E' h') {dst : Option Nat} (hd : ∀ d, dst = some d → d < C.nt) {V : V} {v : Value}
    (hv : V = .dead ∨ VR w' E' (lookO h') V v) (hsub : ∀ n u, men u (look s n) = true → Sub E (lookO h) E' (lookO h') u) : Rel C E' (Vm.put dst V s) h' (a.put dst v) w' := by
  refine ⟨hs.ob, hs.dis, hs.disR, hs.KR, hs.Rlt, hs.Fin, hs.R0, hs.K0, hs.Rin, hs.Kin, fun n => ?_, ?_, r.shape.trans x.shape, fun b hb h0 => ?_, ?_⟩
  · have old : look s n = .dead ∨ VR w' E' (lookO h') (look s n) (C.tv a n) := by
      rcases r.sl n with h1 | h1
      · exact .inl h1
      · exact .inr (VR.mono x.shape _ _ (fun u hu => hsub n u hu) h1)
    cases dst with
    | none => exact old
    | some d =>
      have hdn := hd d rfl
      simp only [Vm.put]
      rw [look_cons, tv_put r.nt hdn]
      split
      · exact hv
      · exact old
  · cases dst <;> simp [Act.put, r.nt]
  · rw [x.frame b hb h0]; exact r.frame b hb h0
  · cases dst <;> exact r.defers

theorem setCells_size (b : Nat) : ∀ (vs : List Value) (o : Nat) (w : World), (w.setCells b o vs).heap.size = w.heap.size
  | [], _, _ => rfl
  | v :: r, o, w => by rw [World.setCells, setCells_size b r]; simp
theorem setCells_shape (b : Nat) : ∀ (vs : List Value) (o : Nat) (w : World), Shape w (w.setCells b o vs)
  | [], _, w => Shape.refl w
  | v :: r, o, w => by rw [World.setCells]; exact (Shape.setCell w _ v).trans (setCells_shape b r _ _)
theorem setCells_blk {b : Nat} (vs : List Value) (o : Nat) (w : World) {x : Nat} (h : x ≠ b) : (w.setCells b o vs).heap[x]? = w.heap[x]? := by
  induction vs generalizing o w with
  | nil => rfl
  | cons v r ih =>
    rw [World.setCells, ih]
    simp [World.setCell, Array.getElem?_modify, Ne.symm h]
end Go.Vm
