/- A verified evaluator for Go code: what is read is what the memory holds. -/
import Derived.Test.YtedffkngbjlgdaaGreatDoorVm1
namespace Go.Vm
open Go.RowKit
set_option linter.unusedVariables false
set_option linter.unusedSimpArgs false

/-- What may be read: what is there to read, and what is one's own. -/
def Rd (E : Env) (g : Nat → Option Ob) (b : Nat) : Prop := E.R b ∨ ∃ t, (g t).isSome = true ∧ E.F t b

structure Obs (w : World) (E : Env) (g : Nat → Option Ob) : Prop where
  ob : ∀ t o, g t = some o → ObR w E g t o
  KR : ∀ x, E.Kp x → E.R x

theorem Rel.obs {C : Ctx} {E : Env} {s : Sl} {h : Hp} {a : Act} {w : World} (r : Rel C E s h a w) : Obs w E (lookO h) := ⟨r.ob, r.KR⟩

theorem cutL_len {α : Type} {cut : Option (Nat × Nat)} {l : List α} {off n : Nat} (h1 : cut = none ∧ off = 0 ∧ n = l.length ∨ cut = some (off, n)) (h2 : off + n ≤ l.length) :
    (cutL cut l).length = n := by
  rcases h1 with ⟨rfl, rfl, rfl⟩ | rfl
  · rfl
  · simp [cutL]; omega

theorem cutL_get {α : Type} {cut : Option (Nat × Nat)} {l : List α} {off n : Nat} (h1 : cut = none ∧ off = 0 ∧ n = l.length ∨ cut = some (off, n)) (h2 : off + n ≤ l.length) (i : Nat) (hi : i < n) :
    (cutL cut l)[i]? = l[off + i]? := by
  rcases h1 with ⟨rfl, rfl, rfl⟩ | rfl
  · simp [cutL]
  · simp [cutL, List.getElem?_take, hi, List.getElem?_drop]

theorem dat_cut {α : Type} {enc : α → List D} {cut : Option (Nat × Nat)} {l : List α} {off n : Nat} (h1 : cut = none ∧ off = 0 ∧ n = l.length ∨ cut = some (off, n)) (h2 : off + n ≤ l.length) (i f : Nat) (hi : i < n) :
    dat enc (cutL cut l) i f = dat enc l (off + i) f := by
  unfold dat; rw [cutL_get h1 h2 i hi]

/-- A row of either kind, as it is read. -/
theorem ObR.rd {w : World} {E : Env} {g : Nat → Option Ob} {t : Nat} {k : Kind} {sz : Nat} {α : Type} {enc : α → List D} {l : List α} (hK : ∀ x, E.Kp x → E.R x)
    (hg : (g t).isSome = true) (h : ObR w E g t (.row k sz enc l)) : (∀ a, (enc a).length = sz) ∧ l.length ≤ 9223372036854775807 ∧ match E.γ t with
    | none => l = []
    | some (b, o) => b < w.heap.size ∧ Rd E g b ∧ ∃ vals, RowC w b o sz l.length vals ∧ ∀ i f, i < l.length → f < sz → Ro w (Rd E g) (vals i f) (dat enc l i f) := by
  obtain ⟨h1, h2, h3⟩ := h
  refine ⟨h1, h2, ?_⟩
  split at h3
  · rename_i e; simp only [e]; exact h3.1
  · rename_i b o e
    simp only [e]
    obtain ⟨hb, vals, hv, hk⟩ := h3
    cases k with
    | own =>
      obtain ⟨G, hr, _, _, hF, _⟩ := hk
      refine ⟨hb, .inr ⟨t, hg, (hF b).2 (.inl rfl)⟩, vals, hv, fun i f hi hf => (hr i f hi hf).ro (fun x hx => .inr ⟨t, hg, (hF x).2 (.inr ⟨i, f, hi, hf, hx⟩)⟩) fun x hx => .inl (hK x hx)⟩
    | mix => exact ⟨hb, .inr ⟨t, hg, (hk.2.1 b).2 rfl⟩, vals, hv, fun i f hi hf => (hk.1 i f hi hf).mono fun x hx => .inl (hK x hx)⟩
    | ro => exact ⟨hb, .inl (hK b hk.1), vals, hv, fun i f hi hf => (hk.2.1 i f hi hf).mono fun x hx => .inl (hK x hx)⟩
    | lent => exact ⟨hb, .inl hk.1, vals, hv, fun i f hi hf => (hk.2.1 i f hi hf).mono fun x hx => .inl hx⟩

theorem ObR.arr_rd {w : World} {E : Env} {g : Nat → Option Ob} {t : Nat} {own : Bool} {sz : Nat} {els : List (List V)}
    (hg : (g t).isSome = true) (h : ObR w E g t (.arr own sz els)) : els.length ≤ 9223372036854775807 ∧ ∃ b o vals, E.γ t = some (b, o) ∧ b < w.heap.size ∧ Rd E g b ∧ (∀ e ∈ els, e.length = sz) ∧ RowC w b o sz els.length vals ∧
      ∀ i f, i < els.length → f < sz → VR w E g ((els.getD i []).getD f .dead) (vals i f) ∧ (vals i f).oneCell' = true := by
  obtain ⟨h0, b, o, h1, h2, h3, ⟨vals, h4, h5⟩, h6⟩ := h
  refine ⟨h0, b, o, vals, h1, h2, ?_, h3, h4, h5⟩
  cases own with
  | true => exact .inr ⟨t, hg, (h6.1 b).2 rfl⟩
  | false => exact .inl h6.1

/-- A slice of a row that is read. -/
theorem ro_slice {w : World} {R : Nat → Prop} {g : Option (Nat × Nat)} {sz : Nat} {α : Type} {enc : α → List D} {l : List α} {own : Bool} {cut : Option (Nat × Nat)} {v : Value}
    (hz : ∀ a, (enc a).length = sz) (hm : l.length ≤ 9223372036854775807)
    (h : match g with
      | none => l = []
      | some (b, o) => b < w.heap.size ∧ R b ∧ ∃ vals, RowC w b o sz l.length vals ∧ ∀ i f, i < l.length → f < sz → Ro w R (vals i f) (dat enc l i f))
    (hs : SlR w g sz l.length own cut v) : Ro w R v (.row sz enc (cutL cut l)) := by
  cases g with
  | none =>
    obtain rfl : l = [] := h
    obtain ⟨ab, rfl, _, hc⟩ := hs
    have : cutL cut ([] : List α) = [] := by rcases hc with rfl | rfl <;> simp [cutL]
    rw [this]; exact .nil hz
  | some p =>
    obtain ⟨b, o⟩ := p
    obtain ⟨hb, hR, vals, hv, hr⟩ := h
    obtain ⟨off, n, oo, c, h1, h2, h3, h4, rfl, h6⟩ := hs
    refine .row (fun i f => vals (off + i) f) (cutL_len h1 h2).symm hR hb h3 (by omega) (fun j hj => (h6 j hj).1) hz (fun i f hi hf => ?_) (fun i f hi hf => ?_)
    · rcases h4 with rfl | rfl
      · omega
      · have := hv (off + i) f (by omega) hf
        rw [← this]; congr 2; rw [Nat.add_mul]; omega
    · rw [dat_cut h1 h2 i f hi]; exact hr (off + i) f (by omega) hf

mutual
theorem rdD_sound {w : World} {E : Env} {g : Nat → Option Ob} (ho : Obs w E g) : ∀ (n : Nat) (V : V) (v : Value) (K : D → Prop), VR w E g V v → rdD n g V K → ∃ d, K d ∧ Ro w (Rd E g) v d
  | 0, _, _, _, _, hk => by simp [rdD] at hk
  | n + 1, .lf u, v, K, h, hk => by
    obtain ⟨rfl, hu⟩ := h
    by_cases e : v = .slice none 0 0
    · subst e
      obtain ⟨sz, α, enc, hz, hk⟩ := hk
      exact ⟨_, hk, .nil hz⟩
    · have hk' : K (.lf v) := by
        revert hk; unfold rdD
        split <;> intro hk
        all_goals first | exact hk.elim | exact absurd rfl e | skip
        all_goals first | (rename_i h1; simp at h1) | skip
        all_goals simp_all
      exact ⟨_, hk', .lf hu⟩
  | n + 1, .dead, v, K, h, hk => by simp [rdD] at hk
  | n + 1, .agg _, v, K, h, hk => by simp [rdD] at hk
  | n + 1, .tup _, v, K, h, hk => by simp [rdD] at hk
  | n + 1, .sl t cut, v, K, h, hk => by
    simp only [rdD] at hk
    split at hk
    · rename_i k sz α enc l e
      have hob := ho.ob t _ e
      obtain ⟨hz, hm, hr⟩ := hob.rd ho.KR (by simp [e])
      exact ⟨_, hk, ro_slice hz hm hr (h.2 _ e)⟩
    · rename_i own sz els e
      obtain ⟨h0, b, o, vals, e1, hb, hR, hz, hv, hr⟩ := (ho.ob t _ e).arr_rd (by simp [e])
      have hs := h.2 _ e
      simp only [Ob.sz, Ob.len, e1] at hs
      obtain ⟨off, m, oo, c, h1, h2, h3, h4, rfl, h6⟩ := hs
      obtain ⟨ds, ⟨α, enc, l, hz', rfl, hk⟩, hl, _, hd⟩ := rdEls_sound ho n sz (cutL cut els) (fun i f => vals (off + i) f) _
        (fun e he => hz e (by revert he; cases cut <;> simp [cutL]; intro he; exact List.mem_of_mem_drop (List.mem_of_mem_take he)))
        (fun i f hi hf => by
          rw [cutL_len h1 h2] at hi
          have := hr (off + i) f (by omega) hf
          rwa [show (cutL cut els).getD i [] = els.getD (off + i) [] by simp only [List.getD_eq_getElem?_getD]; rw [cutL_get h1 h2 i hi]]) hk
      have hlen : l.length = m := by rw [← cutL_len h1 h2, ← hl]; simp
      refine ⟨_, hk, .row (fun i f => vals (off + i) f) hlen.symm hR hb h3 ?_ (fun j hj => (h6 j hj).1) hz' (fun i f hi hf => ?_) (fun i f hi hf => ?_)⟩
      · omega
      · rcases h4 with rfl | rfl
        · omega
        · have := hv (off + i) f (by omega) hf
          rw [← this]; congr 2; rw [Nat.add_mul]; omega
      · have := hd i f (by rw [cutL_len h1 h2]; exact hi) hf
        have e2 : ((l.map enc).getD i []).getD f .dead = dat enc l i f := by
          unfold dat
          have hi' : i < l.length := by omega
          simp [hi']
        rwa [e2] at this
    · exact hk.elim
    · exact ⟨_, hk, .dead h.1⟩
  | n + 1, .pt t i f, v, K, h, hk => by
    simp only [rdD] at hk
    split at hk
    · rename_i k sz α enc l e
      split at hk
      · rw [nth_eq] at hk
        unfold ex at hk
        split at hk
        · rename_i a ea
          have hi : i < l.length := by
            rcases Nat.lt_or_ge i l.length with h1 | h1
            · exact h1
            · rw [List.getElem?_eq_none h1] at ea; cases ea
          obtain ⟨hz, hm, hr⟩ := (ho.ob t _ e).rd ho.KR (by simp [e])
          obtain ⟨b, p, e1, rfl⟩ := h.2 _ e
          simp only [e1] at hr
          obtain ⟨hb, hR, vals, hv, hr⟩ := hr
          refine ⟨_, hk, .box (fun f => vals i f) hR hb (fun f hf => ?_) (fun f hf => ?_)⟩
          · have := hv i f hi (by rw [← hz a]; exact hf)
            rw [← this]; simp only [Ob.sz]; congr 2; omega
          · have := hr i f hi (by rw [← hz a]; exact hf)
            simpa [dat, ea] using this
        · exact hk.elim
      · exact hk.elim
    · rename_i own sz els e
      split at hk
      · rw [nth_eq] at hk
        unfold ex at hk
        split at hk
        · rename_i cs ea
          have hi : i < els.length := by
            rcases Nat.lt_or_ge i els.length with h1 | h1
            · exact h1
            · rw [List.getElem?_eq_none h1] at ea; cases ea
          obtain ⟨h0, b, o, vals, e1, hb, hR, hz, hv, hr⟩ := (ho.ob t _ e).arr_rd (by simp [e])
          obtain ⟨b', p, e2, rfl⟩ := h.2 _ e
          rw [e1] at e2; cases e2
          have hcs : cs.length = sz := hz cs (List.mem_of_getElem? ea)
          have hg : els.getD i [] = cs := by simp [List.getD_eq_getElem?_getD, ea]
          obtain ⟨ds, hk, hl, hd⟩ := rdDs_sound ho n cs ((List.range sz).map fun f => vals i f) _
            (VRs.mk (by simp [hcs]) (fun f x hx => by
              by_cases hf : f < sz
              · have := hr i f hi hf
                rw [hg] at this
                simp [hf] at hx; subst hx; exact this.1
              · simp [hf] at hx))
            (fun x hx => by
              simp only [List.mem_map, List.mem_range] at hx
              obtain ⟨f, hf, rfl⟩ := hx
              exact (hr i f hi hf).2) hk
          refine ⟨_, hk, .box (fun f => vals i f) hR hb (fun f hf => ?_) (fun f hf => ?_)⟩
          · have := hv i f hi (by omega)
            rw [← this]; simp only [Ob.sz]; congr 2; omega
          · have := hd f (by omega)
            have hf' : f < sz := by omega
            simpa [hf'] using this
        · exact hk.elim
      · exact hk.elim
    · exact hk.elim
    · exact ⟨_, hk, .dead (by obtain ⟨⟨ad, rfl⟩, _⟩ := h; rfl)⟩
  | n + 1, .fn f cs, v, K, h, hk => by
    simp only [rdD] at hk
    obtain ⟨vs, rfl, h2, h3⟩ := h
    obtain ⟨ds, hk, hl, hd⟩ := rdDs_sound ho n cs vs _ h2 h3 hk
    exact ⟨_, hk, .fn vs (by rw [hl, VRs.length h2]) (fun i hi => hd i (by omega))⟩
theorem rdDs_sound {w : World} {E : Env} {g : Nat → Option Ob} (ho : Obs w E g) : ∀ (n : Nat) (cs : List V) (vs : List Value) (K : List D → Prop), VRs w E g cs vs → (∀ x ∈ vs, x.oneCell' = true) → rdDs n g cs K →
    ∃ ds, K ds ∧ ds.length = cs.length ∧ ∀ i, i < cs.length → Ro w (Rd E g) (vs.getD i undef) (ds.getD i .dead)
  | 0, _, _, _, _, _, hk => by simp [rdDs] at hk
  | n + 1, [], vs, K, h, h1, hk => ⟨[], by simpa [rdDs] using hk, rfl, fun i hi => by simp at hi⟩
  | n + 1, c :: cs, vs, K, h, h1, hk => by
    obtain ⟨x, xs, rfl, h2, h3⟩ := h
    simp only [rdDs] at hk
    obtain ⟨d, hk, hd⟩ := rdD_sound ho n c x _ h2 hk
    obtain ⟨ds, hk, hl, hds⟩ := rdDs_sound ho n cs xs _ h3 (fun y hy => h1 y (by simp [hy])) hk
    refine ⟨_, hk, by simp [hl], fun i hi => ?_⟩
    cases i with
    | zero => exact hd
    | succ i => simpa using hds i (by simpa using hi)
theorem rdEls_sound {w : World} {E : Env} {g : Nat → Option Ob} (ho : Obs w E g) : ∀ (n sz : Nat) (els : List (List V)) (vals : Nat → Nat → Value) (K : List (List D) → Prop), (∀ e ∈ els, e.length = sz) →
    (∀ i f, i < els.length → f < sz → VR w E g ((els.getD i []).getD f .dead) (vals i f) ∧ (vals i f).oneCell' = true) → rdEls n g els K →
    ∃ ds, K ds ∧ ds.length = els.length ∧ (∀ d ∈ ds, d.length = sz) ∧ ∀ i f, i < els.length → f < sz → Ro w (Rd E g) (vals i f) ((ds.getD i []).getD f .dead)
  | 0, _, _, _, _, _, _, hk => by simp [rdEls] at hk
  | n + 1, sz, [], vals, K, hz, h, hk => ⟨[], by simpa [rdEls] using hk, rfl, by simp, fun i f hi => by simp at hi⟩
  | n + 1, sz, e :: els, vals, K, hz, h, hk => by
    simp only [rdEls] at hk
    have hez := hz e (by simp)
    obtain ⟨d, hk, hl, hd⟩ := rdDs_sound ho n e ((List.range sz).map fun f => vals 0 f) _
      (VRs.mk (by simp [hez]) (fun f x hx => by
        simp only [List.getElem?_map, List.getElem?_range'] at hx
        by_cases hf : f < sz
        · have := h 0 f (by simp) hf
          simp [hf] at hx; subst hx; exact this.1
        · simp [hf] at hx))
      (fun x hx => by
        simp only [List.mem_map, List.mem_range] at hx
        obtain ⟨f, hf, rfl⟩ := hx
        exact (h 0 f (by simp) hf).2) hk
    obtain ⟨ds, hk, hl2, hl3, hds⟩ := rdEls_sound ho n sz els (fun i f => vals (i + 1) f) _ (fun e' he' => hz e' (by simp [he'])) (fun i f hi hf => by simpa using h (i + 1) f (by simpa using hi) hf) hk
    refine ⟨_, hk, by simp [hl2], fun d' hd' => (by cases hd' with | head => omega | tail _ h4 => exact hl3 d' h4), fun i f hi hf => ?_⟩
    cases i with
    | zero =>
      have := hd f (by omega)
      simpa [hf] using this
    | succ i => simpa using hds i f (by simpa using hi) hf
end
end Go.Vm
