/- A verified evaluator for Go code: append. -/
import Derived.Test.YtedffkngbjlgdaaGreatDoorVm4e
namespace Go.Vm
open Go.RowKit
set_option linter.unusedVariables false
set_option linter.unusedSimpArgs false

section
variable {P : Program} {T : Tab} {S : Cons} {C : Ctx} {E E1 : Env} {s : Sl} {h h1 : Hp} {a : Act} {w w' : World} {K : Sl → Hp → Prop} {Q : Exit → Act → World → Prop} {o : Oper} {v : Value}

theorem dat_app1 {α : Type} {enc : α → List D} {l m : List α} {i f : Nat} (h : i < l.length) : dat enc (l ++ m) i f = dat enc l i f := by
  unfold dat; rw [List.getElem?_append_left h]
theorem dat_app2 {α : Type} {enc : α → List D} {l m : List α} {i f : Nat} (h : l.length ≤ i) : dat enc (l ++ m) i f = dat enc m (i - l.length) f := by
  unfold dat; rw [List.getElem?_append_right h]

/-- The row behind an append, whatever its block. -/
theorem app_rows {own : Bool} {sz b p c : Nat} {α : Type} {enc : α → List D} {l m : List α} {vals0 vals : Nat → Nat → Value} {G0 G : Nat → Nat → Nat → Prop}
    (hz : ∀ a, (enc a).length = sz) (hle : l.length + m.length ≤ c) (hmx : l.length + m.length ≤ 9223372036854775807)
    (hcap : ∀ j, j < c * sz → (∃ x, w'.cell? ⟨b, p + j, none⟩ = some x) ∧ w'.frozen? ⟨b, p + j, none⟩ = false) (hb : b < w'.heap.size)
    (hv0 : ∀ i f, i < l.length → f < sz → w'.cell? ⟨b, p + (i * sz + f), none⟩ = some (vals0 i f)) (hv : ∀ i f, i < m.length → f < sz → w'.cell? ⟨b, p + ((l.length + i) * sz + f), none⟩ = some (vals i f))
    (g0 : ∀ i f, i < l.length → f < sz → MvD own w' E (G0 i f) (vals0 i f) (dat enc l i f)) (g1 : ∀ i f, i < m.length → f < sz → MvD own w' E (G i f) (vals i f) (dat enc m i f))
    (d0 : ∀ i f j g, i < l.length → f < sz → j < l.length → g < sz → (i ≠ j ∨ f ≠ g) → ∀ x, G0 i f x → ¬ G0 j g x)
    (d1 : ∀ i f j g, i < m.length → f < sz → j < m.length → g < sz → (i ≠ j ∨ f ≠ g) → ∀ x, G i f x → ¬ G j g x)
    (d2 : ∀ i f j g, i < l.length → f < sz → j < m.length → g < sz → ∀ x, G0 i f x → ¬ G j g x)
    (b0 : ∀ i f, i < l.length → f < sz → ¬ G0 i f b) (b1 : ∀ i f, i < m.length → f < sz → ¬ G i f b) :
    ∃ F, BaseR own w' E F (.slice (some ⟨b, p, none⟩) (l.length + m.length) c) sz enc (l ++ m) ∧ ∀ x, F x → x = b ∨ (∃ i f, i < l.length ∧ f < sz ∧ G0 i f x) ∨ ∃ i f, i < m.length ∧ f < sz ∧ G i f x := by
  let G' : Nat → Nat → Nat → Prop := fun i f => if i < l.length then G0 i f else G (i - l.length) f
  have e0 : ∀ i f, i < l.length → G' i f = G0 i f := fun i f h => if_pos h
  have e1 : ∀ i f, ¬ i < l.length → G' i f = G (i - l.length) f := fun i f h => if_neg h
  have v0 : ∀ i f, i < l.length → (fun i f => if i < l.length then vals0 i f else vals (i - l.length) f) i f = vals0 i f := fun i f h => if_pos h
  have v1 : ∀ i f, ¬ i < l.length → (fun i f => if i < l.length then vals0 i f else vals (i - l.length) f) i f = vals (i - l.length) f := fun i f h => if_neg h
  refine ⟨fun x => x = b ∨ ∃ i f, i < (l ++ m).length ∧ f < sz ∧ G' i f x, ⟨hz, by simpa using hmx, .inr ⟨b, p, c, by rw [List.length_append], by simpa using hle, hcap, hb, fun i f => if i < l.length then vals0 i f else vals (i - l.length) f, ?_, G', ?_, ?_, ?_, fun x => Iff.rfl⟩⟩, ?_⟩
  · intro i f hi hf
    rw [List.length_append] at hi
    by_cases e : i < l.length
    · rw [v0 i f e]; exact hv0 i f e hf
    · rw [v1 i f e]
      have := hv (i - l.length) f (by omega) hf
      rwa [show l.length + (i - l.length) = i by omega] at this
  · intro i f hi hf
    rw [List.length_append] at hi
    by_cases e : i < l.length
    · rw [e0 i f e, v0 i f e, dat_app1 e]; exact g0 i f e hf
    · rw [e1 i f e, v1 i f e, dat_app2 (by omega)]; exact g1 _ f (by omega) hf
  · intro i f j g hi hf hj hg hne x hx hx'
    rw [List.length_append] at hi hj
    by_cases e : i < l.length <;> by_cases e' : j < l.length
    · rw [e0 i f e] at hx; rw [e0 j g e'] at hx'; exact d0 i f j g e hf e' hg hne x hx hx'
    · rw [e0 i f e] at hx; rw [e1 j g e'] at hx'; exact d2 i f _ g e hf (by omega) hg x hx hx'
    · rw [e1 i f e] at hx; rw [e0 j g e'] at hx'; exact d2 j g _ f e' hg (by omega) hf x hx' hx
    · rw [e1 i f e] at hx; rw [e1 j g e'] at hx'; exact d1 _ f _ g (by omega) hf (by omega) hg (by omega) x hx hx'
  · intro i f hi hf hx
    rw [List.length_append] at hi
    by_cases e : i < l.length
    · rw [e0 i f e] at hx; exact b0 i f e hf hx
    · rw [e1 i f e] at hx; exact b1 _ f (by omega) hf hx
  · rintro x (hx | ⟨i, f, hi, hf, hx⟩)
    · exact .inl hx
    · rw [List.length_append] at hi
      by_cases e : i < l.length
      · rw [e0 i f e] at hx; exact .inr (.inl ⟨i, f, e, hf, hx⟩)
      · rw [e1 i f e] at hx; exact .inr (.inr ⟨_, f, by omega, hf, hx⟩)

/-- An append's run. -/
theorem app_run {own : Bool} {tx tyy e ty : TypeId} {ei : TyI} {α : Type} {enc : α → List D} {l m : List α} {Fb : Nat → Prop} {vals : Nat → Nat → Value} {G : Nat → Nat → Nat → Prop} {x : Value}
    (hut : P.underlying tx = some (.slice e)) (hei : TyOk P e ei) (hbase : BaseR own w E Fb v ei.size enc l) (hs : Src P ei.size tyy x m.length (flatV ei.size m.length vals) w) (hlim : l.length + m.length ≤ lim)
    (hm : ∀ i f, i < m.length → f < ei.size → MvD own w E (G i f) (vals i f) (dat enc m i f)) (hd : ∀ i f j g, i < m.length → f < ei.size → j < m.length → g < ei.size → (i ≠ j ∨ f ≠ g) → ∀ x, G i f x → ¬ G j g x)
    (hGb : ∀ i f, i < m.length → f < ei.size → ∀ x, G i f x → ¬ Fb x ∧ x < w.heap.size) (hFb : ∀ x, Fb x → x < w.heap.size) (hK : ∀ x, E.Kp x → x < w.heap.size ∧ ¬ Fb x) :
    ∃ v' w' F, (Builtin.append_ #[tx, tyy] ty #[v, x]).run P w = .ok v' w' ∧ Shape w w' ∧ (∀ x, x < w.heap.size → ¬ Fb x → w'.heap[x]? = w.heap[x]?) ∧ BaseR own w' E F v' ei.size enc (l ++ m) ∧
      ∀ x, F x → Fb x ∨ (∃ i f, i < m.length ∧ f < ei.size ∧ G i f x) ∨ (w.heap.size ≤ x ∧ x < w'.heap.size ∧ Cl w' x) := by
  obtain ⟨inf, z, h1, h2, h3, h4, h5, h6, h7⟩ := hei.info
  have hzc : z.cells.size = ei.size := by rw [← hei.zl, ← h5]; simp
  have hlim' : l.length + m.length ≤ 4294967296 := hlim
  have hby := hei.by_
  have hfits : (l.length + m.length) * inf.bytes ≤ 140737488355328 := by
    rw [h3]
    calc (l.length + m.length) * ei.bytes ≤ 4294967296 * 32768 := Nat.mul_le_mul hlim' hby
      _ = 140737488355328 := rfl
  -- there is no room: a new row
  have grow : ∀ (base : Option Addr) (cap : Nat) (vals0 : Nat → Nat → Value) (G0 : Nat → Nat → Nat → Prop), v = .slice base l.length cap → cap < l.length + m.length → (∀ a, (enc a).length = ei.size) →
      (Builtin.firstCells ei.size l.length (.slice base l.length cap)).run P w.drew = .ok (flatV ei.size l.length vals0).toArray w.drew → (∀ i f, i < l.length → f < ei.size → MvD own w E (G0 i f) (vals0 i f) (dat enc l i f)) →
      (∀ i f j g, i < l.length → f < ei.size → j < l.length → g < ei.size → (i ≠ j ∨ f ≠ g) → ∀ x, G0 i f x → ¬ G0 j g x) → (∀ i f, i < l.length → f < ei.size → ∀ x, G0 i f x → Fb x) →
      ∃ v' w' F, (Builtin.append_ #[tx, tyy] ty #[v, x]).run P w = .ok v' w' ∧ Shape w w' ∧ (∀ x, x < w.heap.size → ¬ Fb x → w'.heap[x]? = w.heap[x]?) ∧ BaseR own w' E F v' ei.size enc (l ++ m) ∧
      ∀ x, F x → Fb x ∨ (∃ i f, i < m.length ∧ f < ei.size ∧ G i f x) ∨ (w.heap.size ≤ x ∧ x < w'.heap.size ∧ Cl w' x) := by
    intro base cap vals0 G0 hv hcap hz hold g0 d0 b0
    have hr := run_append_grow_src (P := P) w tx tyy ty e inf z hut h1 h4 base l.length cap (flatV ei.size l.length vals0) (by rw [h2]; exact hold) x m.length (flatV ei.size m.length vals) (by rw [h2]; exact hs) hcap (by omega) (growslice_fits hcap hfits)
    rw [← hv] at hr
    have hge := grownCap_ge w (l.length + m.length) cap e
    have hnl : (flatV ei.size l.length vals0 ++ flatV ei.size m.length vals).length = (l.length + m.length) * ei.size := by rw [List.length_append, flatV_len, flatV_len, Nat.add_mul]
    obtain ⟨b1, b2⟩ := app_block (zc := z.cells) (t := e) (e := e) (news := flatV ei.size l.length vals0 ++ flatV ei.size m.length vals) (n := l.length + m.length) (cap := grownCap w (l.length + m.length) cap e) (sz := ei.size) (wd := w.drew) hnl hzc hge w.heap.size rfl
    generalize hw' : w.drew.alloc (.cells ((flatV ei.size l.length vals0 ++ flatV ei.size m.length vals).toArray ++ Builtin.zeroCells z.cells (grownCap w (l.length + m.length) cap e - (l.length + m.length))) e) = w' at hr b1 b2
    have hext : Ext w w' := by rw [← hw']; exact (Ext.drew w).trans (Ext.alloc _ _)
    have hbl : w.heap.size < w'.heap.size := by rw [← hw']; exact alloc_lt w.drew _
    have hcln : Cl w' w.heap.size := fun j => by rw [← hw']; exact World.frozen?_alloc_new ..
    have hfr : ∀ {F : Nat → Prop} {u : Value} {d : D}, MvD own w E F u d → (∀ x, F x → x < w.heap.size) → MvD own w' E F u d := fun hm hF => hm.world (fun x hx => hext.blk x (hF x hx)) (fun x hx => hext.blk x (hK x hx).1)
    obtain ⟨F, hF1, hF2⟩ := app_rows (w' := w') (own := own) (E := E) (b := w.heap.size) (p := 0) (c := grownCap w (l.length + m.length) cap e) (l := l) (m := m) (vals0 := vals0) (vals := vals) (G0 := G0) (G := G) hz hge (by omega) (fun j hj => by simpa using b1 j hj) hbl
      (fun i f hi hf => by
        have hlt : i * ei.size + f < (flatV ei.size l.length vals0).length := by rw [flatV_len]; exact idx_lt hi hf
        rw [Nat.zero_add, b2 _ (by rw [List.length_append]; omega), List.getElem?_append_left hlt, flatV_get hi hf])
      (fun i f hi hf => by
        have hlt := idx_lt hi hf
        rw [Nat.zero_add, b2 _ (by rw [hnl]; exact idx_lt (by omega) hf), List.getElem?_append_right (by rw [flatV_len, Nat.add_mul]; omega), flatV_len, show (l.length + i) * ei.size + f - l.length * ei.size = i * ei.size + f by rw [Nat.add_mul]; omega, flatV_get hi hf])
      (fun i f hi hf => hfr (g0 i f hi hf) (fun x hx => hFb x (b0 i f hi hf x hx))) (fun i f hi hf => hfr (hm i f hi hf) (fun x hx => (hGb i f hi hf x hx).2)) d0 hd
      (fun i f j g hi hf hj hg x hx hx' => (hGb j g hj hg x hx').1 (b0 i f hi hf x hx)) (fun i f hi hf hx => Nat.lt_irrefl _ (hFb _ (b0 i f hi hf _ hx))) (fun i f hi hf hx => Nat.lt_irrefl _ (hGb i f hi hf _ hx).2)
    refine ⟨_, w', F, hr, hext.shape, fun x hx _ => hext.blk x hx, hF1, fun x hx => ?_⟩
    rcases hF2 x hx with rfl | ⟨i, f, hi, hf, hg⟩ | hg
    · exact .inr (.inr ⟨Nat.le_refl _, hbl, hcln⟩)
    · exact .inl (b0 i f hi hf x hg)
    · exact .inr (.inl hg)
  obtain ⟨hz, hml, h8⟩ := hbase
  rcases h8 with ⟨rfl, rfl, hF⟩ | ⟨b, p, c, rfl, hc, hcap, hb, vals0, hv0, G0, g0, d0, b0, hF⟩
  · rcases Nat.eq_zero_or_pos m.length with h0 | h0
    · rw [List.length_eq_zero_iff] at h0; subst h0
      refine ⟨.slice none 0 0, w, fun _ => False, ?_, Shape.refl w, fun _ _ _ => rfl, ⟨hz, by simp, .inl ⟨rfl, rfl, fun _ h => h⟩⟩, fun _ h => h.elim⟩
      have hl := hs.len w
      have hcl := hs.cells
      have hk := hs.kind
      have e0 : flatV ei.size 0 vals = [] := by simp [flatV]
      simp only [List.length_nil, e0] at hl hcl
      rcases hk with ⟨e', hk⟩ | hk <;> simp [Builtin.append_, run_underlying hut, run_underlying hk, sizeOf, typeInfo, h1, h2, hl, hcl]
    · refine grow none 0 (fun _ _ => undef) (fun _ _ _ => False) rfl (by simp; omega) hz ?_ (fun i f hi => by simp at hi) (fun i f j g hi => by simp at hi) (fun i f hi => by simp at hi)
      have e0 : flatV ei.size ([] : List α).length (fun _ _ => undef) = [] := by simp [flatV]
      rw [e0]; exact firstCells_nil _ _
  · by_cases hroom : l.length + m.length ≤ c
    · have hrow : ∀ j, j < m.length * ei.size → l.length * ei.size + j < c * ei.size := by
        intro j hj
        have : (l.length + m.length) * ei.size ≤ c * ei.size := Nat.mul_le_mul_right _ hroom
        rw [Nat.add_mul] at this; omega
      have hr := run_append_room_src (P := P) w tx tyy ty e inf hut h1 b p l.length c x m.length (flatV ei.size m.length vals) (by rw [h2]; exact hs) hroom
        (fun j hj => by
          rw [flatV_len] at hj
          obtain ⟨y, hy⟩ := (hcap _ (hrow j hj)).1
          rw [h2, Nat.add_assoc, hy]; rfl)
        (fun j hj => by
          rw [flatV_len] at hj
          rw [h2, Nat.add_assoc]; exact (hcap _ (hrow j hj)).2)
      rw [h2] at hr
      have hFbb : Fb b := (hF b).2 (.inl rfl)
      have hblk : ∀ x, x ≠ b → (w.setCells b (p + l.length * ei.size) (flatV ei.size m.length vals)).heap[x]? = w.heap[x]? := fun x hx => setCells_blk _ _ _ hx
      have hsh := setCells_shape b (flatV ei.size m.length vals) (p + l.length * ei.size) w
      have hbl : b < (w.setCells b (p + l.length * ei.size) (flatV ei.size m.length vals)).heap.size := by rw [setCells_size]; exact hb
      have hrc : RowC w b p ei.size (l.length + m.length) (fun i f => (w.cell? ⟨b, p + (i * ei.size + f), none⟩).getD undef) := by
        intro i f hi hf
        have : i * ei.size + f < c * ei.size := Nat.lt_of_lt_of_le (idx_lt hi hf) (Nat.mul_le_mul_right _ hroom)
        obtain ⟨y, hy⟩ := (hcap _ this).1
        have h9 : (fun i f => (w.cell? ⟨b, p + (i * ei.size + f), none⟩).getD undef) i f = y := by show (w.cell? _).getD undef = y; rw [hy]; rfl
        rw [hy, h9]
      have hset := setCells_els (q := l.length) (k := m.length) (new := vals) hrc (Nat.le_refl _)
      have hfr : ∀ {F : Nat → Prop} {u : Value} {d : D}, MvD own w E F u d → (∀ x, F x → x ≠ b) → MvD own (w.setCells b (p + l.length * ei.size) (flatV ei.size m.length vals)) E F u d := fun hm hF =>
        hm.world (fun x hx => hblk x (hF x hx)) (fun x hx => hblk x (by rintro rfl; exact (hK x hx).2 hFbb))
      obtain ⟨F, hF1, hF2⟩ := app_rows (w' := w.setCells b (p + l.length * ei.size) (flatV ei.size m.length vals)) (own := own) (E := E) (b := b) (p := p) (c := c) (l := l) (m := m) (vals0 := vals0) (vals := vals) (G0 := G0) (G := G) hz hroom (by omega)
        (fun j hj => ⟨hsh.cell b _ hb (hcap j hj).1, by rw [hsh.fr b _ hb]; exact (hcap j hj).2⟩) hbl
        (fun i f hi hf => by
          have := hset i f (by omega) hf
          simp only [if_neg (show ¬ (l.length ≤ i ∧ i < l.length + m.length) by omega), hv0 i f hi hf] at this
          exact this)
        (fun i f hi hf => by
          have := hset (l.length + i) f (by omega) hf
          simp only [if_pos (show l.length ≤ l.length + i ∧ l.length + i < l.length + m.length by omega), show l.length + i - l.length = i by omega] at this
          exact this)
        (fun i f hi hf => hfr (g0 i f hi hf) (by rintro y hy rfl; exact b0 i f hi hf hy)) (fun i f hi hf => hfr (hm i f hi hf) (by rintro y hy rfl; exact (hGb i f hi hf y hy).1 hFbb)) d0 hd
        (fun i f j g hi hf hj hg y hy hy' => (hGb j g hj hg y hy').1 ((hF y).2 (.inr ⟨i, f, hi, hf, hy⟩))) b0 (fun i f hi hf hy => (hGb i f hi hf b hy).1 hFbb)
      refine ⟨_, _, F, hr, hsh, fun y hy hny => hblk y (by rintro rfl; exact hny hFbb), hF1, fun y hy => ?_⟩
      rcases hF2 y hy with rfl | hg | hg
      · exact .inl hFbb
      · exact .inl ((hF y).2 (.inr hg))
      · exact .inr (.inl hg)
    · refine grow (some ⟨b, p, none⟩) c vals0 G0 rfl (by omega) hz ?_ g0 d0 (fun i f hi hf y hy => (hF y).2 (.inr ⟨i, f, hi, hf, hy⟩))
      have hsl : SlC w (.slice (some ⟨b, p, none⟩) l.length c) ei.size l.length vals0 := ⟨_, c, rfl, hc, by omega, (fun h => by cases h), fun ad h => by cases h; exact .inr ⟨b, p, rfl, hv0⟩⟩
      exact (hsl.src (P := P) (tx := tx) (.inl ⟨e, hut⟩) (fun i f hi hf => by
        have := g0 i f hi hf
        cases own with
        | true => exact Own.one this
        | false => exact this.1.one)).cellsD

theorem op_append {c : Call} (hT : TOk P T) (r : Rel C E s h a w) (hd : ∀ d, o.dst = some d → d < C.nt) (ho : o.op = .call c) (hc : c.callee = .builtin .append)
    (hk : wrApp T o.dst s h K c.args.toList c.argTypes.toList) : o.wp P a w (Post C K) Q := by
  generalize ha : c.args.toList = as at hk
  generalize ht : c.argTypes.toList = ts at hk
  obtain ⟨x, y, tx, tyy, rfl, rfl⟩ : ∃ x y tx tyy, as = [x, y] ∧ ts = [tx, tyy] := by
    rcases as with _ | ⟨x, _ | ⟨y, _ | ⟨_, _⟩⟩⟩ <;> rcases ts with _ | ⟨t, _ | ⟨u, _ | ⟨_, _⟩⟩⟩ <;> first | exact hk.elim | exact ⟨_, _, _, _, rfl, rfl⟩
  simp only [wrApp] at hk
  obtain ⟨ti, hti, hk'⟩ := ty_ok hT hk
  clear hk; have hk := hk'; clear hk'
  have hut := hti.und
  split at hk
  · rename_i e ed
    rw [ed] at hut
    obtain ⟨ei, hei, hk'⟩ := ty_ok hT hk
    clear hk; have hk := hk'; clear hk'
    obtain ⟨yi, hyi, hk'⟩ := ty_ok hT hk
    clear hk; have hk := hk'; clear hk'
    split at hk
    · exact hk.elim
    · exact hk.elim
    · rename_i e1
      have hxd : val s x ≠ .dead := by intro e; rw [e] at hk; exact hk.elim
      obtain ⟨own, α, enc, l, h1, E1, Fb, hk1, mv1, hbase⟩ := baseK_sound r.hs (r.vr hxd) hk
      have hyd : val s y ≠ .dead := by intro e; rw [e] at hk1; exact hk1.elim
      obtain ⟨ds, h2, E2, vals, G, hk2, mv2, hsrc, hmv, hdis⟩ := srcK_sound (tx := tyy) mv1.hs (VR.mono (Shape.refl w) _ _ (fun u _ => mv1.tr.sub u) (r.vr hyd)) (src_kind hyi e1) hk1
      obtain ⟨m, rfl, hlim, hk2⟩ := hk2
      rw [List.length_map] at hsrc hmv hdis
      have mv2' : Mv C w E1 h1 E2 h2 (fun x => ∃ i f, i < m.length ∧ f < ei.size ∧ G i f x) := by rw [List.length_map] at mv2; exact mv2
      obtain ⟨mv, hFdis⟩ := mv1.trans mv2'
      have hbase2 : BaseR own w E2 Fb (a.eval x) ei.size enc l := by
        obtain ⟨q1, q2, q3⟩ := hbase
        refine ⟨q1, q2, q3.imp id ?_⟩
        rintro ⟨b, p, c, a1, a2, a3, a4, vals0, a5, G0, a6, a7⟩
        exact ⟨b, p, c, a1, a2, a3, a4, vals0, a5, G0, fun i f hi hf => (a6 i f hi hf).mono mv2'.tr.K, a7⟩
      have hsz : ∀ x, Fb x ∨ (∃ i f, i < m.length ∧ f < ei.size ∧ G i f x) → x < w.heap.size ∧ C.ok x ∧ Cl w x := by
        intro x hx
        obtain ⟨t, ht, hF⟩ := mv.src x hx
        exact r.Fin t ht x hF
      obtain ⟨v', w', F, hrun, hsh, hfr, hnew, hF⟩ := app_run (P := P) (ty := o.type) (G := G) hut hei hbase2 hsrc hlim (fun i f hi hf => by have := hmv i f hi hf; rwa [dat_map] at this) hdis
        (fun i f hi hf x hx => ⟨fun h => hFdis x h ⟨i, f, hi, hf, hx⟩, (hsz x (.inr ⟨i, f, hi, hf, hx⟩)).1⟩) (fun x hx => (hsz x (.inl hx)).1) (fun x hx => ⟨mv.hs.Rlt x (mv.hs.KR x hx), fun h => mv.disR x (.inl h) (mv.hs.KR x hx)⟩)
      obtain ⟨cc, hrb⟩ := run_builtin (P := P) (a := a) (w := w) ho hc
      have hrun2 : (execOp a.eval o).run P w = .ok (.value v') w' := by
        rw [hrb, arr_of_list ht, arr_of_list ha]
        simp only [builtin, List.map_toArray, List.map_cons, List.map_nil, Sem.run_bind, hrun, Result.andThen_ok]; rfl
      unfold newRow at hk2
      cases hdst : o.dst with
      | none => rw [hdst] at hk2; exact hk2.elim
      | some d =>
        rw [hdst] at hk2
        simp only [free] at hk2
        split at hk2
        · exact hk2.elim
        · rename_i e2
          split at hk2
          · exact hk2.elim
          · rename_i e3
            have hs2 : Hs C w' E2 h2 := mv.hs.frame hsh (fun x hx => by
              rcases hx with hx | ⟨u, hu, hx⟩
              · exact hfr x (mv.hs.Rlt x hx) (fun h => mv.disR x (.inl h) hx)
              · exact hfr x (mv.hs.Fin u hu x hx).1 (fun h => mv.disF u hu x hx (.inl h)))
            have hfresh : Fresh C w' E2 ((16 * d, none) :: h2) F := by
              intro x hx
              rcases hF x hx with h | h | ⟨h, h', hcl⟩
              · have := hsz x (.inl h)
                exact ⟨Nat.lt_of_lt_of_le this.1 hsh.size, okW this hsh, mv.disR x (.inl h), fun u hu hux => mv.disF u (lookO_drop hu) x hux (.inl h)⟩
              · have := hsz x (.inr h)
                exact ⟨Nat.lt_of_lt_of_le this.1 hsh.size, okW this hsh, mv.disR x (.inr h), fun u hu hux => mv.disF u (lookO_drop hu) x hux (.inr h)⟩
              · exact ⟨h', ⟨.inl (Nat.le_trans r.shape.size h), hcl⟩, fun hR => Nat.lt_irrefl _ (Nat.lt_of_lt_of_le (mv.hs.Rlt x hR) h), fun u hu hux => Nat.lt_irrefl _ (Nat.lt_of_lt_of_le (mv.hs.Fin u (lookO_drop hu) x hux).1 h)⟩
            obtain ⟨E3, hs3, hadd, hvr⟩ := base_add hs2 (noMen_of_ref (t := 16 * d) (by rw [Nat.mul_div_cancel_left d (by omega : 0 < 16)]; exact e3)) hfresh hnew
            have hchg : Chg C w w' := ⟨hsh, fun x hx hx0 => hfr x (Nat.lt_of_lt_of_le hx r.shape.size) (fun h => by
              rcases (hsz x (.inl h)).2.1 with h1 | h1
              · omega
              · exact hx0 h1)⟩
            have hput := r.putW (dst := some d) (V := .sl (16 * d) none) (v := v') hchg hs3 (fun d' hd' => hd d' (by rw [hdst]; exact hd')) (.inr hvr) (fun n u hu => ?_)
            · refine wp_val hrun2 ?_
              rw [hdst]
              exact ⟨_, _, _, hput, hk2⟩
            · refine (mv.tr.sub u).trans (hadd.sub u ?_)
              have : u / 16 ≠ d := by
                intro e
                rw [men_of_slRef (t := u) (by rw [e]; exact e2) n] at hu; cases hu
              omega
  · exact hk.elim
end
end Go.Vm
