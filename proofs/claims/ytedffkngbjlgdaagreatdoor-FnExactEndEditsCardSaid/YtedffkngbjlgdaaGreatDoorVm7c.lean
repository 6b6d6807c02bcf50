/- A verified evaluator for Go code: regions whose order is drawn, single steps. -/
import Derived.Test.YtedffkngbjlgdaaGreatDoorVm7b
namespace Go.Vm
open Go.RowKit
set_option linter.unusedVariables false
set_option linter.unusedSimpArgs false

section
variable {P : Program} {T : Tab} {S : Cons} {C : Ctx} {E E1 : Env} {s : Sl} {h h1 : Hp} {a : Act} {w w' : World} {K : Sl → Hp → Prop} {Q : Exit → Act → World → Prop} {o : Oper} {v : Value}

theorem Rel.looks {s' : Sl} (r : Rel C E s h a w) (e : ∀ n, look s' n = .dead ∨ look s' n = look s n) : Rel C E s' h a w :=
  ⟨r.ob, r.dis, r.disR, r.KR, r.Rlt, r.Fin, r.R0, r.K0, r.Rin, r.Kin, fun n => by
    rcases e n with h1 | h1
    · exact .inl h1
    · rw [h1]; exact r.sl n, r.nt, r.shape, r.frame, r.defers⟩

/-- The same in a context that begins here. -/
def Ctx.here (C : Ctx) (E : Env) (h : Hp) (w : World) : Ctx := ⟨w, fun x => ∃ t, (lookO h t).isSome = true ∧ E.F t x, E.R, E.Kp, C.nt, C.gh, C.ntle⟩
theorem Rel.here (r : Rel C E s h a w) : Rel (C.here E h w) E s h a w :=
  ⟨r.ob, r.dis, r.disR, r.KR, r.Rlt, fun t ht x hx => ⟨(r.Fin t ht x hx).1, .inr ⟨t, ht, hx⟩, (r.Fin t ht x hx).2.2⟩, fun _ h => h, fun _ h => h, fun _ h => .inl h, fun _ h => .inl h, r.sl, r.nt, Shape.refl w, fun _ _ _ => rfl, r.defers⟩

/-- Blocks that are nobody's stay as they are. -/
def FrOK (w : World) (E : Env) (h : Hp) (w' : World) (E' : Env) (h' : Hp) : Prop :=
  w.heap.size ≤ w'.heap.size ∧ ∀ b, b < w.heap.size → (∀ t, (lookO h t).isSome = true → ¬ E.F t b) → ¬ E.R b → w'.heap[b]? = w.heap[b]? ∧ ¬ E'.R b ∧ ∀ t, (lookO h' t).isSome = true → ¬ E'.F t b

theorem Rel.back {a' : Act} {s' : Sl} {h' : Hp} {E' : Env} (r : Rel C E s h a w) (r' : Rel (C.here E h w) E' s' h' a' w') : Rel C E' s' h' a' w' ∧ FrOK w E h w' E' h' := by
  have hok : ∀ x, (C.here E h w).ok x → C.ok x := by
    rintro x (hx | ⟨t, ht, hx⟩)
    · exact .inl (Nat.le_trans r.shape.size hx)
    · exact (r.Fin t ht x hx).2.1
  refine ⟨⟨r'.ob, r'.dis, r'.disR, r'.KR, r'.Rlt, fun t ht x hx => ⟨(r'.Fin t ht x hx).1, hok x (r'.Fin t ht x hx).2.1, (r'.Fin t ht x hx).2.2⟩, fun x hx => r'.R0 x (r.R0 x hx), fun x hx => r'.K0 x (r.K0 x hx), fun x hx => ?_, fun x hx => ?_, r'.sl, r'.nt,
    r.shape.trans r'.shape, fun b hb h0 => ?_, r'.defers⟩, r'.shape.size, fun b hb hF hR => ?_⟩
  · rcases r'.Rin x hx with h1 | h1
    · exact r.Rin x h1
    · exact .inr (hok x h1)
  · rcases r'.Kin x hx with h1 | h1
    · exact r.Kin x h1
    · exact .inr (hok x h1)
  · have h1 : b < w.heap.size := Nat.lt_of_lt_of_le hb r.shape.size
    rw [r'.frame b h1 (fun h2 => ?_)]
    · exact r.frame b hb h0
    · rcases hok b (.inr h2) with h3 | h3
      · exact Nat.lt_irrefl _ (Nat.lt_of_lt_of_le hb h3)
      · exact h0 h3
  · have hno : ¬ (C.here E h w).ok b := by
      rintro (h1 | ⟨t, ht, h1⟩)
      · exact Nat.lt_irrefl _ (Nat.lt_of_lt_of_le hb h1)
      · exact hF t ht h1
    refine ⟨r'.frame b hb (fun ⟨t, ht, h1⟩ => hF t ht h1), fun h1 => ?_, fun t ht h1 => hno (r'.Fin t ht b h1).2.1⟩
    rcases r'.Rin b h1 with h2 | h2
    · exact hR h2
    · exact hno h2

/-- An operation under its guard, with what it leaves alone. -/
def PostF (C : Ctx) (w : World) (E : Env) (h : Hp) (K : Sl → Hp → Prop) (a' : Act) (w' : World) : Prop := ∃ E' s' h', Rel C E' s' h' a' w' ∧ K s' h' ∧ FrOK w E h w' E' h'
theorem evG_framed (hT : TOk P T) (hS : SOk P S) {ops : Array Oper} (r : Rel C E s h a w) (hd : ∀ d, o.dst = some d → d < C.nt) (hk : evG T S ops.toList o s h K) :
    if Region.wanted o (yielded ops a.tmps) = true then o.wp P a w (PostF C w E h K) QF else PostF C w E h K (a.put o.dst undef) w := by
  have key : ∀ a' w', Post (C.here E h w) K a' w' → PostF C w E h K a' w' := by
    rintro a' w' ⟨E', s', h', r', hk'⟩
    obtain ⟨h1, h2⟩ := r.back r'
    exact ⟨E', s', h', h1, hk', h2⟩
  have hG := evG_sound (P := P) (Q := QF) hT hS (ops := ops) r.here hd hk
  split at hG
  · rename_i hw; rw [if_pos hw]; exact Oper.wp_mono key hG
  · rename_i hw; rw [if_neg hw]; exact key _ _ hG

/-- A value that an operation has, or would have, at its slot. -/
def PY (P : Program) (ops : Array Oper) (o : Oper) (a : Act) (w : World) : Prop :=
  ∃ d, o.dst = some d ∧ d < a.tmps.size ∧ (Region.wanted o (yielded ops a.tmps) = true ∧ (execOp a.eval o).run P w = .ok (.value (a.tmps.getD d undef)) w ∨ Region.wanted o (yielded ops a.tmps) = false ∧ a.tmps.getD d undef = undef)

theorem put_getD {d : Nat} {v : Value} (hd : d < a.tmps.size) : (a.put (some d) v).tmps.getD d undef = v := by rw [getD_put hd, if_pos rfl]
theorem put_same {d : Nat} {v : Value} (h : a.tmps.getD d undef = v) (hd : d < a.tmps.size) : a.put (some d) v = a := by
  have : (a.put (some d) v).tmps = a.tmps := by
    simp only [Act.put]
    apply Array.ext'
    rw [Array.toList_setIfInBounds]
    apply List.ext_getElem?
    intro i
    rw [List.getElem?_set]
    split
    · rename_i e
      subst e
      rw [Array.getD_eq_getD_getElem?] at h
      simp [hd] at h ⊢
      exact h.symm
    · rfl
  cases a
  simp only [Act.put] at this ⊢
  rw [this]

theorem PY.put {ops : Array Oper} {d : Nat} {u : Value} (hs : ∀ cs b, o.op ≠ .select cs b) (hy : PY P ops o a w) (h1 : d ∉ looksL ops.toList o) (h2 : o.dst ≠ some d) : PY P ops o (a.put (some d) u) w := by
  obtain ⟨d', e1, e2, e3⟩ := hy
  have hag : Agree (fun n => n = d) (a.put (some d) u) a := ⟨by simp [Act.put], rfl, fun n hn => by simp only [Act.put]; rw [Array.getElem?_setIfInBounds_ne (fun e => hn e.symm)]⟩
  have hlk : ∀ t ∈ looksL ops.toList o, ¬ t = d := fun t ht e => h1 (e ▸ ht)
  have hne : d' ≠ d := fun e => h2 (by rw [e1, e])
  refine ⟨d', e1, by simpa [Act.put] using e2, ?_⟩
  rw [hag.wanted hlk, hag.run hs hlk]
  have : (a.put (some d) u).tmps.getD d' undef = a.tmps.getD d' undef := by
    simp only [Array.getD_eq_getD_getElem?, hag.at_ d' hne]
  rw [this]
  exact e3

/-- A pending operation runs again: its slot holds what it yields. -/
theorem rerun1 (hT : TOk P T) {ops : Array Oper} {p : Nat} (r : Rel C E s h a w) (hp : ops[p]? = some o) (hd : ∀ d, o.dst = some d → d < C.nt) (hs : ∀ cs b, o.op ≠ .select cs b)
    (hlk : ∀ d, o.dst = some d → d ∉ looksL ops.toList o) (hc : rc T S ops.toList s h p) : ∃ d v, o.dst = some d ∧ Rel C E s h (a.put (some d) v) w ∧ PY P ops o (a.put (some d) v) w := by
  have hp' : ops.toList[p]? = some o := by simpa using hp
  have fin : ∀ d v, o.dst = some d → (look s d = .dead ∨ VR w E (lookO h) (look s d) v) →
      (Region.wanted o (yielded ops a.tmps) = true ∧ (execOp a.eval o).run P w = .ok (.value v) w ∨ Region.wanted o (yielded ops a.tmps) = false ∧ v = undef) → Rel C E s h (a.put (some d) v) w ∧ PY P ops o (a.put (some d) v) w := by
    intro d v e hv hrun
    have hdn := hd d e
    have hds : d < a.tmps.size := by rw [r.nt]; exact hdn
    refine ⟨⟨r.ob, r.dis, r.disR, r.KR, r.Rlt, r.Fin, r.R0, r.K0, r.Rin, r.Kin, fun n => ?_, by simpa [Act.put] using r.nt, r.shape, r.frame, r.defers⟩, d, e, by simpa [Act.put] using hds, ?_⟩
    · rw [tv_put r.nt hdn]
      split
      · rename_i e1; subst e1; exact hv
      · exact r.sl n
    · have hag : Agree (fun n => n = d) (a.put (some d) v) a := ⟨by simp [Act.put], rfl, fun n hn => by simp only [Act.put]; rw [Array.getElem?_setIfInBounds_ne (fun e => hn e.symm)]⟩
      have hlk' : ∀ t ∈ looksL ops.toList o, ¬ t = d := fun t ht e1 => hlk d e (e1 ▸ ht)
      rw [hag.wanted hlk', hag.run hs hlk', put_getD hds]
      exact hrun
  unfold rc at hc
  rw [nth_eq, hp'] at hc
  obtain ⟨dst, op, t, pos, after, g⟩ := o
  cases dst with
  | none => cases g <;> exact hc.elim
  | some d =>
    cases g with
    | none =>
      simp only at hc
      obtain ⟨V, v, h1, h2, h3⟩ := yl_det (o := ⟨some d, op, t, pos, after, none⟩) hT r hc
      exact ⟨d, v, rfl, fin d v rfl (by rw [← h3]; exact h2) (.inl ⟨by simp [Region.wanted], h1⟩)⟩
    | some jw =>
      obtain ⟨j, want⟩ := jw
      simp only at hc
      rw [nth_eq] at hc
      split at hc
      · rename_i dg q1 q2 q3 q4 q5 ej
        have ej' : ops[j]? = some ⟨some dg, q1, q2, q3, q4, q5⟩ := by simpa using ej
        split at hc
        · rename_i bb eb
          have hv : a.tmps.getD dg undef = .bool bb := (r.lf eb).1
          have hsome : a.tmps[dg]? = some (.bool bb) := by
            rw [Array.getD_eq_getD_getElem?] at hv
            cases e : a.tmps[dg]? with
            | none => rw [e] at hv; cases hv
            | some y => rw [e] at hv; simp at hv; rw [hv]
          have hy : yielded ops a.tmps j = some bb := by
            unfold yielded; rw [ej']; simp [hsome]
          have hw : Region.wanted ⟨some d, op, t, pos, after, some (j, want)⟩ (yielded ops a.tmps) = beqB bb want := by
            simp only [Region.wanted, hy]; cases bb <;> cases want <;> rfl
          split at hc
          · rename_i e
            obtain ⟨V, v, h1, h2, h3⟩ := yl_det (o := ⟨some d, op, t, pos, after, some (j, want)⟩) hT r hc
            exact ⟨d, v, rfl, fin d v rfl (by rw [← h3]; exact h2) (.inl ⟨by rw [hw, e], h1⟩)⟩
          · rename_i e
            exact ⟨d, undef, rfl, fin d undef rfl (.inr (by rw [hc]; exact ⟨[], rfl, rfl⟩)) (.inr ⟨by rw [hw, e], rfl⟩)⟩
        · rename_i eb
          have hv : a.tmps.getD dg undef = undef := by
            have h1 := r.vr (x := .tmp dg) (by rw [eb]; simp)
            rw [eb] at h1
            obtain ⟨vs, h2, h3⟩ := h1
            obtain rfl : vs = [] := h3
            exact h2
          have hy : yielded ops a.tmps j = none := by
            unfold yielded; rw [ej']
            rw [Array.getD_eq_getD_getElem?] at hv
            show (match a.tmps[dg]? with | some (.bool b) => some b | _ => none) = none
            cases e : a.tmps[dg]? with
            | none => rfl
            | some y => rw [e] at hv; simp at hv; rw [hv]; rfl
          exact ⟨d, undef, rfl, fin d undef rfl (.inr (by rw [hc]; exact ⟨[], rfl, rfl⟩)) (.inr ⟨by simp [Region.wanted, hy], rfl⟩)⟩
        · exact hc.elim
      · exact hc.elim

/-- An operation that gives a value, ahead of its time. -/
theorem det_ahead (hT : TOk P T) {ops : Array Oper} (r : Rel C E s h a w) (hd : ∀ d, o.dst = some d → d < C.nt) (hs : ∀ cs b, o.op ≠ .select cs b) (hsome : ∃ d, o.dst = some d)
    (hlk : ∀ d, o.dst = some d → d ∉ looksL ops.toList o) (hdet : isDet T o.op = true)
    (hk : gdK ops.toList o.guard s fun b s' => match b with
        | true => rdOp T S o.op o.dst (val s') (lookO h) fun v new => putN o.dst v new s' h K
        | false => putK o.dst (.tup []) s' fun s1 => K s1 h) :
    ∃ d v E' s' h', o.dst = some d ∧ Rel C E' s' h' (a.put (some d) v) w ∧ K s' h' ∧ FrOK w E h w E' h' ∧ PY P ops o (a.put (some d) v) w := by
  obtain ⟨d, e⟩ := hsome
  have hds : d < a.tmps.size := by rw [r.nt]; exact hd d e
  have hfin : ∀ v, (Region.wanted o (yielded ops a.tmps) = true ∧ (execOp a.eval o).run P w = .ok (.value v) w ∨ Region.wanted o (yielded ops a.tmps) = false ∧ v = undef) → PY P ops o (a.put (some d) v) w := by
    intro v hrun
    refine ⟨d, e, by simpa [Act.put] using hds, ?_⟩
    have hag : Agree (fun n => n = d) (a.put (some d) v) a := ⟨by simp [Act.put], rfl, fun n hn => by simp only [Act.put]; rw [Array.getElem?_setIfInBounds_ne (fun e => hn e.symm)]⟩
    have hlk' : ∀ t ∈ looksL ops.toList o, ¬ t = d := fun t ht e1 => hlk d e (e1 ▸ ht)
    rw [hag.wanted hlk', hag.run hs hlk', put_getD hds]
    exact hrun
  have run : ∀ {s0 : Sl}, Rel C E s0 h a w → (rdOp T S o.op o.dst (val s0) (lookO h) fun v new => putN o.dst v new s0 h K) → Region.wanted o (yielded ops a.tmps) = true →
      ∃ d v E' s' h', o.dst = some d ∧ Rel C E' s' h' (a.put (some d) v) w ∧ K s' h' ∧ FrOK w E h w E' h' ∧ PY P ops o (a.put (some d) v) w := by
    intro s0 r0 hk hw
    obtain ⟨v, h1, E', s', h', h2, h3⟩ := ylq_det (C := C.here E h w) hT r0.here hd hdet hk
    obtain ⟨h4, h5⟩ := r0.back h2
    rw [e] at h4
    exact ⟨d, v, E', s', h', e, h4, h3, h5, hfin v (.inl ⟨hw, h1⟩)⟩
  have skip : ∀ {s0 : Sl}, Rel C E s0 h a w → K (Vm.put o.dst (.tup []) s0) h → Region.wanted o (yielded ops a.tmps) = false →
      ∃ d v E' s' h', o.dst = some d ∧ Rel C E' s' h' (a.put (some d) v) w ∧ K s' h' ∧ FrOK w E h w E' h' ∧ PY P ops o (a.put (some d) v) w := by
    intro s0 r0 hk hw
    have h1 := r0.here.skip (dst := o.dst) hd
    obtain ⟨h4, h5⟩ := r0.back h1
    rw [e] at h4 hk
    exact ⟨d, undef, E, _, h, e, h4, hk, h5, hfin undef (.inr ⟨hw, rfl⟩)⟩
  cases hg : o.guard with
  | none =>
    rw [hg] at hk
    exact run r hk (by simp [Region.wanted, hg])
  | some jw =>
    obtain ⟨j, want⟩ := jw
    rw [hg] at hk
    simp only [gdK] at hk
    rw [nth_eq] at hk
    split at hk
    · rename_i dg q1 q2 q3 q4 q5 ej
      have ej' : ops[j]? = some ⟨some dg, q1, q2, q3, q4, q5⟩ := by simpa using ej
      split at hk
      · rename_i bb eb
        have hv : a.tmps.getD dg undef = .bool bb := (r.lf eb).1
        have hsome : a.tmps[dg]? = some (.bool bb) := by
          rw [Array.getD_eq_getD_getElem?] at hv
          cases e : a.tmps[dg]? with
          | none => rw [e] at hv; cases hv
          | some y => rw [e] at hv; simp at hv; rw [hv]
        have hy : yielded ops a.tmps j = some bb := by
          unfold yielded; rw [ej']; simp [hsome]
        have hw : Region.wanted o (yielded ops a.tmps) = beqB bb want := by
          simp only [Region.wanted, hg, hy]; cases bb <;> cases want <;> rfl
        have r' := r.again (look_val (by rw [eb]; simp) ▸ eb : look s dg = .lf (.bool bb))
        unfold brb at hk
        have hk2 : match beqB bb want with | true => (rdOp T S o.op o.dst (val ((dg, .lf (.bool bb)) :: s)) (lookO h) fun v new => putN o.dst v new ((dg, .lf (.bool bb)) :: s) h K) | false => putK o.dst (.tup []) ((dg, .lf (.bool bb)) :: s) fun s1 => K s1 h := by
          cases bb <;> exact hk
        split at hk2
        · rename_i e1; exact run r' hk2 (by rw [hw, e1])
        · rename_i e1; exact skip r' (by rwa [putK_eq] at hk2) (by rw [hw, e1])
      · rename_i eb
        have hv : a.tmps.getD dg undef = undef := by
          have h1 := r.vr (x := .tmp dg) (by rw [eb]; simp)
          rw [eb] at h1
          obtain ⟨vs, h2, h3⟩ := h1
          obtain rfl : vs = [] := h3
          exact h2
        have hy : yielded ops a.tmps j = none := by
          unfold yielded; rw [ej']
          rw [Array.getD_eq_getD_getElem?] at hv
          show (match a.tmps[dg]? with | some (.bool b) => some b | _ => none) = none
          cases e : a.tmps[dg]? with
          | none => rfl
          | some y => rw [e] at hv; simp at hv; rw [hv]; rfl
        exact skip r (by rwa [putK_eq] at hk) (by simp [Region.wanted, hg, hy])
      · exact hk.elim
    · exact hk.elim
end
end Go.Vm
