/- A verified evaluator for Go code: regions whose order is drawn, the parts. -/
import Derived.Test.YtedffkngbjlgdaaGreatDoorVm7a
import Derived.Orders
namespace Go.Vm
open Go.RowKit
set_option linter.unusedVariables false
set_option linter.unusedSimpArgs false

theorem nbeq_self (a : Nat) : Nat.beq a a = true := by simp
theorem memN_iff {n : Nat} {l : List Nat} : memN n l = true ↔ n ∈ l := by
  induction l with
  | nil => simp [memN]
  | cons k l ih =>
    simp only [memN, List.mem_cons]
    split
    · rename_i e; have := nbeq_eq e; simp [this]
    · rename_i e
      rw [ih]
      constructor
      · exact .inr
      · rintro (rfl | h)
        · rw [nbeq_self] at e; cases e
        · exact h
theorem memN_no {n : Nat} {l : List Nat} : memN n l = false ↔ n ∉ l := by
  rw [← memN_iff]; cases memN n l <;> simp
theorem allIn_iff {l X : List Nat} : allIn l X = true ↔ ∀ k ∈ l, k ∈ X := by
  induction l with
  | nil => simp [allIn]
  | cons k l ih =>
    simp only [allIn]
    split
    · rename_i e; rw [ih]; have := memN_iff.1 e; simp [this]
    · rename_i e; have := memN_no.1 e; simp [this]
theorem anyIn_iff {l X : List Nat} : anyIn l X = true ↔ ∃ k ∈ l, k ∈ X := by
  induction l with
  | nil => simp [anyIn]
  | cons k l ih =>
    simp only [anyIn]
    split
    · rename_i e; have := memN_iff.1 e; simp [this]
    · rename_i e; have := memN_no.1 e; rw [ih]; simp [this]
theorem bindsA_eq (e : Edge) : bindsA e = Region.binds .any e := by
  unfold bindsA Region.binds; cases e.ground <;> rfl
theorem deps_iff {o : Oper} {k : Nat} : k ∈ Oper.deps o ↔ ∃ e ∈ o.after, Region.binds .any e = true ∧ e.on = k := by
  have : ∀ l : List Edge, k ∈ depsL l ↔ ∃ e ∈ l, Region.binds .any e = true ∧ e.on = k := by
    intro l
    induction l with
    | nil => simp [depsL]
    | cons e l ih =>
      simp only [depsL]
      rw [bindsA_eq]
      split
      · rename_i h
        rw [List.mem_cons, ih]
        simp only [List.mem_cons, exists_eq_or_imp, h, true_and]
        rw [@eq_comm _ k e.on]
      · rename_i h; simp [ih, h]
  rw [Oper.deps, this]; simp

theorem nextOf_some {f : Op → Bool} {X : List Nat} : ∀ {l : List Oper} {i j : Nat} {o : Oper}, nextOf f X i l = some (j, o) → ∃ m, j = i + m ∧ l[m]? = some o ∧ j ∉ X ∧ f o.op = true ∧ ∀ k ∈ Oper.deps o, k ∈ X
  | [], i, j, o, h => by simp [nextOf] at h
  | q :: r, i, j, o, h => by
    have rest : nextOf f X (i + 1) r = some (j, o) → ∃ m, j = i + m ∧ (q :: r)[m]? = some o ∧ j ∉ X ∧ f o.op = true ∧ ∀ k ∈ Oper.deps o, k ∈ X := by
      intro h
      obtain ⟨m, h1, h2, h3⟩ := nextOf_some h
      exact ⟨m + 1, by omega, by simpa using h2, h3⟩
    simp only [nextOf] at h
    split at h
    · exact rest h
    · rename_i e1
      split at h
      · exact rest h
      · rename_i e2
        split at h
        · rename_i e3
          cases h
          exact ⟨0, rfl, rfl, memN_no.1 e1, e2, allIn_iff.1 e3⟩
        · exact rest h

theorem nextOf_none {f : Op → Bool} {X : List Nat} : ∀ {l : List Oper} {i : Nat}, nextOf f X i l = none → ∀ m o, l[m]? = some o → i + m ∉ X → f o.op = true → ¬ ∀ k ∈ Oper.deps o, k ∈ X
  | [], i, _, m, o, hm, _, _ => by simp at hm
  | q :: r, i, h, m, o, hm, hx, hf => by
    have rest : nextOf f X (i + 1) r = none → (m = 0 → ¬ ∀ k ∈ Oper.deps o, k ∈ X) → ¬ ∀ k ∈ Oper.deps o, k ∈ X := by
      intro h h0
      cases m with
      | zero => exact h0 rfl
      | succ m => exact nextOf_none h m o (by simpa using hm) (by rwa [show i + 1 + m = i + (m + 1) by omega]) hf
    simp only [nextOf] at h
    split at h
    · rename_i e1
      exact rest h fun e => by subst e; exact absurd (memN_iff.1 e1) (by simpa using hx)
    · split at h
      · rename_i e2
        exact rest h fun e => by subst e; simp at hm; subst hm; rw [hf] at e2; cases e2
      · split at h
        · cases h
        · rename_i e3
          refine rest h fun e hd => ?_
          subst e; simp at hm; subst hm
          rw [allIn_iff.2 hd] at e3; cases e3

theorem allOf_mem {f : Op → Bool} {X : List Nat} : ∀ {l : List Oper} {i j : Nat} {o : Oper}, (j, o) ∈ allOf f X i l ↔ ∃ m, j = i + m ∧ l[m]? = some o ∧ j ∉ X ∧ f o.op = true ∧ ∀ k ∈ Oper.deps o, k ∈ X
  | [], i, j, o => by simp [allOf]
  | q :: r, i, j, o => by
    have ih := allOf_mem (f := f) (X := X) (l := r) (i := i + 1) (j := j) (o := o)
    have key : (∃ m, j = i + m ∧ (q :: r)[m]? = some o ∧ j ∉ X ∧ f o.op = true ∧ ∀ k ∈ Oper.deps o, k ∈ X) ↔
        (j = i ∧ q = o ∧ j ∉ X ∧ f o.op = true ∧ ∀ k ∈ Oper.deps o, k ∈ X) ∨ ∃ m, j = i + 1 + m ∧ r[m]? = some o ∧ j ∉ X ∧ f o.op = true ∧ ∀ k ∈ Oper.deps o, k ∈ X := by
      constructor
      · rintro ⟨m, h1, h2, h3⟩
        cases m with
        | zero => exact .inl ⟨by simpa using h1, by simpa using h2, h3⟩
        | succ m => exact .inr ⟨m, by omega, by simpa using h2, h3⟩
      · rintro (⟨h1, h2, h3⟩ | ⟨m, h1, h2, h3⟩)
        · exact ⟨0, by simpa using h1, by simpa using h2, h3⟩
        · exact ⟨m + 1, by omega, by simpa using h2, h3⟩
    rw [key, ← ih]
    simp only [allOf]
    split
    · rename_i e1
      have := memN_iff.1 e1
      constructor
      · exact .inr
      · rintro (⟨rfl, _, h, _⟩ | h)
        · exact absurd this h
        · exact h
    · rename_i e1
      have := memN_no.1 e1
      split
      · rename_i e2
        constructor
        · exact .inr
        · rintro (⟨rfl, rfl, _, h, _⟩ | h)
          · rw [h] at e2; cases e2
          · exact h
      · rename_i e2
        split
        · rename_i e3
          rw [List.mem_cons]
          constructor
          · rintro (h | h)
            · cases h; exact .inl ⟨rfl, rfl, this, e2, allIn_iff.1 e3⟩
            · exact .inr h
          · rintro (⟨rfl, rfl, _⟩ | h)
            · exact .inl rfl
            · exact .inr h
        · rename_i e3
          constructor
          · exact .inr
          · rintro (⟨rfl, rfl, _, _, h⟩ | h)
            · rw [allIn_iff.2 h] at e3; cases e3
            · exact h

theorem forK_mem {f : Nat → Oper → Prop} : ∀ {l : List (Nat × Oper)}, forK l f → ∀ j o, (j, o) ∈ l → f j o
  | [], _, j, o, h => by simp at h
  | [p], hk, j, o, h => by simp at h; subst h; exact hk
  | p :: q :: l, hk, j, o, h => by
    rcases List.mem_cons.1 h with h | h
    · subst h; exact hk.1
    · exact forK_mem hk.2 j o h

theorem covers_mem {X : List Nat} : ∀ {l : List Oper} {i : Nat}, covers X i l = true → ∀ m, m < l.length → i + m ∈ X
  | [], i, _, m, hm => by simp at hm
  | q :: r, i, h, m, hm => by
    simp only [covers] at h
    split at h
    · rename_i e
      cases m with
      | zero => simpa using memN_iff.1 e
      | succ m => have := covers_mem h m (by simpa using hm); rwa [show i + 1 + m = i + (m + 1) by omega] at this
    · cases h

theorem alOut_mem {X : List Nat} : ∀ {l : List Oper} {i j : Nat}, j ∈ alOut X i l ↔ ∃ m o, j = i + m ∧ l[m]? = some o ∧ j ∉ X ∧ isAl o.op = true
  | [], i, j => by simp [alOut]
  | q :: r, i, j => by
    have ih := alOut_mem (X := X) (l := r) (i := i + 1) (j := j)
    have key : (∃ m o, j = i + m ∧ (q :: r)[m]? = some o ∧ j ∉ X ∧ isAl o.op = true) ↔ (j = i ∧ j ∉ X ∧ isAl q.op = true) ∨ ∃ m o, j = i + 1 + m ∧ r[m]? = some o ∧ j ∉ X ∧ isAl o.op = true := by
      constructor
      · rintro ⟨m, o, h1, h2, h3⟩
        cases m with
        | zero => simp at h2; subst h2; exact .inl ⟨by simpa using h1, h3⟩
        | succ m => exact .inr ⟨m, o, by omega, by simpa using h2, h3⟩
      · rintro (⟨h1, h3⟩ | ⟨m, o, h1, h2, h3⟩)
        · exact ⟨0, q, by simpa using h1, rfl, h3⟩
        · exact ⟨m + 1, o, by omega, by simpa using h2, h3⟩
    rw [key, ← ih]
    simp only [alOut]
    split
    · rename_i e; simp [e]
    · rename_i e
      split
      · rename_i e1
        have := memN_iff.1 e1
        constructor
        · exact .inr
        · rintro (⟨rfl, h, _⟩ | h)
          · exact absurd this h
          · exact h
      · rename_i e1
        have := memN_no.1 e1
        rw [List.mem_cons]
        constructor
        · rintro (rfl | h)
          · exact .inl ⟨rfl, this, e⟩
          · exact .inr h
        · rintro (⟨rfl, _⟩ | h)
          · exact .inl rfl
          · exact .inr h

theorem anyOut_ok {X A : List Nat} : ∀ {l : List Nat}, anyOut X A l = true → ∃ k ∈ l, k ∉ X ∧ k ∉ A
  | [], h => by simp [anyOut] at h
  | k :: l, h => by
    simp only [anyOut] at h
    split at h
    · obtain ⟨q, h1, h2⟩ := anyOut_ok h; exact ⟨q, List.mem_cons_of_mem _ h1, h2⟩
    · rename_i e1
      split at h
      · obtain ⟨q, h1, h2⟩ := anyOut_ok h; exact ⟨q, List.mem_cons_of_mem _ h1, h2⟩
      · rename_i e2; exact ⟨k, List.mem_cons_self .., memN_no.1 e1, memN_no.1 e2⟩

theorem dynOk_ok {X A : List Nat} : ∀ {l : List Oper} {i : Nat}, dynOk X A i l = true → ∀ m o, l[m]? = some o → i + m ∉ X → i + m ∉ A → (∃ k ∈ Oper.deps o, k ∈ A) → ∃ k ∈ Oper.deps o, k ∉ X ∧ k ∉ A
  | [], i, _, m, o, hm, _, _, _ => by simp at hm
  | q :: r, i, h, m, o, hm, hx, ha, hk => by
    have rest : dynOk X A (i + 1) r = true → (m = 0 → ∃ k ∈ Oper.deps o, k ∉ X ∧ k ∉ A) → ∃ k ∈ Oper.deps o, k ∉ X ∧ k ∉ A := by
      intro h h0
      cases m with
      | zero => exact h0 rfl
      | succ m => exact dynOk_ok h m o (by simpa using hm) (by rwa [show i + 1 + m = i + (m + 1) by omega]) (by rwa [show i + 1 + m = i + (m + 1) by omega]) hk
    simp only [dynOk] at h
    split at h
    · rename_i e; exact rest h fun e0 => by subst e0; exact absurd (memN_iff.1 e) (by simpa using hx)
    · split at h
      · rename_i e; exact rest h fun e0 => by subst e0; exact absurd (memN_iff.1 e) (by simpa using ha)
      · split at h
        · rename_i e
          refine rest h fun e0 => ?_
          subst e0; simp at hm; subst hm
          rw [anyIn_iff.2 hk] at e; cases e
        · split at h
          · rename_i e
            refine rest h fun e0 => ?_
            subst e0; simp at hm; subst hm
            exact anyOut_ok e
          · cases h

theorem rcs_all {T : Tab} {S : Cons} {ops : List Oper} {s : Sl} {h : Hp} {K : Prop} : ∀ {L : List Nat}, rcs T S ops s h L K → (∀ p ∈ L, rc T S ops s h p) ∧ K
  | [], hk => ⟨fun p hp => by simp at hp, hk⟩
  | q :: L, hk => by
    obtain ⟨h1, h2⟩ := rcs_all hk.2
    exact ⟨fun p hp => by rcases List.mem_cons.1 hp with rfl | hp; exact hk.1; exact h1 p hp, h2⟩

theorem tmpsOf_mem {t : Nat} : ∀ {l : List Operand}, Operand.tmp t ∈ l → t ∈ tmpsOf l
  | [], h => by simp at h
  | x :: l, h => by
    rcases List.mem_cons.1 h with h | h
    · subst h; simp [tmpsOf]
    · have := tmpsOf_mem h
      cases x <;> simp [tmpsOf, this]

/-- The slots that an operation looks at. -/
theorem looks_op {ops : List Oper} {o : Oper} {t : Nat} (h : Operand.tmp t ∈ o.op.operands) : t ∈ looksL ops o := by
  have h1 := tmpsOf_mem (l := o.op.operands.toList) (by simpa using h)
  unfold looksL
  split
  · rw [appV_eq]; exact List.mem_append_right _ h1
  · exact h1
theorem looks_guard {ops : Array Oper} {o : Oper} {j t : Nat} {b : Bool} (h : o.guard = some (j, b)) (h2 : (ops[j]?).bind (·.dst) = some t) : t ∈ looksL ops.toList o := by
  unfold looksL
  rw [h]
  simp only
  rw [appV_eq]
  refine List.mem_append_left _ ?_
  unfold dstAt
  rw [nth_eq]
  cases e : ops[j]? with
  | none => rw [e] at h2; cases h2
  | some q =>
    rw [e] at h2
    have : ops.toList[j]? = some q := by simpa using e
    rw [this]
    simp only
    have h3 : q.dst = some t := by simpa using h2
    rw [h3]; simp

/-- Two states of the slots that agree but on D. -/
structure Agree (D : Nat → Prop) (a b : Act) : Prop where
  size : a.tmps.size = b.tmps.size
  defers : a.defers = b.defers
  at_ : ∀ n, ¬ D n → a.tmps[n]? = b.tmps[n]?

section
variable {P : Program} {T : Tab} {S : Cons} {C : Ctx} {ops : Array Oper} {a b : Act} {D : Nat → Prop} {o : Oper} {w : World}

theorem Agree.eval (h : Agree D a b) {x : Operand} (hx : ∀ t, x = .tmp t → ¬ D t) : a.eval x = b.eval x := by
  cases x with
  | tmp t =>
    have := h.at_ t (hx t rfl)
    simp only [Act.eval, Array.getD_eq_getD_getElem?, this]
  | _ => rfl
theorem Agree.run (h : Agree D a b) (hs : ∀ cs d, o.op ≠ .select cs d) (hl : ∀ t ∈ looksL ops.toList o, ¬ D t) : execOp a.eval o = execOp b.eval o :=
  execOp_congr o hs fun x hx => h.eval fun t ht => hl t (looks_op (by rw [← ht]; exact hx))
theorem Agree.wanted (h : Agree D a b) (hl : ∀ t ∈ looksL ops.toList o, ¬ D t) : Region.wanted o (yielded ops a.tmps) = Region.wanted o (yielded ops b.tmps) := by
  unfold Region.wanted
  cases hg : o.guard with
  | none => rfl
  | some gw =>
    obtain ⟨g, want⟩ := gw
    have hy : yielded ops a.tmps g = yielded ops b.tmps g := by
      unfold yielded
      cases ht : (ops[g]?).bind (·.dst) with
      | none => rfl
      | some t => simp only [Option.bind_some, h.at_ t (hl t (looks_guard hg ht))]
    simp only [hy]
theorem Agree.put (h : Agree D a b) (dst : Option Nat) (v : Value) : Agree D (a.put dst v) (b.put dst v) := by
  cases dst with
  | none => exact h
  | some d =>
    refine ⟨by simp [Act.put, h.size], h.defers, fun n hn => ?_⟩
    simp only [Act.put, Array.getElem?_setIfInBounds, h.size]
    split
    · rfl
    · exact h.at_ n hn

def QF : Exit → Act → World → Prop := fun _ _ _ => False

/-- What is known behind an operation at b is known behind it at a. -/
theorem wp_to {K : Act → World → Prop} {Q : Exit → Act → World → Prop} (he : execOp a.eval o = execOp b.eval o) (hK : ∀ a w, K a w → a.defers = []) (h : o.wp P b w K QF) :
    o.wp P a w (fun a' w' => ∃ u, a' = a.put o.dst u ∧ K (b.put o.dst u) w') Q := by
  unfold Oper.wp at *
  rw [he]
  generalize (execOp b.eval o).run P w = r at *
  cases r with
  | ok n w' =>
    cases n <;> simp only [Oper.upon] at h ⊢
    case value u => exact ⟨u, rfl, h⟩
    case skip => exact ⟨_, rfl, h⟩
    case defer d =>
      have := hK _ _ h
      cases hd : o.dst <;> rw [hd] at this <;> simp [Act.put] at this
    case enter f args =>
      refine Calls.mono h fun e w'' he => ?_
      cases e with
      | returned u => exact ⟨u, rfl, he⟩
      | panicked c => exact he.elim
      | outgrown => obtain ⟨_, _, h1⟩ := he; exact h1.elim
    case row row args => exact Rows.mono h fun u w'' he => ⟨u, rfl, he⟩
  | halt x w' =>
    cases x <;> simp only [Oper.upon] at h ⊢
    case panic u => exact h.elim

end
end Go.Vm
