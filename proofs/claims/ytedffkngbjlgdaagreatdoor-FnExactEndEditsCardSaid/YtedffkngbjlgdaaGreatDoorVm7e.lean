/- A verified evaluator for Go code: regions whose order is drawn. -/
import Derived.Test.YtedffkngbjlgdaaGreatDoorVm7d
namespace Go.Vm
open Go.RowKit
set_option linter.unusedVariables false
set_option linter.unusedSimpArgs false

/-! What drawOk says -/
theorem slotsQ_ok {T : Tab} {q : Nat} {dq L : List Nat} : ∀ {l : List Oper} {i : Nat}, slotsQ T q dq L i l = true → ∀ m o d, l[m]? = some o → o.dst = some d → d ∈ L → i + m ∈ dq ∨ (isHv T o.op = true ∧ q ∈ Oper.deps o)
  | [], i, _, m, o, d, hm, _, _ => by simp at hm
  | p :: r, i, h, m, o, d, hm, hd, hL => by
    have rest : slotsQ T q dq L (i + 1) r = true → (m = 0 → i ∈ dq ∨ (isHv T p.op = true ∧ q ∈ Oper.deps p)) → i + m ∈ dq ∨ (isHv T o.op = true ∧ q ∈ Oper.deps o) := by
      intro h h0
      cases m with
      | zero => simp at hm; subst hm; simpa using h0 rfl
      | succ m => have := slotsQ_ok h m o d (by simpa using hm) hd hL; rwa [show i + 1 + m = i + (m + 1) by omega] at this
    simp only [slotsQ] at h
    split at h
    · rename_i e
      refine rest h fun e0 => ?_
      subst e0; simp at hm; subst hm; rw [hd] at e; cases e
    · rename_i d' e
      split at h
      · rename_i e1
        refine rest h fun e0 => ?_
        subst e0; simp at hm; subst hm
        rw [hd] at e; cases e
        exact absurd hL (memN_no.1 e1)
      · split at h
        · rename_i e2; exact rest h fun _ => .inl (memN_iff.1 e2)
        · split at h
          · cases h
          · rename_i e3
            split at h
            · rename_i e4; exact rest h fun _ => .inr ⟨e3, memN_iff.1 e4⟩
            · cases h

theorem slotsAll_ok {T : Tab} {ops : List Oper} : ∀ {l : List Oper} {i : Nat}, slotsAll T ops i l = true → ∀ m o, l[m]? = some o → slotsQ T (i + m) (Oper.deps o) (looksL ops o) 0 ops = true
  | [], i, _, m, o, hm => by simp at hm
  | p :: r, i, h, m, o, hm => by
    simp only [slotsAll] at h
    split at h
    · rename_i e
      cases m with
      | zero => simp at hm; subst hm; exact e
      | succ m => have := slotsAll_ok h m o (by simpa using hm); rwa [show i + 1 + m = i + (m + 1) by omega] at this
    · cases h

theorem dsts_mem {d : Nat} : ∀ {l : List Oper} {m : Nat} {o : Oper}, l[m]? = some o → o.dst = some d → d ∈ dsts l
  | [], m, o, hm, _ => by simp at hm
  | p :: r, m, o, hm, hd => by
    cases m with
    | zero => simp at hm; subst hm; simp [dsts, hd]
    | succ m =>
      have := dsts_mem (l := r) (by simpa using hm) hd
      simp only [dsts]; split
      · exact List.mem_cons_of_mem _ this
      · exact this

theorem distinct_ok : ∀ {l : List Oper}, distinct (dsts l) = true → ∀ (m n : Nat) (o o' : Oper) (d : Nat), l[m]? = some o → l[n]? = some o' → m ≠ n → o.dst = some d → o'.dst ≠ some d
  | [], _, m, n, o, o', d, hm, _, _, _ => by simp at hm
  | p :: r, h, m, n, o, o', d, hm, hn, hne, hd => by
    intro hd'
    have hr : distinct (dsts r) = true ∧ ∀ d, p.dst = some d → d ∉ dsts r := by
      simp only [dsts] at h
      split at h
      · rename_i d1 e
        simp only [distinct] at h
        split at h
        · cases h
        · rename_i e1; exact ⟨h, fun d2 h2 => by rw [e] at h2; cases h2; exact memN_no.1 e1⟩
      · rename_i e; exact ⟨h, fun d2 h2 => by rw [e] at h2; cases h2⟩
    cases m with
    | zero =>
      cases n with
      | zero => exact hne rfl
      | succ n =>
        simp at hm hn; subst hm
        exact hr.2 d hd (dsts_mem hn hd')
    | succ m =>
      cases n with
      | zero =>
        simp at hm hn; subst hn
        exact hr.2 d hd' (dsts_mem hm hd)
      | succ n => exact distinct_ok hr.1 m n o o' d (by simpa using hm) (by simpa using hn) (by omega) hd hd'

theorem kindsOk_ok {T : Tab} : ∀ {l : List Oper}, kindsOk T l = true → ∀ o ∈ l, (∀ cs b, o.op ≠ .select cs b) ∧ (isHv T o.op = false → ∃ d, o.dst = some d) ∧ (isAl o.op = true → alHas T o.op = true ∧ o.guard = none)
  | [], _, o, ho => by simp at ho
  | p :: r, h, o, ho => by
    have rest : kindsOk T r = true → ((∀ cs b, p.op ≠ .select cs b) ∧ (isHv T p.op = false → ∃ d, p.dst = some d) ∧ (isAl p.op = true → alHas T p.op = true ∧ p.guard = none)) → ((∀ cs b, o.op ≠ .select cs b) ∧ (isHv T o.op = false → ∃ d, o.dst = some d) ∧ (isAl o.op = true → alHas T o.op = true ∧ o.guard = none)) := fun h1 h2 => by
      rcases List.mem_cons.1 ho with rfl | ho
      · exact h2
      · exact kindsOk_ok h1 o ho
    have hal : ∀ op : Op, isAl op = true → isHv T op = false := by
      intro op h; cases op <;> first | rfl | cases h
    have hnsel : isHv T p.op = false → ∀ cs b, p.op ≠ .select cs b := by
      intro h1 cs b h2; rw [h2] at h1; cases h1
    simp only [kindsOk] at h
    split at h
    · rename_i e
      split at h
      · cases h
      · rename_i hs
        exact rest h ⟨fun cs b => hs cs b, (fun h1 => by rw [e] at h1; cases h1), (fun h1 => by rw [hal _ h1] at e; cases e)⟩
    · rename_i e
      split at h
      · cases h
      · rename_i d hd
        split at h
        · rename_i e1; exact rest h ⟨hnsel e, fun _ => ⟨d, hd⟩, fun h1 => by rw [e1] at h1; cases h1⟩
        · split at h
          · cases h
          · rename_i e2
            split at h
            · rename_i e3; exact rest h ⟨hnsel e, fun _ => ⟨d, hd⟩, fun _ => ⟨e2, e3⟩⟩
            · cases h

def FitOps0 (C : Ctx) (ops : List Oper) : Prop := ∀ o ∈ ops, ∀ d, o.dst = some d → d < C.nt
/-- What is known of a region's text. -/
structure Text (T : Tab) (C : Ctx) (ops : Array Oper) : Prop where
  slot : ∀ (q : Nat) (o : Oper) (p : Nat) (o' : Oper) (d : Nat), ops[q]? = some o → ops[p]? = some o' → o'.dst = some d → d ∈ looksL ops.toList o → p ∈ Oper.deps o ∨ (isHv T o'.op = true ∧ q ∈ Oper.deps o')
  dist : ∀ (m n : Nat) (o o' : Oper) (d : Nat), ops[m]? = some o → ops[n]? = some o' → m ≠ n → o.dst = some d → o'.dst ≠ some d
  kind : ∀ (m : Nat) (o : Oper), ops[m]? = some o → (∀ cs b, o.op ≠ .select cs b) ∧ (isHv T o.op = false → ∃ d, o.dst = some d) ∧ (isAl o.op = true → alHas T o.op = true ∧ o.guard = none)
  fit : ∀ (m : Nat) (o : Oper) (d : Nat), ops[m]? = some o → o.dst = some d → d < C.nt

theorem text_ok {T : Tab} {C : Ctx} {ops : Array Oper} {K : Prop} (hf : FitOps0 C ops.toList) (h : drawOk T ops.toList K) : Text T C ops ∧ K := by
  unfold drawOk at h
  split at h
  · exact h.elim
  · rename_i e1
    split at h
    · exact h.elim
    · rename_i e2
      split at h
      · exact h.elim
      · rename_i e3
        have tl : ∀ {m : Nat} {o : Oper}, ops[m]? = some o → ops.toList[m]? = some o := fun h => by simpa using h
        refine ⟨⟨fun q o p o' d hq hp hd hl => ?_, fun m n o o' d hm hn => distinct_ok e2 m n o o' d (tl hm) (tl hn), fun m o hm => kindsOk_ok e3 o (List.mem_of_getElem? (tl hm)), fun m o d hm hd => hf o (List.mem_of_getElem? (tl hm)) d hd⟩, h⟩
        have h1 := slotsAll_ok e1 q o (tl hq)
        rw [Nat.zero_add] at h1
        have h2 := slotsQ_ok h1 p o' d (tl hp) hd hl
        rwa [Nat.zero_add] at h2

/-- X is an order in which each comes behind what it waits for. -/
def Built (ops : Array Oper) : List Nat → Prop
  | [] => True
  | i :: X => (i ∉ X ∧ ∃ o, ops[i]? = some o ∧ ∀ k ∈ Oper.deps o, k ∈ X) ∧ Built ops X
theorem Built.mem {ops : Array Oper} : ∀ {X : List Nat}, Built ops X → ∀ i ∈ X, ∃ o, ops[i]? = some o ∧ ∀ k ∈ Oper.deps o, k ∈ X ∧ k ≠ i
  | [], _, i, hi => by simp at hi
  | j :: X, h, i, hi => by
    rcases List.mem_cons.1 hi with rfl | hi
    · obtain ⟨o, h1, h2⟩ := h.1.2
      exact ⟨o, h1, fun k hk => ⟨List.mem_cons_of_mem _ (h2 k hk), fun e => h.1.1 (e ▸ h2 k hk)⟩⟩
    · obtain ⟨o, h1, h2⟩ := h.2.mem i hi
      exact ⟨o, h1, fun k hk => ⟨List.mem_cons_of_mem _ (h2 k hk).1, (h2 k hk).2⟩⟩
/-- Newer ones are not waited for by older ones. -/
def Older (ops : Array Oper) (p q : Nat) : Prop := p ≠ q ∧ ∀ o, ops[q]? = some o → p ∉ Oper.deps o
theorem Built.older {ops : Array Oper} : ∀ {X : List Nat}, Built ops X → X.Pairwise (Older ops)
  | [], _ => List.Pairwise.nil
  | i :: X, h => List.Pairwise.cons (fun q hq => ⟨fun e => h.1.1 (e ▸ hq), fun o ho hd => by
      obtain ⟨o', h1, h2⟩ := h.2.mem q hq
      rw [h1] at ho; cases ho
      exact h.1.1 (h2 i hd).1⟩) h.2.older

theorem pendL_sub {T : Tab} {ops : List Oper} {Xr : List Nat} : ∀ {L : List Nat}, (pendL T ops Xr L).Sublist L
  | [] => List.Sublist.refl _
  | p :: L => by
    simp only [pendL]
    split
    · split
      · split
        · exact pendL_sub.cons _
        · exact pendL_sub.cons_cons _
      · exact pendL_sub.cons _
    · exact pendL_sub.cons _

theorem revN_eq : ∀ (l r : List Nat), revN l r = l.reverse ++ r
  | [], r => rfl
  | x :: l, r => by simp [revN, revN_eq l]

theorem closeM_mem {ops : List Oper} : ∀ {L M : List Nat} {q : Nat}, q ∈ closeM ops L M → q ∈ M ∨ q ∈ L
  | [], M, q, h => .inl h
  | x :: L, M, q, h => by
    have rest : ∀ M', q ∈ closeM ops L M' → (q ∈ M' → q ∈ M ∨ q = x) → q ∈ M ∨ q ∈ x :: L := by
      intro M' h h'
      rcases closeM_mem h with h | h
      · rcases h' h with h | h
        · exact .inl h
        · exact .inr (h ▸ List.mem_cons_self ..)
      · exact .inr (List.mem_cons_of_mem _ h)
    simp only [closeM] at h
    split at h
    · split at h
      · exact rest _ h fun h => by rcases List.mem_cons.1 h with h | h; exact .inr h; exact .inl h
      · exact rest _ h .inl
    · exact rest _ h .inl

section
variable {P : Program} {T : Tab} {S : Cons} {C : Ctx} {ops : Array Oper}

def On (listed : Array Bool) (i : Nat) : Prop := listed.getD i false = true

theorem closeM_off {listed : Array Bool} (clo : ∀ i o, ops[i]? = some o → On listed i → ∀ k ∈ Oper.deps o, On listed k) : ∀ {L M : List Nat}, (∀ q ∈ M, ¬ On listed q) → ∀ q ∈ closeM ops.toList L M, ¬ On listed q
  | [], M, hM, q, h => hM q h
  | x :: L, M, hM, q, h => by
    simp only [closeM] at h
    split at h
    · rename_i o eo
      rw [nth_eq] at eo
      have eo' : ops[x]? = some o := by simpa using eo
      split at h
      · rename_i e
        refine closeM_off clo (fun y hy => ?_) q h
        rcases List.mem_cons.1 hy with rfl | hy
        · intro hon
          obtain ⟨k, h1, h2⟩ := anyIn_iff.1 e
          exact hM k h2 (clo _ o eo' hon k h1)
        · exact hM y hy
      · exact closeM_off clo hM q h
    · exact closeM_off clo hM q h

theorem anyNonDet_ok {l : List Nat} (h : anyNonDet T ops.toList l = true) : ∃ q ∈ l, ∀ o, ops[q]? = some o → isDet T o.op = false := by
  induction l with
  | nil => simp [anyNonDet] at h
  | cons q l ih =>
    simp only [anyNonDet] at h
    split at h
    · rename_i o eo
      rw [nth_eq] at eo
      have eo' : ops[q]? = some o := by simpa using eo
      split at h
      · obtain ⟨x, h1, h2⟩ := ih h; exact ⟨x, List.mem_cons_of_mem _ h1, h2⟩
      · rename_i e; exact ⟨q, List.mem_cons_self .., fun o' ho' => by rw [eo'] at ho'; cases ho'; exact e⟩
    · rename_i eo
      rw [nth_eq] at eo
      have eo' : ops[q]? = none := by simpa using eo
      exact ⟨q, List.mem_cons_self .., fun o' ho' => by rw [eo'] at ho'; cases ho'⟩

/-- What is pending is told. -/
theorem pend_mem {listed : Array Bool} {X Y : List Nat} (clo : ∀ i o, ops[i]? = some o → On listed i → ∀ k ∈ Oper.deps o, On listed k) (hX : ∀ i ∈ X, ∃ o, ops[i]? = some o) (xl : ∀ i ∈ X, ∀ o, ops[i]? = some o → isDet T o.op = false → On listed i) :
    ∀ {L : List Nat}, (∀ p ∈ L, p ∈ X) → ∀ p ∈ L, ¬ On listed p → p ∈ pendL T ops.toList (revN X []) L
  | [], _, p, hp, _ => by simp at hp
  | q :: L, hL, p, hp, hoff => by
    have rest : p ∈ L → p ∈ pendL T ops.toList (revN X []) L := fun h => pend_mem (Y := Y) clo hX xl (fun x hx => hL x (List.mem_cons_of_mem _ hx)) p h hoff
    obtain ⟨o, ho⟩ := hX q (hL q (List.mem_cons_self ..))
    have ho' : ops.toList[q]? = some o := by simpa using ho
    simp only [pendL, nth_eq, ho']
    split
    · rename_i e
      split
      · rename_i e2
        rcases List.mem_cons.1 hp with rfl | hp
        · exfalso
          obtain ⟨x, h1, h2⟩ := anyNonDet_ok e2
          have hxoff := closeM_off (M := [p]) clo (fun y hy => by simp at hy; subst hy; exact hoff) x h1
          rcases closeM_mem h1 with h3 | h3
          · simp at h3; subst h3
            rw [h2 o ho] at e; cases e
          · rw [revN_eq, List.append_nil, List.mem_reverse] at h3
            obtain ⟨o2, ho2⟩ := hX x h3
            exact hxoff (xl x h3 o2 ho2 (h2 o2 ho2))
        · exact rest hp
      · rcases List.mem_cons.1 hp with rfl | hp
        · exact List.mem_cons_self ..
        · exact List.mem_cons_of_mem _ (rest hp)
    · rename_i e
      rcases List.mem_cons.1 hp with rfl | hp
      · exact absurd (xl p (hL p (List.mem_cons_self ..)) o ho e) hoff
      · exact rest hp

variable {E : Env} {s : Sl} {h : Hp} {a : Act} {w : World}

/-- All that is pending runs again. -/
theorem rerunAll (hT : TOk P T) (ht : Text T C ops) : ∀ {L : List Nat} {a : Act}, L.Pairwise (Older ops) → (∀ p ∈ L, ∃ o, ops[p]? = some o ∧ isDet T o.op = true ∧ p ∉ Oper.deps o) → (∀ p ∈ L, rc T S ops.toList s h p) → Rel C E s h a w →
    ∃ b, Rel C E s h b w ∧ Agree (fun d => ∃ p ∈ L, ∃ o, ops[p]? = some o ∧ o.dst = some d) b a ∧ ∀ p ∈ L, ∀ o, ops[p]? = some o → PY P ops o b w
  | [], a, _, _, _, r => ⟨a, r, ⟨rfl, rfl, fun _ _ => rfl⟩, fun p hp => by simp at hp⟩
  | p :: L, a, hp, hd, hc, r => by
    obtain ⟨hp1, hp2⟩ := List.pairwise_cons.1 hp
    obtain ⟨b, r1, g1, y1⟩ := rerunAll hT ht hp2 (fun q hq => hd q (List.mem_cons_of_mem _ hq)) (fun q hq => hc q (List.mem_cons_of_mem _ hq)) r
    obtain ⟨o, ho, hdet, hself⟩ := hd p (List.mem_cons_self ..)
    have hnh : isHv T o.op = false := by unfold isHv; rw [hdet]
    obtain ⟨d, v, e, r2, y2⟩ := rerun1 hT r1 ho (fun d hd => ht.fit p o d ho hd) (ht.kind p o ho).1 (fun d hd hl => by
      rcases ht.slot p o p o d ho ho hd hl with h1 | ⟨h1, _⟩
      · exact hself h1
      · rw [hnh] at h1; cases h1) (hc p (List.mem_cons_self ..))
    refine ⟨_, r2, ⟨by simpa [Act.put] using g1.size, g1.defers, fun n hn => ?_⟩, fun q hq oq hoq => ?_⟩
    · have hne : d ≠ n := fun e1 => hn ⟨p, List.mem_cons_self .., o, ho, by rw [e, e1]⟩
      simp only [Act.put]
      rw [Array.getElem?_setIfInBounds_ne hne]
      exact g1.at_ n fun ⟨q, hq, oq, h1, h2⟩ => hn ⟨q, List.mem_cons_of_mem _ hq, oq, h1, h2⟩
    · rcases List.mem_cons.1 hq with rfl | hq
      · rw [ho] at hoq; cases hoq; exact y2
      · refine (y1 q hq oq hoq).put (ht.kind q oq hoq).1 (fun hl => ?_) (fun h1 => ht.dist p q o oq d ho hoq (hp1 q hq).1 e h1)
        rcases ht.slot q oq p o d hoq ho e hl with h1 | ⟨h1, _⟩
        · exact (hp1 q hq).2 oq hoq h1
        · rw [hnh] at h1; cases h1
end
end Go.Vm
