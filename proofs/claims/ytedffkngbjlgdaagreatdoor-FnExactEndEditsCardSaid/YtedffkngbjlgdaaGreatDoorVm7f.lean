/- A verified evaluator for Go code: regions whose order is drawn, the proof. -/
import Derived.Test.YtedffkngbjlgdaaGreatDoorVm7e
namespace Go.Vm
open Go.RowKit
set_option linter.unusedVariables false
set_option linter.unusedSimpArgs false

section
variable {P : Program} {T : Tab} {S : Cons} {C : Ctx} {ops : Array Oper} {K : Sl → Hp → Prop}

/-- The walk so far: X is told, listed has run; b is what the slots would hold. -/
structure DI (P : Program) (T : Tab) (S : Cons) (C : Ctx) (ops : Array Oper) (K : Sl → Hp → Prop) (listed : Array Bool) (a : Act) (w : World) (n : Nat) (X : List Nat) (s : Sl) (h : Hp) (E : Env) (b : Act) : Prop where
  rel : Rel C E s h b w
  ev : evDraw T S ops.toList n X s h K
  built : Built ops X
  clo : ∀ (i : Nat) (o : Oper), ops[i]? = some o → On listed i → ∀ k ∈ Oper.deps o, On listed k
  xl : ∀ (i : Nat), i ∈ X → ∀ (o : Oper), ops[i]? = some o → isDet T o.op = false → On listed i
  lx : ∀ (i : Nat), On listed i → i ∉ X → ∃ o, ops[i]? = some o ∧ isAl o.op = true
  ag : Agree (fun d => ∃ p ∈ X, ¬ On listed p ∧ ∃ o, ops[p]? = some o ∧ o.dst = some d) a b
  py : ∀ (p : Nat), p ∈ X → ¬ On listed p → ∀ (o : Oper), ops[p]? = some o → PY P ops o b w
  ah : ∃ β : Nat → Nat, (∀ (i : Nat) (o : Oper), ops[i]? = some o → On listed i → i ∉ X → AhB P C w E h o b (β i)) ∧ ∀ i j, On listed i → On listed j → i ∉ X → j ∉ X → i ≠ j → β i ≠ β j

theorem ifNil_ok {A L : List Nat} {l : List Oper} {s : Sl} {h : Hp} {K : Prop} (hk : ifNil A L T S l s h K) : K ∧ (A ≠ [] → ∀ p ∈ L, rc T S l s h p) := by
  unfold ifNil at hk
  split at hk
  · exact ⟨hk, fun h => absurd rfl h⟩
  · exact ⟨(rcs_all hk).2, fun _ => (rcs_all hk).1⟩

theorem det_not_al {op : Op} (h : isDet T op = true) : isAl op = false := by cases op <;> first | rfl | cases h
theorem det_not_hv {op : Op} (h : isDet T op = true) : isHv T op = false := by unfold isHv; rw [h]
theorem hv_not {op : Op} (h : isHv T op = true) : isDet T op = false ∧ isAl op = false := by
  unfold isHv at h
  split at h
  · cases h
  · rename_i e
    split at h
    · cases h
    · rename_i e2; exact ⟨e, e2⟩

def Settled (T : Tab) (ops : Array Oper) (listed : Array Bool) (X : List Nat) : Prop :=
  nextOf (isDet T) X 0 ops.toList = none ∧ (allOf (isHv T) X 0 ops.toList ≠ [] ∨ ∀ i o, nextOf isAl X 0 ops.toList = some (i, o) → ¬ On listed i)

theorem DI.slot_det {listed : Array Bool} {a : Act} {w : World} {n : Nat} {X : List Nat} {s : Sl} {h : Hp} {E : Env} {b : Act} (ht : Text T C ops) (x : DI P T S C ops K listed a w n X s h E b) {i : Nat} {o : Oper} (hi : ops[i]? = some o)
    (hdet : isHv T o.op = false) (hX : i ∉ X) {p : Nat} (hp : p ∈ X) {q : Oper} (hq : ops[p]? = some q) {d : Nat} (hd : o.dst = some d) : d ∉ looksL ops.toList q := by
  intro hl
  rcases ht.slot p q i o d hq hi hd hl with h1 | ⟨h1, _⟩
  · obtain ⟨q', e1, e2⟩ := x.built.mem p hp
    rw [hq] at e1; cases e1
    exact hX (e2 i h1).1
  · rw [hdet] at h1; cases h1

theorem settle (hT : TOk P T) (ht : Text T C ops) {listed : Array Bool} {a : Act} {w : World} : ∀ (n : Nat) (X : List Nat) (s : Sl) (h : Hp) (E : Env) (b : Act), DI P T S C ops K listed a w n X s h E b →
    ∃ n X s h E b, DI P T S C ops K listed a w n X s h E b ∧ Settled T ops listed X
  | 0, X, s, h, E, b, x => x.ev.elim
  | n + 1, X, s, h, E, b, x => by
    have hev := x.ev
    simp only [evDraw] at hev
    split at hev
    · exact hev.elim
    · rename_i hdead
      split at hev
      · rename_i i o hn
        obtain ⟨m, em, hm, hX, hdet, hdeps⟩ := nextOf_some hn
        rw [Nat.zero_add] at em; subst em
        have hi : ops[i]? = some o := by simpa using hm
        have hoff : ¬ On listed i := fun hon => by
          obtain ⟨o', e1, e2⟩ := x.lx i hon hX
          rw [hi] at e1; cases e1
          rw [det_not_al hdet] at e2; cases e2
        have hnh := det_not_hv hdet
        have hself : ∀ d, o.dst = some d → d ∉ looksL ops.toList o := fun d hd hl => by
          rcases ht.slot i o i o d hi hi hd hl with h1 | ⟨h1, _⟩
          · exact hX (hdeps i h1)
          · rw [hnh] at h1; cases h1
        obtain ⟨d, v, E', s', h', hd, hrel, hk, hfr, hpy⟩ := det_ahead hT x.rel (fun d hd => ht.fit i o d hi hd) (ht.kind i o hi).1 ((ht.kind i o hi).2.1 hnh) hself hdet hev
        have hdn : d < b.tmps.size := by rw [x.rel.nt]; exact ht.fit i o d hi hd
        refine settle hT ht n (i :: X) s' h' E' (b.put (some d) v) ⟨hrel, hk, ⟨⟨hX, o, hi, hdeps⟩, x.built⟩, x.clo, fun j hj q hq hnd => ?_, fun j hj hjX => x.lx j hj (fun h => hjX (List.mem_cons_of_mem _ h)), ⟨by simp [Act.put, x.ag.size], x.ag.defers, fun t ht' => ?_⟩, fun p hp hpo q hq => ?_, ?_⟩
        · rcases List.mem_cons.1 hj with rfl | hj
          · rw [hi] at hq; cases hq; rw [hdet] at hnd; cases hnd
          · exact x.xl j hj q hq hnd
        · have hne : d ≠ t := fun e => ht' ⟨i, List.mem_cons_self .., hoff, o, hi, by rw [hd, e]⟩
          rw [x.ag.at_ t fun ⟨p, hp, h1, h2⟩ => ht' ⟨p, List.mem_cons_of_mem _ hp, h1, h2⟩]
          simp only [Act.put]
          rw [Array.getElem?_setIfInBounds_ne hne]
        · rcases List.mem_cons.1 hp with rfl | hp
          · rw [hi] at hq; cases hq; exact hpy
          · exact (x.py p hp hpo q hq).put (ht.kind p q hq).1 (x.slot_det ht hi hnh hX hp hq hd) (fun h1 => ht.dist i p o q d hi hq (fun e => hX (e ▸ hp)) hd h1)
        · obtain ⟨β, b1, b2⟩ := x.ah
          refine ⟨β, fun j q hq hj hjX => (b1 j q hq hj (fun h => hjX (List.mem_cons_of_mem _ h))).mono hfr fun dj hdj => ?_, fun j k hj hk hjX hkX => b2 j k hj hk (fun h => hjX (List.mem_cons_of_mem _ h)) (fun h => hkX (List.mem_cons_of_mem _ h))⟩
          have hne : d ≠ dj := fun e => ht.dist i j o q d hi hq (fun e => hoff (e ▸ hj)) hd (by rw [hdj, e])
          rw [getD_put hdn, if_neg hne]
      · rename_i hn
        split at hev
        · exact hev.elim
        · rename_i hdyn
          have hbody := (ifNil_ok hev).1
          split at hbody
          · rename_i hh
            split at hbody
            · rename_i i o hal
              by_cases hon : On listed i
              · obtain ⟨m, em, hm, hX, hali, hdeps⟩ := nextOf_some hal
                rw [Nat.zero_add] at em; subst em
                have hi : ops[i]? = some o := by simpa using hm
                obtain ⟨β, b1, b2⟩ := x.ah
                obtain ⟨E', s', h', hrel, hk, hfr⟩ := al_absorb hT x.rel (fun d hd => ht.fit i o d hi hd) (b1 i o hi hon hX) hbody
                refine settle hT ht n (i :: X) s' h' E' b ⟨hrel, hk, ⟨⟨hX, o, hi, hdeps⟩, x.built⟩, x.clo, fun j hj q hq hnd => ?_, fun j hj hjX => x.lx j hj (fun h => hjX (List.mem_cons_of_mem _ h)), ⟨x.ag.size, x.ag.defers, fun t ht' => x.ag.at_ t fun ⟨p, hp, h1, h2⟩ => ht' ⟨p, List.mem_cons_of_mem _ hp, h1, h2⟩⟩, fun p hp hpo q hq => ?_, β, fun j q hq hj hjX => ?_, fun j k hj hk hjX hkX => b2 j k hj hk (fun h => hjX (List.mem_cons_of_mem _ h)) (fun h => hkX (List.mem_cons_of_mem _ h))⟩
                · rcases List.mem_cons.1 hj with rfl | hj
                  · exact hon
                  · exact x.xl j hj q hq hnd
                · rcases List.mem_cons.1 hp with rfl | hp
                  · exact absurd hon hpo
                  · exact x.py p hp hpo q hq
                · have hjX' : j ∉ X := fun h => hjX (List.mem_cons_of_mem _ h)
                  have hji : j ≠ i := fun e => hjX (e ▸ List.mem_cons_self ..)
                  obtain ⟨e, d, ti, x1, x2, x3, x4, x5, x6, x7, x8, x9, x10⟩ := b1 j q hq hj hjX'
                  obtain ⟨y1, y2⟩ := hfr (β j) (b2 j i hj hon hjX' hX hji) x9 x10
                  exact ⟨e, d, ti, x1, x2, x3, x4, x5, x6, x7, x8, y1, y2⟩
              · exact ⟨n + 1, X, s, h, E, b, x, hn, .inr fun j q hq => by rw [hal] at hq; cases hq; exact hon⟩
            · rename_i hal
              exact ⟨n + 1, X, s, h, E, b, x, hn, .inr fun j q hq => by rw [hal] at hq; cases hq⟩
          · rename_i p l hh
            exact ⟨n + 1, X, s, h, E, b, x, hn, .inl (by rw [hh]; simp)⟩

theorem On_set {listed : Array Bool} {i j : Nat} (hi : i < listed.size) : On (listed.setIfInBounds i true) j ↔ j = i ∨ On listed j := by
  unfold On
  by_cases e : i = j
  · subst e; simp [hi]
  · rw [getD_set_ne false e]
    constructor
    · exact .inr
    · rintro (h | h)
      · exact absurd h.symm e
      · exact h

theorem act_eq {a b : Act} {D : Nat → Prop} (h : Agree D a b) (hD : ∀ n, ¬ D n) : a = b := by
  have : a.tmps = b.tmps := by
    apply Array.ext'
    apply List.ext_getElem?
    intro i
    have := h.at_ i (hD i)
    simpa using this
  cases a; cases b
  simp only at this
  have h2 := h.defers
  simp only at h2
  rw [this, h2]

theorem countP_lt {p q : Nat → Bool} : ∀ {l : List Nat}, (∀ x, q x = true → p x = true) → (∃ x ∈ l, p x = true ∧ q x = false) → l.countP q < l.countP p
  | [], _, ⟨x, hx, _⟩ => by simp at hx
  | y :: l, h, ⟨x, hx, h1, h2⟩ => by
    have hle : l.countP q ≤ l.countP p := List.countP_mono_left fun x _ => h x
    rw [List.countP_cons, List.countP_cons]
    rcases List.mem_cons.1 hx with rfl | hx
    · rw [h1, h2]; simp; omega
    · have := countP_lt h ⟨x, hx, h1, h2⟩
      cases e : q y with
      | true => rw [h y e]; simp; omega
      | false => simp; split <;> omega

def left_ (ops : Array Oper) (listed : Array Bool) : Nat := (List.range ops.size).countP fun i => !listed.getD i true
theorem left_lt {listed : Array Bool} {i : Nat} (hs : listed.size = ops.size) (hi : i < ops.size) (h : listed.getD i true = false) : left_ ops (listed.setIfInBounds i true) < left_ ops listed := by
  unfold left_
  refine countP_lt (fun x hx => ?_) ⟨i, by simpa using hi, by simpa using h, ?_⟩
  · by_cases e : i = x
    · subst e; simp [hs, hi] at hx
    · rwa [getD_set_ne true e] at hx
  · simp [hs, hi]

/-- What is pending is looked at by nobody that may run. -/
theorem DI.free {listed : Array Bool} {a : Act} {w : World} {n : Nat} {X : List Nat} {s : Sl} {h : Hp} {E : Env} {b : Act} (ht : Text T C ops) (x : DI P T S C ops K listed a w n X s h E b) {i : Nat} {o : Oper} (hi : ops[i]? = some o)
    (hd : ∀ k ∈ Oper.deps o, On listed k) : ∀ t ∈ looksL ops.toList o, ¬ ∃ p ∈ X, ¬ On listed p ∧ ∃ o, ops[p]? = some o ∧ o.dst = some t := by
  rintro t htl ⟨p, hp, hpo, q, hq, hqd⟩
  rcases ht.slot i o p q t hi hq hqd htl with h1 | ⟨h1, _⟩
  · exact hpo (hd p h1)
  · exact hpo (x.xl p hp q hq (hv_not h1).1)

/-- The pending ones of a list run again behind a step. -/
theorem DI.next (hT : TOk P T) (ht : Text T C ops) {listed : Array Bool} {a : Act} {w w' : World} {n : Nat} {X : List Nat} {s s' : Sl} {h h' : Hp} {E E' : Env} {b : Act} (x : DI P T S C ops K listed a w n X s h E b)
    {i : Nat} {o : Oper} (hi : ops[i]? = some o) (hX : i ∉ X) (hnd : isDet T o.op = false) (hls : i < listed.size) (hdeps : ∀ k ∈ Oper.deps o, On listed k) (u : Value)
    (r : Rel C E' s' h' (b.put o.dst u) w') (fr : FrOK w E h w' E' h') {X' : List Nat} (hX' : X' = X ∨ X' = i :: X ∧ ∀ k ∈ Oper.deps o, k ∈ X) (hal : X' = X → isAl o.op = true)
    {n' : Nat} (hev : evDraw T S ops.toList n' X' s' h' K) (hrc : ∀ p ∈ pendL T ops.toList (revN X' []) X, rc T S ops.toList s' h' p)
    (hah : X' = X → ∃ blk, w.heap.size ≤ blk ∧ AhB P C w' E' h' o (b.put o.dst u) blk) : ∃ b', DI P T S C ops K (listed.setIfInBounds i true) (a.put o.dst u) w' n' X' s' h' E' b' := by
  have on_set : ∀ {j}, On (listed.setIfInBounds i true) j ↔ j = i ∨ On listed j := On_set hls
  have hmem : ∀ p, p ∈ X' → p = i ∨ p ∈ X := by
    rintro p hp
    rcases hX' with rfl | ⟨rfl, _⟩
    · exact .inr hp
    · exact List.mem_cons.1 hp
  have hsub : ∀ p, p ∈ X → p ∈ X' := by
    rintro p hp
    rcases hX' with rfl | ⟨rfl, _⟩
    · exact hp
    · exact List.mem_cons_of_mem _ hp
  have hbuilt : Built ops X' := by
    rcases hX' with rfl | ⟨rfl, hd⟩
    · exact x.built
    · exact ⟨⟨hX, o, hi, hd⟩, x.built⟩
  have hclo : ∀ (j : Nat) (q : Oper), ops[j]? = some q → On (listed.setIfInBounds i true) j → ∀ k ∈ Oper.deps q, On (listed.setIfInBounds i true) k := by
    intro j q hq hj k hk
    rcases on_set.1 hj with rfl | hj
    · rw [hi] at hq; cases hq; exact on_set.2 (.inr (hdeps k hk))
    · exact on_set.2 (.inr (x.clo j q hq hj k hk))
  have hxl : ∀ (j : Nat), j ∈ X' → ∀ (q : Oper), ops[j]? = some q → isDet T q.op = false → On (listed.setIfInBounds i true) j := by
    intro j hj q hq hq2
    rcases hmem j hj with rfl | hj
    · exact on_set.2 (.inl rfl)
    · exact on_set.2 (.inr (x.xl j hj q hq hq2))
  let L := (pendL T ops.toList (revN X' []) X).filter fun p => !(listed.setIfInBounds i true).getD p false
  have hLX : ∀ p ∈ L, p ∈ X ∧ ¬ On (listed.setIfInBounds i true) p := by
    intro p hp
    have := List.mem_filter.1 hp
    exact ⟨pendL_sub.subset this.1, by simpa [On] using this.2⟩
  have hpm : ∀ p ∈ X', ¬ On (listed.setIfInBounds i true) p → p ∈ L := by
    intro p hp hpo
    have hpi : p ≠ i := fun e => hpo (on_set.2 (.inl e))
    have hpX : p ∈ X := (hmem p hp).resolve_left hpi
    refine List.mem_filter.2 ⟨pend_mem (Y := []) hclo (fun j hj => ?_) hxl (fun q hq => hsub q hq) p hpX hpo, by simpa [On] using hpo⟩
    obtain ⟨q, h1, _⟩ := hbuilt.mem j hj; exact ⟨q, h1⟩
  obtain ⟨b2, r2, g2, y2⟩ := rerunAll (L := L) hT ht (x.built.older.sublist (List.filter_sublist.trans pendL_sub)) (fun p hp => by
    obtain ⟨hp1, hp2⟩ := hLX p hp
    obtain ⟨q, h1, h2⟩ := x.built.mem p hp1
    refine ⟨q, h1, ?_, fun hd => (h2 p hd).2 rfl⟩
    cases e : isDet T q.op with
    | true => rfl
    | false => exact absurd (on_set.2 (.inr (x.xl p hp1 q h1 e))) hp2) (fun p hp => hrc p (List.mem_filter.1 hp).1) r
  have hslot : ∀ (j : Nat) (q : Oper) (dj : Nat), ops[j]? = some q → isAl q.op = true → q.dst = some dj → b2.tmps.getD dj undef = (b.put o.dst u).tmps.getD dj undef := by
    intro j q dj hq hqa hqd
    simp only [Array.getD_eq_getD_getElem?]
    rw [g2.at_ dj]
    rintro ⟨p, hp, op, h1, h2⟩
    obtain ⟨hp1, hp2⟩ := hLX p hp
    refine ht.dist p j op q dj h1 hq (fun e => ?_) h2 hqd
    subst e
    rw [hq] at h1; cases h1
    refine hp2 (on_set.2 (.inr (x.xl p hp1 q hq ?_)))
    cases e2 : isDet T q.op with
    | false => rfl
    | true => rw [det_not_al e2] at hqa; cases hqa
  refine ⟨b2, r2, hev, hbuilt, hclo, hxl, fun j hj hjX => ?_, ⟨?_, ?_, fun t ht' => ?_⟩, fun p hp hpo q hq => y2 p (hpm p hp hpo) q hq, ?_⟩
  · rcases on_set.1 hj with rfl | hj
    · rcases hX' with rfl | ⟨rfl, _⟩
      · exact ⟨o, hi, hal rfl⟩
      · exact absurd (List.mem_cons_self ..) hjX
    · exact x.lx j hj fun h => hjX (hsub j h)
  · rw [g2.size]; exact (x.ag.put o.dst u).size
  · rw [g2.defers]; exact (x.ag.put o.dst u).defers
  · rw [(x.ag.put o.dst u).at_ t fun ⟨p, hp, h1, h2⟩ => ?_]
    · rw [g2.at_ t]
      rintro ⟨p, hp, h2⟩
      obtain ⟨hp1, hp2⟩ := hLX p hp
      exact ht' ⟨p, hsub p hp1, hp2, h2⟩
    · refine ht' ⟨p, hsub p hp, fun h3 => ?_, h2⟩
      rcases on_set.1 h3 with rfl | h3
      · exact hX hp
      · exact h1 h3
  · obtain ⟨β, b1, b3⟩ := x.ah
    have old : ∀ (j : Nat) (q : Oper), ops[j]? = some q → On listed j → j ∉ X → j ≠ i → AhB P C w' E' h' q b2 (β j) := by
      intro j q hq hj hjX hji
      refine (b1 j q hq hj hjX).mono fr fun dj hdj => ?_
      obtain ⟨q', e1, e2⟩ := x.lx j hj hjX
      rw [hq] at e1; cases e1
      rw [hslot j q dj hq e2 hdj]
      cases ed : o.dst with
      | none => rfl
      | some d =>
        have hne : d ≠ dj := fun e => ht.dist i j o q d hi hq (Ne.symm hji) ed (by rw [hdj, e])
        rw [getD_put (by rw [x.rel.nt]; exact ht.fit i o d hi ed), if_neg hne]
    rcases hX' with e | ⟨e, _⟩
    · obtain ⟨blk, hb1, hb2⟩ := hah e
      subst e
      refine ⟨fun j => if j = i then blk else β j, fun j q hq hj hjX => ?_, fun j k hj hk hjX hkX hne => ?_⟩
      · by_cases e : j = i
        · subst e
          rw [hi] at hq; cases hq
          simp only [if_true]
          refine hb2.mono ⟨Nat.le_refl _, fun _ _ h1 h2 => ⟨rfl, h2, h1⟩⟩ fun d hd => hslot j o d hi (hal rfl) hd
        · simp only [if_neg e]
          exact old j q hq ((on_set.1 hj).resolve_left e) hjX e
      · have lt : ∀ j, On (listed.setIfInBounds i true) j → j ∉ X' → j ≠ i → β j < w.heap.size := by
          intro j hj hjX e
          have hj' := (on_set.1 hj).resolve_left e
          obtain ⟨q, e1, _⟩ := x.lx j hj' hjX
          obtain ⟨_, _, _, _, _, _, _, h5, _⟩ := b1 j q e1 hj' hjX
          exact h5
        by_cases e1 : j = i
        · by_cases e2 : k = i
          · exact absurd (e1.trans e2.symm) hne
          · simp only [if_pos e1, if_neg e2]
            have := lt k hk hkX e2
            omega
        · by_cases e2 : k = i
          · simp only [if_neg e1, if_pos e2]
            have := lt j hj hjX e1
            omega
          · simp only [if_neg e1, if_neg e2]
            exact b3 j k ((on_set.1 hj).resolve_left e1) ((on_set.1 hk).resolve_left e2) hjX hkX hne
    · subst e
      refine ⟨β, fun j q hq hj hjX => ?_, fun j k hj hk hjX hkX hne => ?_⟩
      · have hji : j ≠ i := fun e => hjX (e ▸ List.mem_cons_self ..)
        exact old j q hq ((on_set.1 hj).resolve_left hji) (fun h => hjX (List.mem_cons_of_mem _ h)) hji
      · have hji : j ≠ i := fun e => hjX (e ▸ List.mem_cons_self ..)
        have hki : k ≠ i := fun e => hkX (e ▸ List.mem_cons_self ..)
        exact b3 j k ((on_set.1 hj).resolve_left hji) ((on_set.1 hk).resolve_left hki) (fun h => hjX (List.mem_cons_of_mem _ h)) (fun h => hkX (List.mem_cons_of_mem _ h)) hne
end
end Go.Vm
