/- A verified evaluator for Go code: regions whose order is drawn come to what the evaluator says. -/
import Derived.Test.YtedffkngbjlgdaaGreatDoorVm7f
namespace Go.Vm
open Go.RowKit
set_option linter.unusedVariables false
set_option linter.unusedSimpArgs false

section
variable {P : Program} {T : Tab} {S : Cons} {C : Ctx} {ops : Array Oper} {K : Sl → Hp → Prop} {Q : Exit → Act → World → Prop}

theorem ready_on {listed : Array Bool} (hs : listed.size = ops.size) {i : Nat} (h : i ∈ Region.ready .any ops listed) :
    ¬ On listed i ∧ i < ops.size ∧ listed.getD i true = false ∧ ∃ o, ops[i]? = some o ∧ ∀ k ∈ Oper.deps o, On listed k := by
  obtain ⟨h1, o, h2, h3⟩ := mem_ready.1 h
  have hi : i < ops.size := (Array.getElem?_eq_some_iff.1 h2).1
  refine ⟨fun hon => ?_, hi, h1, o, h2, fun k hk => ?_⟩
  · unfold On at hon
    have hi' : i < listed.size := by omega
    simp [hi'] at h1 hon
    rw [h1] at hon; cases hon
  · obtain ⟨e, he, hb, rfl⟩ := deps_iff.1 hk
    exact h3 e he hb
theorem on_ready {listed : Array Bool} (hs : listed.size = ops.size) {i : Nat} {o : Oper} (hi : ops[i]? = some o) (hoff : ¬ On listed i) (hd : ∀ k ∈ Oper.deps o, On listed k) : i ∈ Region.ready .any ops listed := by
  refine mem_ready.2 ⟨?_, o, hi, fun e he hb => hd _ (deps_iff.2 ⟨e, he, hb, rfl⟩)⟩
  have hi' : i < ops.size := (Array.getElem?_eq_some_iff.1 hi).1
  have hi2 : i < listed.size := by omega
  unfold On at hoff
  simp [hi2] at hoff ⊢
  exact hoff

theorem DI.done (hT : TOk P T) (ht : Text T C ops) {listed : Array Bool} (hs : listed.size = ops.size) {a : Act} {w : World} {n : Nat} {X : List Nat} {s : Sl} {h : Hp} {E : Env} {b : Act} (x : DI P T S C ops K listed a w n X s h E b) (st : Settled T ops listed X)
    (hr : Region.ready .any ops listed = []) : Post C K a w := by
  have none_ : ∀ {i : Nat} {o : Oper}, ops[i]? = some o → ¬ On listed i → (∀ k ∈ Oper.deps o, On listed k) → False := fun hi ho hd => by
    have := on_ready hs hi ho hd
    rw [hr] at this; cases this
  have all : ∀ {Y : List Nat}, Built ops Y → ∀ i ∈ Y, On listed i := by
    intro Y hY
    induction Y with
    | nil => intro i hi; simp at hi
    | cons j Y ih =>
      intro i hi
      have ih := ih hY.2
      rcases List.mem_cons.1 hi with rfl | hi
      · obtain ⟨o, h1, h2⟩ := hY.1.2
        exact Classical.byContradiction fun hoff => none_ h1 hoff fun k hk => ih k (h2 k hk)
      · exact ih i hi
  have allX := all x.built
  have hev := x.ev
  cases n with
  | zero => exact hev.elim
  | succ n =>
    simp only [evDraw] at hev
    split at hev
    · exact hev.elim
    · rw [st.1] at hev
      simp only at hev
      split at hev
      · exact hev.elim
      · have hbody := (ifNil_ok hev).1
        have hnil : allOf (isHv T) X 0 ops.toList = [] := by
          cases e : allOf (isHv T) X 0 ops.toList with
          | nil => rfl
          | cons p l =>
            exfalso
            have hp : (p.1, p.2) ∈ allOf (isHv T) X 0 ops.toList := by rw [e]; exact List.mem_cons_self ..
            obtain ⟨m, em, hm, hX, hhv, hd⟩ := allOf_mem.1 hp
            rw [Nat.zero_add] at em
            have hi : ops[p.1]? = some p.2 := by rw [em]; simpa using hm
            refine none_ hi (fun hon => ?_) fun k hk => allX k (hd k hk)
            obtain ⟨o', e1, e2⟩ := x.lx _ hon hX
            rw [hi] at e1; cases e1
            rw [(hv_not hhv).2] at e2; cases e2
        rw [hnil] at hbody
        simp only at hbody
        split at hbody
        · rename_i i o hal
          exfalso
          obtain ⟨m, em, hm, hX, hali, hd⟩ := nextOf_some hal
          rw [Nat.zero_add] at em; subst em
          have hi : ops[i]? = some o := by simpa using hm
          rcases st.2 with h1 | h1
          · exact h1 hnil
          · exact none_ hi (h1 i o hal) fun k hk => allX k (hd k hk)
        · split at hbody
          · have e : a = b := act_eq x.ag fun t ⟨p, hp, h1, _⟩ => h1 (allX p hp)
            subst e
            exact ⟨E, s, h, x.rel, hbody⟩
          · exact hbody.elim

theorem draw_any (hT : TOk P T) (hS : SOk P S) (ht : Text T C ops) (hQ : ∀ a w, Post C K a w → Q .normal a w) : ∀ (fuel : Nat) (listed : Array Bool) (a : Act) (w : World), listed.size = ops.size → left_ ops listed ≤ fuel →
    (∃ n X s h E b, DI P T S C ops K listed a w n X s h E b) → wpAny P .any ops Q fuel listed a w := by
  intro fuel
  induction fuel with
  | zero =>
    rintro listed a w hs hl ⟨n, X, s, h, E, b, x⟩
    have hr : Region.ready .any ops listed = [] := by
      cases e : Region.ready .any ops listed with
      | nil => rfl
      | cons i l =>
        exfalso
        obtain ⟨_, h2, h3, _⟩ := ready_on (ops := ops) hs (by rw [e]; exact List.mem_cons_self .. : i ∈ Region.ready .any ops listed)
        have := left_lt hs h2 h3
        omega
    obtain ⟨n, X, s, h, E, b, x, st⟩ := settle hT ht n X s h E b x
    exact ⟨hr, hQ _ _ (x.done hT ht hs st hr)⟩
  | succ fuel ih =>
    rintro listed a w hs hl ⟨n, X, s, h, E, b, x⟩
    obtain ⟨n, X, s, h, E, b, x, st⟩ := settle hT ht n X s h E b x
    refine ⟨fun hr => hQ _ _ (x.done hT ht hs st hr), fun i hir => ?_⟩
    obtain ⟨hoff, hin, hgd, o, hi, hdeps⟩ := ready_on hs hir
    have hls : i < listed.size := by omega
    have hsz : (listed.setIfInBounds i true).size = ops.size := by simpa using hs
    have hlt : left_ ops (listed.setIfInBounds i true) ≤ fuel := by have := left_lt hs hin hgd; omega
    have on_set : ∀ {j}, On (listed.setIfInBounds i true) j ↔ j = i ∨ On listed j := On_set hls
    have hfree := x.free ht hi hdeps
    have hnsel := (ht.kind i o hi).1
    have he := x.ag.run hnsel hfree
    have hw := x.ag.wanted hfree
    have hev := x.ev
    cases n with
    | zero => exact hev.elim
    | succ n =>
    simp only [evDraw] at hev
    split at hev
    · exact hev.elim
    · rename_i hdead
      rw [st.1] at hev
      simp only at hev
      split at hev
      · exact hev.elim
      · rename_i hdyn
        obtain ⟨hbody, hrcs⟩ := ifNil_ok hev
        by_cases hX : i ∈ X
        · -- a pending one
          have hpy := x.py i hX hoff o hi
          obtain ⟨d, hd, hds, hrun⟩ := hpy
          have key : wpAny P .any ops Q fuel (listed.setIfInBounds i true) (a.put o.dst (b.tmps.getD d undef)) w := by
            refine ih _ _ _ hsz hlt ⟨n + 1, X, s, h, E, b, x.rel, x.ev, x.built, fun j q hq hj k hk => ?_, fun j hj q hq hq2 => on_set.2 (.inr (x.xl j hj q hq hq2)), fun j hj hjX => ?_, ⟨?_, ?_, fun t ht' => ?_⟩, fun p hp hpo q hq => ?_, ?_⟩
            · rcases on_set.1 hj with rfl | hj
              · rw [hi] at hq; cases hq; exact on_set.2 (.inr (hdeps k hk))
              · exact on_set.2 (.inr (x.clo j q hq hj k hk))
            · rcases on_set.1 hj with rfl | hj
              · exact absurd hX hjX
              · exact x.lx j hj hjX
            · rw [hd]; simp [Act.put, x.ag.size]
            · rw [hd]; exact x.ag.defers
            · rw [hd]
              simp only [Act.put]
              by_cases e : d = t
              · subst e
                have hda : d < a.tmps.size := by rw [x.ag.size]; exact hds
                rw [Array.getElem?_setIfInBounds_self_of_lt hda]
                simp [Array.getD_eq_getD_getElem?, hds]
              · rw [Array.getElem?_setIfInBounds_ne e]
                refine x.ag.at_ t fun ⟨p, hp, h1, q, h2, h3⟩ => ht' ⟨p, hp, fun h4 => ?_, q, h2, h3⟩
                rcases on_set.1 h4 with rfl | h4
                · rw [hi] at h2; cases h2; rw [hd] at h3; cases h3; exact e rfl
                · exact h1 h4
            · exact x.py p hp (fun h => hpo (on_set.2 (.inr h))) q hq
            · obtain ⟨β, b1, b2⟩ := x.ah
              have old : ∀ j, On (listed.setIfInBounds i true) j → j ∉ X → On listed j := fun j hj hjX => (on_set.1 hj).resolve_left fun e => hjX (e ▸ hX)
              exact ⟨β, fun j q hq hj hjX => b1 j q hq (old j hj hjX) hjX, fun j k hj hk hjX hkX => b2 j k (old j hj hjX) (old k hk hkX) hjX hkX⟩
          unfold wpOp
          rw [hi]
          simp only
          rw [hw]
          rcases hrun with ⟨h1, h2⟩ | ⟨h1, h2⟩
          · rw [if_pos h1]
            refine .inl ?_
            unfold Oper.wp
            rw [he, h2]
            exact key
          · rw [h1, if_neg (by simp)]
            rw [h2] at key
            exact key
        · by_cases hali : isAl o.op = true
          · -- a new variable ahead of its time
            obtain ⟨hhas, hgn⟩ := (ht.kind i o hi).2.2 hali
            have hnh : isHv T o.op = false := by
              cases e : isHv T o.op with
              | false => rfl
              | true => rw [(hv_not e).2] at hali; cases hali
            obtain ⟨d, hd⟩ := (ht.kind i o hi).2.1 hnh
            have hiA : i ∈ alOut X 0 ops.toList := alOut_mem.2 ⟨i, o, by omega, by simpa using hi, hX, hali⟩
            have hdd : look s d = .dead := by
              have go : ∀ {l : List Nat}, deadAt ops.toList s l = true → i ∈ l → look s d = .dead := by
                intro l
                induction l with
                | nil => intro _ h; simp at h
                | cons k l ihl =>
                  intro h1 h2
                  simp only [deadAt, nth_eq] at h1
                  split at h1
                  · rename_i d' q1 q2 q3 q4 q5 ek
                    split at h1
                    · rename_i e3
                      rcases List.mem_cons.1 h2 with rfl | h2
                      · have ek' : ops[i]? = some ⟨some d', q1, q2, q3, q4, q5⟩ := by simpa using ek
                        rw [hi] at ek'; cases ek'
                        simp only at hd; cases hd
                        exact e3
                      · exact ihl h1 h2
                    · cases h1
                  · cases h1
              exact go hdead hiA
            have hdet : isDet T o.op = false := by
              cases e : isDet T o.op with
              | false => rfl
              | true => rw [det_not_al e] at hali; cases hali
            obtain ⟨v, w', hrun, hrel, hfr, blk, hb1, hb2⟩ := al_run hT x.rel (ht.fit i o d hi hd) hd hhas hdd
            have hput : b.put (some d) v = b.put o.dst v := by rw [hd]
            rw [hput] at hrel hb2
            obtain ⟨b', x'⟩ := x.next hT ht hi hX hdet hls hdeps v hrel hfr (X' := X) (.inl rfl) (fun _ => hali) x.ev (fun p hp => hrcs (by intro e; rw [e] at hiA; cases hiA) p hp) (fun _ => ⟨blk, hb1, hb2⟩)
            have key := ih _ _ _ hsz hlt ⟨_, _, _, _, _, _, x'⟩
            unfold wpOp
            rw [hi]
            simp only
            rw [if_pos (by simp [Region.wanted, hgn])]
            refine .inl ?_
            unfold Oper.wp
            rw [hrun a]
            exact key
          · -- one that does something
            have hali' : isAl o.op = false := by simpa using hali
            have hdX : ∀ k ∈ Oper.deps o, k ∈ X := by
              intro k hk
              refine Classical.byContradiction fun hkX => ?_
              have inA : ∀ j, On listed j → j ∉ X → j ∈ alOut X 0 ops.toList := by
                intro j hj hjX
                obtain ⟨q, e1, e2⟩ := x.lx j hj hjX
                exact alOut_mem.2 ⟨j, q, by omega, by simpa using e1, hjX, e2⟩
              have hiA : i ∉ alOut X 0 ops.toList := by
                intro h1
                obtain ⟨m, q, e1, e2, _, e3⟩ := alOut_mem.1 h1
                rw [Nat.zero_add] at e1; subst e1
                have e2' : ops[i]? = some q := by simpa using e2
                rw [hi] at e2'; cases e2'
                rw [hali'] at e3; cases e3
              unfold dynB at hdyn
              split at hdyn
              · rename_i hdyn2
                obtain ⟨j, hj, hjX, hjA⟩ := dynOk_ok hdyn2 i o (by simpa using hi) (by simpa using hX) (by simpa using hiA) ⟨k, hk, inA k (hdeps k hk) hkX⟩
                exact hjA (inA j (hdeps j hj) hjX)
              · unfold noLong at hdyn
                split at hdyn
                · rename_i i1 e1 e2
                  have hkA := inA k (hdeps k hk) hkX
                  rw [e2] at hkA
                  have hk1 : k = i1 := by simpa using hkA
                  subst hk1
                  rcases st.2 with h1 | h1
                  · exact h1 e1
                  · rw [e1] at hbody
                    simp only at hbody
                    split at hbody
                    · rename_i i' o' hal'
                      obtain ⟨m, em, hm, hX', hali2, _⟩ := nextOf_some hal'
                      rw [Nat.zero_add] at em; subst em
                      have hin' : i' ∈ alOut X 0 ops.toList := alOut_mem.2 ⟨i', o', by omega, hm, hX', hali2⟩
                      rw [e2] at hin'
                      have : i' = k := by simpa using hin'
                      subst this
                      exact h1 i' o' hal' (hdeps i' hk)
                    · split at hbody
                      · rename_i hcov
                        exact hX (by have := covers_mem hcov i (by simpa using (Array.getElem?_eq_some_iff.1 hi).1); simpa using this)
                      · exact hbody.elim
                · cases hdyn
            have hdet : isDet T o.op = false := by
              cases e : isDet T o.op with
              | false => rfl
              | true => exact absurd hdX (nextOf_none st.1 i o (by simpa using hi) (by simpa using hX) e)
            have hhv : isHv T o.op = true := by unfold isHv; rw [hdet, hali']
            have hmem : (i, o) ∈ allOf (isHv T) X 0 ops.toList := allOf_mem.2 ⟨i, by omega, by simpa using hi, hX, hhv, hdX⟩
            have hk : evG T S ops.toList o s h fun s' h' => rcs T S ops.toList s' h' (pendL T ops.toList (revN (i :: X) []) X) (evDraw T S ops.toList n (i :: X) s' h' K) := by
              split at hbody
              · rename_i hh; rw [hh] at hmem; cases hmem
              · rename_i p l hh
                rw [hh] at hmem
                exact forK_mem hbody i o hmem
            have next : ∀ u w', PostF C w E h (fun s' h' => rcs T S ops.toList s' h' (pendL T ops.toList (revN (i :: X) []) X) (evDraw T S ops.toList n (i :: X) s' h' K)) (b.put o.dst u) w' →
                wpAny P .any ops Q fuel (listed.setIfInBounds i true) (a.put o.dst u) w' := by
              rintro u w' ⟨E', s', h', hrel, hk', hfr⟩
              obtain ⟨hrc, hev'⟩ := rcs_all hk'
              have hne : i :: X ≠ X := fun e => by have := congrArg List.length e; simp at this
              obtain ⟨b', x'⟩ := x.next hT ht hi hX hdet hls hdeps u hrel hfr (X' := i :: X) (.inr ⟨rfl, hdX⟩) (fun e => absurd e hne) hev' hrc (fun e => absurd e hne)
              exact ih _ _ _ hsz hlt ⟨_, _, _, _, _, _, x'⟩
            have hG := evG_framed hT hS x.rel (fun d hd => ht.fit i o d hi hd) hk
            unfold wpOp
            rw [hi]
            simp only
            rw [hw]
            split at hG
            · rename_i h1
              rw [if_pos h1]
              refine .inl (Oper.wp_mono ?_ (wp_to (Q := Q) he (fun a w hp => ?_) hG))
              · rintro a' w' ⟨u, rfl, hp⟩
                exact next u w' hp
              · obtain ⟨_, _, _, hr, _⟩ := hp; exact hr.defers
            · rename_i h1
              rw [if_neg h1]
              exact next undef w hG

theorem look_forget {l : List Oper} {s : Sl} (n : Nat) : look (forgetAl l s) n = .dead ∨ look (forgetAl l s) n = look s n := by
  induction l with
  | nil => exact .inr rfl
  | cons o r ih =>
    simp only [forgetAl]
    split
    · split
      · rw [look_cons]
        split
        · exact .inl rfl
        · exact ih
      · exact ih
    · exact ih

theorem draw_sound (hT : TOk P T) (hS : SOk P S) (hm : P.follows .mixedOrders = true) (hf : FitOps0 C ops.toList) (hQ : ∀ a w, Post C K a w → Q .normal a w) {s : Sl} {h : Hp} {E : Env} {a : Act} {w : World} {id : Nat} (r : Rel C E s h a w)
    (hk : drawOk T ops.toList (evDraw T S ops.toList (ops.size + 1) [] (forgetAl ops.toList s) h K)) : (Code.region id ops true).wp P Q a w := by
  obtain ⟨ht, hev⟩ := text_ok hf hk
  refine wp_region_any hm ?_
  have hoff : ∀ i, ¬ On (Array.replicate ops.size false) i := by
    intro i hon
    unfold On at hon
    rw [Array.getD_eq_getD_getElem?, Array.getElem?_replicate] at hon
    split at hon <;> simp at hon
  have r1 : Rel C E (forgetAl ops.toList s) h a w := r.looks fun n => look_forget n
  have r2 : Rel C E (forgetAl ops.toList s) h a { w with drawn := w.drawn + 1 } := by
    have hx : Ext w { w with drawn := w.drawn + 1 } := Ext.drew w
    have := r1.put (dst := none) (V := .dead) (v := undef) hx (r1.hs.world hx.shape hx.blk) (fun d hd => by cases hd) (.inl rfl) (fun n u _ => Sub.refl E _ u)
    exact this
  refine draw_any hT hS ht hQ _ _ _ _ (by simp) (by unfold left_; have := List.countP_le_length (p := fun i => !(Array.replicate ops.size false).getD i true) (l := List.range ops.size); simpa using this) ⟨_, [], _, h, E, a, r2, hev, trivial, fun i o _ hi => absurd hi (hoff i), fun i hi => by simp at hi, fun i hi => absurd hi (hoff i), ⟨rfl, rfl, fun _ _ => rfl⟩, fun p hp => by simp at hp, fun _ => 0, fun i o _ hi => absurd hi (hoff i), fun i j hi => absurd hi (hoff i)⟩
end
end Go.Vm
