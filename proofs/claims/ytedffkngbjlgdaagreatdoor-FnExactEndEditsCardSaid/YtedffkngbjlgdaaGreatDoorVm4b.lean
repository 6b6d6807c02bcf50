/- A verified evaluator for Go code: stores. -/
import Derived.Test.YtedffkngbjlgdaaGreatDoorVm4a
namespace Go.Vm
open Go.RowKit
set_option linter.unusedVariables false
set_option linter.unusedSimpArgs false

/-- The cells of a row behind a store into one of its elements. -/
def setVals (j f : Nat) (us : List Value) (vals : Nat → Nat → Value) : Nat → Nat → Value := fun i g => if i = j ∧ f ≤ g ∧ g < f + us.length then us.getD (g - f) undef else vals i g

theorem setCells_row {w : World} {b p sz n j f : Nat} {us : List Value} {vals : Nat → Nat → Value} (h : RowC w b p sz n vals) (hj : j < n) (hf : f + us.length ≤ sz) :
    RowC (w.setCells b (p + (j * sz + f)) us) b p sz n (setVals j f us vals) := by
  intro i g hi hg
  unfold setVals
  by_cases e : i = j ∧ f ≤ g ∧ g < f + us.length
  · rw [if_pos e]
    obtain ⟨rfl, h1, h2⟩ := e
    have := World.cell?_setCells_in b us (p + (i * sz + f)) w (fun k hk => by
      have := h i (f + k) hi (by omega)
      rw [show p + (i * sz + f) + k = p + (i * sz + (f + k)) by omega, this]; rfl) (g - f) (by omega)
    rw [show p + (i * sz + g) = p + (i * sz + f) + (g - f) by omega, this]
    simp [List.getD_eq_getElem?_getD, show g - f < us.length by omega]
  · rw [if_neg e, World.cell?_setCells_out]
    · exact h i g hi hg
    · intro _ _
      show p + (i * sz + g) < p + (j * sz + f) ∨ p + (j * sz + f) + us.length ≤ p + (i * sz + g)
      by_cases e1 : i = j
      · subst e1; omega
      · have h1 : ¬ (j * sz ≤ i * sz + g ∧ i * sz + g < j * sz + sz) := mul_ne (Ne.symm e1) hg
        omega

section
variable {P : Program} {T : Tab} {S : Cons} {C : Ctx} {E E1 : Env} {s : Sl} {h h1 : Hp} {a : Act} {w w' : World} {K : Sl → Hp → Prop} {Q : Exit → Act → World → Prop} {o : Oper} {v : Value}

/-- What 'back' asks of the others, where only blocks change that no one holds any more. -/
theorem back_harr {t : Nat} (r1 : Hs C w E1 h1) (tr : Tr E h E1 h1) (hB : ∀ x, w'.heap[x]? = w.heap[x]? ∨ ¬ E1.R x ∧ ∀ v, (lookO h1 v).isSome = true → ¬ E1.F v x) :
    (∀ u, u ≠ t → ∀ o, lookO h1 u = some o → obMen t o = false ∨
      (lookO h u = some o ∧ E1.γ u = E.γ u ∧ (∀ b p, E.γ u = some (b, p) → w'.heap[b]? = w.heap[b]?) ∧ ∀ m, obMen m o = true → m ≠ t → Sub E (lookO h) E1 (lookO h1) m)) ∧
    (∀ x, E1.R x ∨ (∃ u, (lookO h1 u).isSome = true ∧ E1.F u x) → w'.heap[x]? = w.heap[x]?) ∧
    ∀ m, m ≠ t → Sub E (lookO h) E1 (lookO h1) m := by
  have hfr : ∀ x, E1.R x ∨ (∃ u, (lookO h1 u).isSome = true ∧ E1.F u x) → w'.heap[x]? = w.heap[x]? := by
    intro x hx
    rcases hB x with h2 | ⟨h2, h3⟩
    · exact h2
    · rcases hx with hx | ⟨u, hu, hx⟩
      · exact absurd hx h2
      · exact absurd hx (h3 u hu)
  have hsub : ∀ m, m ≠ t → Sub E (lookO h) E1 (lookO h1) m := fun m _ => tr.sub m
  refine ⟨fun u hu o hl => ?_, hfr, hsub⟩
  cases hc : isC o with
  | false => exact .inl (obMen_row hc t)
  | true =>
  refine .inr ?_
  have h2 := tr.arr u o hl hc
  have hγ : E1.γ u = E.γ u := by
    obtain ⟨o', h3, _, _, _, h4⟩ := hsub u hu _ hl
    exact h4
  refine ⟨h2, hγ, fun b p hb => ?_, fun m _ hm => hsub m hm⟩
  cases o with
  | row => cases hc
  | arr own sz els =>
    obtain ⟨_, b', p', c1, c2, _, _, c3⟩ := r1.ob u _ hl
    rw [hγ, hb] at c1; cases c1
    refine hfr b ?_
    cases own with
    | true => exact .inr ⟨u, by rw [hl]; rfl, (c3.1 b).2 rfl⟩
    | false => exact .inl c3.1
  | foc sz enc l q cs =>
    obtain ⟨_, _, _, _, b', p', c1, _, _, _, _, _, _, _, _, c3, _⟩ := r1.ob u _ hl
    rw [hγ, hb] at c1; cases c1
    exact hfr b (.inr ⟨u, by rw [hl]; rfl, (c3 b).2 (.inl rfl)⟩)

theorem run_storeAt {t : TypeId} {i : TyI} (hi : TyOk P t i) {b p : Nat} {x : Value} (hn : x.cells.toList.length = i.size) (h1 : ∀ y ∈ x.cells.toList, y.oneCell' = true)
    (hc : ∀ j, j < i.size → (∃ y, w.cell? ⟨b, p + j, none⟩ = some y) ∧ w.frozen? ⟨b, p + j, none⟩ = false) :
    (Instr.storeAt t (.pointer (some ⟨b, p, none⟩)) x).run P w = .ok () (w.setCells b p x.cells.toList) := by
  obtain ⟨inf, z, g1, g2, _⟩ := hi.info
  have hs : (sizeOf t).run P w = .ok i.size w := run_sizeOf (by rw [g1]; simp [g2]) w
  have hst := run_storeCells_cells (P := P) b p x.cells.toList 0 w (fun j hj => by obtain ⟨y, hy⟩ := (hc j (by omega)).1; simp [hy]) (fun j hj => by simpa using (hc j (by omega)).2) h1
  simp only [Nat.add_zero] at hst
  have hn' : x.cells.size = i.size := by simpa using hn
  simp only [Instr.storeAt, Instr.sureAddr, Sem.run_bind, Sem.run_pure, Result.andThen_ok, storeVar, hs]
  simp [hn', hst]

theorem run_store' {t : TypeId} {x y : Operand} {w' : World} (ho : o.op = .store t x y) (hr : (Instr.storeAt t (a.eval x) (a.eval y)).run P w = .ok () w') : (execOp a.eval o).run P w = .ok .skip w' := by
  simp only [execOp, ho, Sem.run_bind, hr, Result.andThen_ok]; rfl

theorem Rel.chg {b p : Nat} {us : List Value} (r : Rel C E s h a w) {u : Nat} (hu : (lookO h u).isSome = true) (hb : E.F u b) : Chg C w (w.setCells b p us) :=
  ⟨setCells_shape b us p w, fun x hx hx0 => setCells_blk us p w (by
    rintro rfl
    rcases (r.Fin u hu x hb).2.1 with h1 | h1
    · omega
    · exact hx0 h1)⟩

theorem undef_VR (g : Nat → Option Ob) : VR w E g (.tup []) undef := ⟨[], rfl, rfl⟩

/-- A store into an object of few elements. -/
theorem store_arr {u j f sz : Nat} {els : List (List Vm.V)} {cs xs : List Vm.V} {us : List Value} {b p : Nat} (r : Rel C E s h a w) (hd : ∀ d, o.dst = some d → d < C.nt) (eo : lookO h u = some (.arr true sz els)) (hγ : E.γ u = some (b, p))
    (ec : els[j]? = some cs) (hxs : VRs w E (lookO h) xs us) (hx1 : ∀ y ∈ us, y.oneCell' = true) (hle : f + xs.length ≤ cs.length)
    (hk : K (Vm.put o.dst (.tup []) s) ((u, some (.arr true sz (els.set j (cs.take f ++ xs ++ cs.drop (f + xs.length))))) :: h)) :
    (∀ k, k < us.length → (∃ y, w.cell? ⟨b, p + (j * sz + f) + k, none⟩ = some y) ∧ w.frozen? ⟨b, p + (j * sz + f) + k, none⟩ = false) ∧
    Post C K (a.put o.dst undef) (w.setCells b (p + (j * sz + f)) us) := by
  have hts : (lookO h u).isSome = true := by rw [eo]; rfl
  obtain ⟨a0, b', p', a1, a2, a3, ⟨vals, a4, a5⟩, a6⟩ := r.ob u _ eo
  rw [hγ] at a1; cases a1
  have hj : j < els.length := by
    rcases Nat.lt_or_ge j els.length with h1 | h1
    · exact h1
    · rw [List.getElem?_eq_none h1] at ec; cases ec
  have hcl : cs.length = sz := a3 cs (List.mem_of_getElem? ec)
  have hcs : els.getD j [] = cs := by simp [List.getD_eq_getElem?_getD, ec]
  have hul : xs.length = us.length := hxs.length
  have hbF : E.F u b := (a6.1 b).2 rfl
  refine ⟨fun k hk => ⟨⟨_, by have := a4 j (f + k) hj (by omega); rwa [← Nat.add_assoc (j * sz), ← Nat.add_assoc] at this⟩, ?_⟩, ?_⟩
  · have := a6.2 (j * sz + (f + k)) (idx_lt hj (by omega))
    rwa [← Nat.add_assoc (j * sz), ← Nat.add_assoc] at this
  · obtain ⟨r1, tr1⟩ := r.hs.drop u
    have hB : ∀ x, (w.setCells b (p + (j * sz + f)) us).heap[x]? = w.heap[x]? ∨ ¬ E.R x ∧ ∀ v, (lookO ((u, none) :: h) v).isSome = true → ¬ E.F v x := by
      intro x
      by_cases e : x = b
      · subst e; exact .inr ⟨(r.hs.blk hts hbF).2, (r.hs.blk hts hbF).1⟩
      · exact .inl (setCells_blk us _ w e)
    obtain ⟨harr, hfr, hsub⟩ := back_harr r1 tr1 hB
    have hchg := r.chg (b := b) (p := p + (j * sz + f)) (us := us) hts hbF
    have r1' := r1.frame hchg.shape hfr
    have hlen : (els.set j (cs.take f ++ xs ++ cs.drop (f + xs.length))).length = els.length := by simp
    have hnl : (cs.take f ++ xs ++ cs.drop (f + xs.length)).length = sz := by simp; omega
    have hsubA : ∀ m, Sub E (lookO h) (E.set u (E.γ u) (fun x => x = b)) (lookO ((u, some (.arr true sz (els.set j (cs.take f ++ xs ++ cs.drop (f + xs.length))))) :: (u, none) :: h)) m := by
      intro m o' ho'
      rw [lookO_cons] at ho'
      split at ho'
      · rename_i e; subst e; cases ho'
        exact ⟨_, eo, rfl, by simp [Ob.len], id, Env.set_γ _ _ _ _⟩
      · rename_i e
        obtain ⟨o2, g1, g2, g3, g4, g5⟩ := hsub m (Ne.symm e) o' ho'
        exact ⟨o2, g1, g2, g3, g4, by rw [Env.set_γ' _ _ _ (Ne.symm e)]⟩
    have hfresh : Fresh C (w.setCells b (p + (j * sz + f)) us) E ((u, none) :: (u, none) :: h) (fun x => x = b) := by
      rintro x rfl
      refine ⟨by rw [setCells_size]; exact a2, okW (r.Fin u hts x hbF) hchg.shape, (r.hs.blk hts hbF).2, fun v hv => (r.hs.blk hts hbF).1 v (lookO_drop hv)⟩
    have hob : ObR (w.setCells b (p + (j * sz + f)) us) (E.set u (E.γ u) (fun x => x = b)) (lookO ((u, some (.arr true sz (els.set j (cs.take f ++ xs ++ cs.drop (f + xs.length))))) :: (u, none) :: h)) u
        (.arr true sz (els.set j (cs.take f ++ xs ++ cs.drop (f + xs.length)))) := by
      refine ⟨by rw [hlen]; exact a0, b, p, by rw [Env.set_γ]; exact hγ, by rw [setCells_size]; exact a2, fun e he => ?_, ⟨setVals j f us vals, by rw [hlen]; exact setCells_row a4 hj (by omega), fun i g hi hg => ?_⟩, fun x => Env.set_F _ _ _ _ x, fun k hk => ?_⟩
      · rcases List.mem_or_eq_of_mem_set he with he | rfl
        · exact a3 e he
        · exact hnl
      · rw [hlen] at hi
        unfold setVals
        by_cases e : i = j
        · subst e
          have e2 : (els.set i (cs.take f ++ xs ++ cs.drop (f + xs.length))).getD i [] = cs.take f ++ xs ++ cs.drop (f + xs.length) := by simp [List.getD_eq_getElem?_getD, hj]
          rw [e2, splice_at hle]
          by_cases e3 : f ≤ g ∧ g < f + xs.length
          · rw [if_pos e3, if_pos ⟨rfl, by omega, by omega⟩]
            obtain ⟨y, hy, hv⟩ := hxs.get (g - f) (by omega)
            have e1 : us.getD (g - f) undef = y := by rw [List.getD_eq_getElem?_getD, hy]; rfl
            rw [e1]
            exact ⟨VR.mono hchg.shape _ _ (fun m _ => hsubA m) hv, hx1 y (List.mem_of_getElem? hy)⟩
          · rw [if_neg e3, if_neg (by omega)]
            have := a5 i g hi hg
            rw [hcs] at this
            exact ⟨VR.mono hchg.shape _ _ (fun m _ => hsubA m) this.1, this.2⟩
        · rw [if_neg (by omega)]
          have e2 : (els.set j (cs.take f ++ xs ++ cs.drop (f + xs.length))).getD i [] = els.getD i [] := by simp [List.getD_eq_getElem?_getD, List.getElem?_set, Ne.symm e]
          rw [e2]
          have := a5 i g hi hg
          exact ⟨VR.mono hchg.shape _ _ (fun m _ => hsubA m) this.1, this.2⟩
      · rw [hlen] at hk; rw [World.frozen?_setCells]; exact a6.2 k hk
    have hs := r.hs.back (o := .arr true sz (els.set j (cs.take f ++ xs ++ cs.drop (f + xs.length)))) r1' hchg.shape eo rfl (by simp [Ob.len]) id harr hfresh hob
    have hs' := hs.look (lookO_twice u _ none h)
    exact ⟨_, _, _, r.putW hchg hs' hd (.inr (undef_VR _)) (fun n m _ => by rw [← lookO_twice u _ none h]; exact hsubA m), hk⟩

/-- A store into the element of one's own row that is laid open. -/
theorem store_foc {u j f sz : Nat} {α : Type} {enc : α → List D} {l : List α} {cs xs : List Vm.V} {us : List Value} {b p : Nat} (r : Rel C E s h a w) (hd : ∀ d, o.dst = some d → d < C.nt) (eo : lookO h u = some (.foc sz enc l j cs)) (hγ : E.γ u = some (b, p))
    (hxs : VRs w E (lookO h) xs us) (hx1 : ∀ y ∈ us, y.oneCell' = true) (hle : f + xs.length ≤ cs.length)
    (hk : K (Vm.put o.dst (.tup []) s) ((u, some (.foc sz enc l j (cs.take f ++ xs ++ cs.drop (f + xs.length)))) :: h)) :
    (∀ k, k < us.length → (∃ y, w.cell? ⟨b, p + (j * sz + f) + k, none⟩ = some y) ∧ w.frozen? ⟨b, p + (j * sz + f) + k, none⟩ = false) ∧
    Post C K (a.put o.dst undef) (w.setCells b (p + (j * sz + f)) us) := by
  have hts : (lookO h u).isSome = true := by rw [eo]; rfl
  obtain ⟨hz, a0, hj, hcl, b', p', a1, a2, vals, a4, a5, G, g1, g2, g3, g4, g5⟩ := r.ob u _ eo
  rw [hγ] at a1; cases a1
  have hul : xs.length = us.length := hxs.length
  have hbF : E.F u b := (g4 b).2 (.inl rfl)
  refine ⟨fun k hk => ⟨⟨_, by have := a4 j (f + k) hj (by omega); rwa [← Nat.add_assoc (j * sz), ← Nat.add_assoc] at this⟩, ?_⟩, ?_⟩
  · have := g5 (j * sz + (f + k)) (idx_lt hj (by omega))
    rwa [← Nat.add_assoc (j * sz), ← Nat.add_assoc] at this
  · obtain ⟨r1, tr1⟩ := r.hs.drop u
    have hB : ∀ x, (w.setCells b (p + (j * sz + f)) us).heap[x]? = w.heap[x]? ∨ ¬ E.R x ∧ ∀ v, (lookO ((u, none) :: h) v).isSome = true → ¬ E.F v x := by
      intro x
      by_cases e : x = b
      · subst e; exact .inr ⟨(r.hs.blk hts hbF).2, (r.hs.blk hts hbF).1⟩
      · exact .inl (setCells_blk us _ w e)
    obtain ⟨harr, hfr, hsub⟩ := back_harr r1 tr1 hB
    have hchg := r.chg (b := b) (p := p + (j * sz + f)) (us := us) hts hbF
    have r1' := r1.frame hchg.shape hfr
    have hnl : (cs.take f ++ xs ++ cs.drop (f + xs.length)).length = sz := by simp; omega
    have hsubA : ∀ m, Sub E (lookO h) (E.set u (E.γ u) (E.F u)) (lookO ((u, some (.foc sz enc l j (cs.take f ++ xs ++ cs.drop (f + xs.length)))) :: (u, none) :: h)) m := by
      intro m o' ho'
      rw [lookO_cons] at ho'
      split at ho'
      · rename_i e; subst e; cases ho'
        exact ⟨_, eo, rfl, rfl, id, Env.set_γ _ _ _ _⟩
      · rename_i e
        obtain ⟨o2, g1, g2, g3, g4, g5⟩ := hsub m (Ne.symm e) o' ho'
        exact ⟨o2, g1, g2, g3, g4, by rw [Env.set_γ' _ _ _ (Ne.symm e)]⟩
    have hfresh : Fresh C (w.setCells b (p + (j * sz + f)) us) E ((u, none) :: (u, none) :: h) (E.F u) := by
      intro x hx
      refine ⟨by rw [setCells_size]; exact (r.Fin u hts x hx).1, okW (r.Fin u hts x hx) hchg.shape, (r.hs.blk hts hx).2, fun v hv => (r.hs.blk hts hx).1 v (lookO_drop hv)⟩
    have hKb : ∀ x, E.Kp x → x ≠ b := by rintro x hx rfl; exact (r.hs.blk hts hbF).2 (r.hs.KR x hx)
    have hob : ObR (w.setCells b (p + (j * sz + f)) us) (E.set u (E.γ u) (E.F u)) (lookO ((u, some (.foc sz enc l j (cs.take f ++ xs ++ cs.drop (f + xs.length)))) :: (u, none) :: h)) u
        (.foc sz enc l j (cs.take f ++ xs ++ cs.drop (f + xs.length))) := by
      refine ⟨hz, a0, hj, hnl, b, p, by rw [Env.set_γ]; exact hγ, by rw [setCells_size]; exact a2, setVals j f us vals, setCells_row a4 hj (by omega), fun g hg => ?_, G, fun i g hi hg hne => ?_, g2, g3, fun x => (Env.set_F _ _ _ _ x).trans (g4 x), fun k hk => by rw [World.frozen?_setCells]; exact g5 k hk⟩
      · unfold setVals
        rw [splice_at hle]
        by_cases e3 : f ≤ g ∧ g < f + xs.length
        · rw [if_pos e3, if_pos ⟨rfl, by omega, by omega⟩]
          obtain ⟨y, hy, hv⟩ := hxs.get (g - f) (by omega)
          have e1 : us.getD (g - f) undef = y := by rw [List.getD_eq_getElem?_getD, hy]; rfl
          rw [e1]
          exact ⟨VR.mono hchg.shape _ _ (fun m _ => hsubA m) hv, hx1 y (List.mem_of_getElem? hy)⟩
        · rw [if_neg e3, if_neg (by omega)]
          have := a5 g hg
          exact ⟨VR.mono hchg.shape _ _ (fun m _ => hsubA m) this.1, this.2⟩
      · unfold setVals
        rw [if_neg (by omega)]
        exact (g1 i g hi hg hne).frame (fun x hx => setCells_blk us _ w (by rintro rfl; exact g3 i g hi hg hne hx)) fun x hx => setCells_blk us _ w (hKb x hx)
    have hs := r.hs.back (o := .foc sz enc l j (cs.take f ++ xs ++ cs.drop (f + xs.length))) r1' hchg.shape eo rfl rfl id harr hfresh hob
    have hs2 := hs.look (lookO_twice u _ _ h)
    exact ⟨_, _, _, r.putW hchg hs2 hd (.inr (undef_VR _)) (fun n m _ => by have := hsubA m; rwa [lookO_twice] at this), hk⟩

/-- A store into an element of a row. -/
theorem store_row {u j f sz : Nat} {α : Type} {enc : α → List D} {l : List α} {y y' : α} {k : Kind} {ds : List D} {h1 : Hp} {G : Nat → Nat → Prop} {us : List Value} {b p : Nat} {own : Bool} (r : Rel C E s h a w) (hd : ∀ d, o.dst = some d → d < C.nt)
    (eo : lookO h u = some (.row k sz enc l)) (hkk : k = ownKind own) (hγ : E.γ u = some (b, p)) (ey : l[j]? = some y)
    (mv : Mv C w E ((u, none) :: h) E1 h1 (fun x => ∃ i, i < us.length ∧ G i x)) (hdl : ds.length = us.length) (hmv : ∀ i, i < us.length → MvD own w E1 (G i) (us.getD i undef) (ds.getD i .dead))
    (hdis : ∀ i j, i < us.length → j < us.length → i ≠ j → ∀ x, G i x → ¬ G j x)
    (hle : f + ds.length ≤ (enc y).length) (hy' : enc y' = (enc y).take f ++ ds ++ (enc y).drop (f + ds.length))
    (hk : K (Vm.put o.dst (.tup []) s) ((u, some (.row k sz enc (l.set j y'))) :: h1)) :
    Post C K (a.put o.dst undef) (w.setCells b (p + (j * sz + f)) us) := by
  have hts : (lookO h u).isSome = true := by rw [eo]; rfl
  obtain ⟨hz, hm, h3⟩ := r.ob u _ eo
  rw [hγ] at h3
  obtain ⟨hb, vals, hv, h4⟩ := h3
  have hj : j < l.length := by
    rcases Nat.lt_or_ge j l.length with h1 | h1
    · exact h1
    · rw [List.getElem?_eq_none h1] at ey; cases ey
  rw [hz] at hle
  have hbF : E.F u b := by
    subst hkk
    cases own with
    | true => obtain ⟨G0, _, _, _, hF, _⟩ := h4; exact (hF b).2 (.inl rfl)
    | false => exact (h4.2.1 b).2 rfl
  have hown : Ob.own (.row k sz enc l) = true := by subst hkk; cases own <;> rfl
  obtain ⟨r1, tr1⟩ := r.hs.drop u
  have tr := tr1.trans mv.tr
  have hnot : ∀ x, E.F u x → ¬ E1.R x ∧ ∀ v, (lookO h1 v).isSome = true → ¬ E1.F v x := by
    intro x hx
    refine ⟨fun hR => ?_, fun v hv hF => (r.hs.blk hts hx).1 v ((mv.tr.sub v).some hv) (mv.tr.F v x hv hF)⟩
    rcases mv.tr.Rn x hR with h5 | ⟨v, h5, h6⟩
    · exact (r.hs.blk hts hx).2 h5
    · exact (r.hs.blk hts hx).1 v h5 h6
  have hB : ∀ x, (w.setCells b (p + (j * sz + f)) us).heap[x]? = w.heap[x]? ∨ ¬ E1.R x ∧ ∀ v, (lookO h1 v).isSome = true → ¬ E1.F v x := by
    intro x
    by_cases e : x = b
    · subst e; exact .inr (hnot x hbF)
    · exact .inl (setCells_blk us _ w e)
  obtain ⟨harr, hfr, hsub⟩ := back_harr (t := u) mv.hs tr hB
  have hchg := r.chg (b := b) (p := p + (j * sz + f)) (us := us) hts hbF
  have r1' := mv.hs.frame hchg.shape hfr
  have hGb : ∀ i, i < us.length → ∀ x, G i x → x ≠ b := by
    rintro i hi x hx rfl
    obtain ⟨t, ht, hF⟩ := mv.src x ⟨i, hi, hx⟩
    exact (r.hs.blk hts hbF).1 t ht hF
  have hGu : ∀ i, i < us.length → ∀ x, G i x → ¬ E.F u x := by
    intro i hi x hx hF
    obtain ⟨t, ht, hF'⟩ := mv.src x ⟨i, hi, hx⟩
    exact (r.hs.blk hts hF).1 t ht hF'
  have hdat : ∀ i g, i < l.length → g < sz → dat enc (l.set j y') i g = if i = j ∧ f ≤ g ∧ g < f + us.length then ds.getD (g - f) .dead else dat enc l i g := by
    intro i g hi hg
    unfold dat
    by_cases e : i = j
    · subst e
      rw [List.getElem?_set_self hj, ey]
      simp only []
      rw [hy', splice_at (by rw [hz]; exact hle), hdl]
      simp
    · rw [List.getElem?_set_ne (Ne.symm e), if_neg (by omega)]
  have hrow := setCells_row (f := f) (us := us) hv hj (by omega)
  have hsubA : ∀ F m, Sub E (lookO h) (E1.set u (E.γ u) F) (lookO ((u, some (.row k sz enc (l.set j y'))) :: h1)) m := by
    intro F m o' ho'
    rw [lookO_cons] at ho'
    split at ho'
    · rename_i e; subst e; cases ho'
      exact ⟨_, eo, rfl, by simp [Ob.len], fun _ => hown, Env.set_γ _ _ _ _⟩
    · rename_i e
      obtain ⟨o2, g1, g2, g3, g4, g5⟩ := hsub m (Ne.symm e) o' ho'
      exact ⟨o2, g1, g2, g3, g4, by rw [Env.set_γ' _ _ _ (Ne.symm e)]; exact g5⟩
  have done : ∀ F : Nat → Prop, Fresh C (w.setCells b (p + (j * sz + f)) us) E1 ((u, none) :: h1) F →
      ObR (w.setCells b (p + (j * sz + f)) us) (E1.set u (E.γ u) F) (lookO ((u, some (.row k sz enc (l.set j y'))) :: h1)) u (.row k sz enc (l.set j y')) → Post C K (a.put o.dst undef) (w.setCells b (p + (j * sz + f)) us) := by
    intro F hF hob
    have hs := r.hs.back (o := .row k sz enc (l.set j y')) r1' hchg.shape eo rfl (by simp [Ob.len]) (fun _ => hown) harr hF hob
    exact ⟨_, _, _, r.putW hchg hs hd (.inr (undef_VR _)) (fun n m _ => hsubA F m), hk⟩
  have hbfresh : ∀ x, E.F u x → x < (w.setCells b (p + (j * sz + f)) us).heap.size ∧ (C.ok x ∧ Cl (w.setCells b (p + (j * sz + f)) us) x) ∧ ¬ E1.R x ∧ ∀ v, (lookO ((u, none) :: h1) v).isSome = true → ¬ E1.F v x := fun x hx =>
    ⟨by rw [setCells_size]; exact (r.Fin u hts x hx).1, okW (r.Fin u hts x hx) hchg.shape, (hnot x hx).1, fun v hv => (hnot x hx).2 v (lookO_drop hv)⟩
  cases own with
  | false =>
    subst hkk
    refine done (fun x => x = b) (by rintro x rfl; exact hbfresh x hbF) ⟨hz, by rw [List.length_set]; exact hm, ?_⟩
    rw [Env.set_γ, hγ]
    refine ⟨by rw [setCells_size]; exact hb, _, by rw [List.length_set]; exact hrow, fun i g hi hg => ?_, fun x => Env.set_F _ _ _ _ x, fun k hk => by rw [List.length_set] at hk; rw [World.frozen?_setCells]; exact h4.2.2 k hk⟩
    rw [List.length_set] at hi
    rw [hdat i g hi hg]
    have hKb : ∀ x, E1.Kp x → x ≠ b := by rintro x hx rfl; exact (hnot x hbF).1 (mv.hs.KR x hx)
    unfold setVals
    by_cases e : i = j ∧ f ≤ g ∧ g < f + us.length
    · rw [if_pos e, if_pos e]
      exact (hmv (g - f) (by omega)).1.frame fun x hx => setCells_blk us _ w (hKb x hx)
    · rw [if_neg e, if_neg e]
      exact ((h4.1 i g hi hg).mono fun x hx => tr.K x hx).frame fun x hx => setCells_blk us _ w (hKb x hx)
  | true =>
    subst hkk
    obtain ⟨G0, q1, q2, q3, q4, q5⟩ := h4
    have hKb : ∀ x, E1.Kp x → x ≠ b := by rintro x hx rfl; exact (hnot x hbF).1 (mv.hs.KR x hx)
    let G' : Nat → Nat → Nat → Prop := fun i g => if i = j ∧ f ≤ g ∧ g < f + us.length then G (g - f) else G0 i g
    have hG0u : ∀ i g, i < l.length → g < sz → ∀ x, G0 i g x → E.F u x := fun i g hi hg x hx => (q4 x).2 (.inr ⟨i, g, hi, hg, hx⟩)
    have hG' : ∀ i g, (i = j ∧ f ≤ g ∧ g < f + us.length ∧ G' i g = G (g - f)) ∨ (¬ (i = j ∧ f ≤ g ∧ g < f + us.length) ∧ G' i g = G0 i g) := by
      intro i g
      by_cases e : i = j ∧ f ≤ g ∧ g < f + us.length
      · exact .inl ⟨e.1, e.2.1, e.2.2, if_pos e⟩
      · exact .inr ⟨e, if_neg e⟩
    refine done (fun x => x = b ∨ ∃ i g, i < l.length ∧ g < sz ∧ G' i g x) ?_ ⟨hz, by rw [List.length_set]; exact hm, ?_⟩
    · rintro x (rfl | ⟨i, g, hi, hg, hx⟩)
      · exact hbfresh x hbF
      · rcases hG' i g with ⟨e1, e2, e3, e4⟩ | ⟨e1, e2⟩
        · rw [e4] at hx
          have hFd : ∃ i, i < us.length ∧ G i x := ⟨g - f, by omega, hx⟩
          obtain ⟨t, ht, hF⟩ := mv.src x hFd
          have := r1.Fin t ht x hF
          exact ⟨by rw [setCells_size]; exact this.1, okW this hchg.shape, mv.disR x hFd, fun v hv hF => mv.disF v (lookO_drop hv) x hF hFd⟩
        · rw [e2] at hx; exact hbfresh x (hG0u i g hi hg x hx)
    · rw [Env.set_γ, hγ]
      refine ⟨by rw [setCells_size]; exact hb, _, by rw [List.length_set]; exact hrow, G', fun i g hi hg => ?_, fun i g i' g' hi hg hi' hg' hne x hx hx' => ?_, fun i g hi hg hx => ?_, fun x => by rw [Env.set_F, List.length_set], fun k hk => by rw [List.length_set] at hk; rw [World.frozen?_setCells]; exact q5 k hk⟩
      · rw [List.length_set] at hi
        rw [hdat i g hi hg]
        unfold setVals
        rcases hG' i g with ⟨e1, e2, e3, e4⟩ | ⟨e1, e2⟩
        · rw [if_pos ⟨e1, e2, e3⟩, if_pos ⟨e1, e2, e3⟩, e4]
          have := hmv (g - f) (by omega)
          exact Own.frame this (fun x hx => setCells_blk us _ w (hGb (g - f) (by omega) x hx)) fun x hx => setCells_blk us _ w (hKb x hx)
        · rw [if_neg e1, if_neg e1, e2]
          exact ((q1 i g hi hg).mono tr.K).frame (fun x hx => setCells_blk us _ w (by rintro rfl; exact q3 i g hi hg hx)) fun x hx => setCells_blk us _ w (hKb x hx)
      · rw [List.length_set] at hi hi'
        rcases hG' i g with ⟨e1, e2, e3, e4⟩ | ⟨e1, e2⟩ <;> rcases hG' i' g' with ⟨d1, d2, d3, d4⟩ | ⟨d1, d2⟩
        · rw [e4] at hx; rw [d4] at hx'; exact hdis (g - f) (g' - f) (by omega) (by omega) (by omega) x hx hx'
        · rw [e4] at hx; rw [d2] at hx'; exact hGu (g - f) (by omega) x hx (hG0u i' g' hi' hg' x hx')
        · rw [e2] at hx; rw [d4] at hx'; exact hGu (g' - f) (by omega) x hx' (hG0u i g hi hg x hx)
        · rw [e2] at hx; rw [d2] at hx'; exact q2 i g i' g' hi hg hi' hg' hne x hx hx'
      · rw [List.length_set] at hi
        rcases hG' i g with ⟨e1, e2, e3, e4⟩ | ⟨e1, e2⟩
        · rw [e4] at hx; exact hGb (g - f) (by omega) b hx rfl
        · rw [e2] at hx; exact q3 i g hi hg hx
end
end Go.Vm
