/- A verified evaluator for Go code: calls by a contract. -/
import Derived.Test.YtedffkngbjlgdaaGreatDoorVm5c
namespace Go.Vm
open Go.RowKit
set_option linter.unusedVariables false
set_option linter.unusedSimpArgs false

section
variable {P : Program} {T : Tab} {S : Cons} {C : Ctx} {E E1 : Env} {s : Sl} {h h1 : Hp} {a : Act} {w w' : World} {K : Sl → Hp → Prop} {Q : Exit → Act → World → Prop} {o : Oper} {v : Value}

theorem VRl.app {g : Nat → Option Ob} : ∀ {l m : List (Option Nat × Vm.V)} {vs us : List Value}, VRl w E g l vs → VRl w E g m us → VRl w E g (l ++ m) (vs ++ us)
  | [], m, [], us, h1, h2 => h2
  | (x, c) :: l, m, v :: vs, us, h1, h2 => ⟨h1.1, VRl.app h1.2 h2⟩
  | [], m, _ :: _, us, h1, h2 => h1.elim
  | (_, _) :: _, m, [], us, h1, h2 => h1.elim

theorem capV_ok {g : Nat → Option Ob} : ∀ {cs : List Vm.V} {us : List Value}, VRs w E g cs us → VRl w E g (capVals cs) us
  | [], us, h => by obtain rfl : us = [] := h; trivial
  | c :: cs, us, h => by
    obtain ⟨x, xs, rfl, h1, h2⟩ := h
    exact ⟨fun _ => h1, capV_ok h2⟩
theorem mem_capVals {cs : List Vm.V} {p : Option Nat × Vm.V} (h : p ∈ capVals cs) : p.2 ∈ cs := by
  induction cs with
  | nil => simp [capVals] at h
  | cons c cs ih =>
    simp only [capVals, List.mem_cons] at h
    rcases h with rfl | h
    · exact List.mem_cons_self ..
    · exact List.mem_cons_of_mem _ (ih h)

theorem mutsV_mem : ∀ {ps : List (Mode × Bool)} {l : List (Option Nat × Vm.V)} {p : Option Nat × Vm.V} {m : Nat}, p ∈ mutsV ps l → men m p.2 = true → ∃ q ∈ l, men m q.2 = true
  | [], l, p, m, h, hm => by simp [mutsV] at h
  | (k, g) :: ps, [], p, m, h, hm => by cases k <;> cases g <;> simp [mutsV] at h
  | (k, g) :: ps, v :: l, p, m, h, hm => by
    have rest : p ∈ mutsV ps l → ∃ q ∈ v :: l, men m q.2 = true := fun h => by
      obtain ⟨q, h1, h2⟩ := mutsV_mem h hm
      exact ⟨q, List.mem_cons_of_mem _ h1, h2⟩
    cases k with
    | «mut» =>
      cases g with
      | false =>
        simp only [mutsV, List.mem_cons] at h
        rcases h with rfl | h
        · exact ⟨p, List.mem_cons_self .., hm⟩
        · exact rest h
      | true =>
        simp only [mutsV, List.mem_append] at h
        rcases h with h | h
        · refine ⟨v, List.mem_cons_self .., ?_⟩
          obtain ⟨x, V⟩ := v
          cases V with
          | agg cs => exact mens_mem (mem_capVals h) hm
          | _ => simp [aggCs, capVals] at h
        · exact rest h
    | rd => exact rest (by cases g <;> exact h)
    | keep => exact rest (by cases g <;> exact h)
    | take => exact rest (by cases g <;> exact h)

theorem VRl.muts {g : Nat → Option Ob} : ∀ {ps : List (Mode × Bool)} {l : List (Option Nat × Vm.V)} {vs : List Value}, AggR ps l → VRl w E g l vs → VRl w E g (mutsV ps l) (mutsW ps vs)
  | [], l, vs, ha, h => by simp [mutsV, mutsW, VRl]
  | (m, b) :: ps, [], [], ha, h => by cases m <;> cases b <;> simp [mutsV, mutsW, VRl]
  | (m, b) :: ps, (x, c) :: l, v :: vs, ha, h => by
    have rest := VRl.muts (ps := ps) ha.2 h.2
    cases m with
    | «mut» =>
      cases b with
      | false => exact ⟨h.1, rest⟩
      | true =>
        obtain ⟨cs, e⟩ := ha.1 rfl
        obtain rfl : c = .agg cs := e
        obtain ⟨us, rfl, h2, _⟩ := h.1 (by simp)
        exact (capV_ok h2).app rest
    | rd => cases b <;> exact rest
    | keep => cases b <;> exact rest
    | take => cases b <;> exact rest
  | _ :: _, [], _ :: _, ha, h => h.elim
  | _ :: _, (_, _) :: _, [], ha, h => h.elim

theorem VRl.relab {g : Nat → Option Ob} : ∀ {l : List (Option Nat × Vm.V)} {vs : List Value} {b : Nat}, VRl w E g l vs → VRl w E g (relab b l) vs
  | [], [], _, _ => trivial
  | (some _, c) :: l, v :: vs, _, h => ⟨h.1, VRl.relab h.2⟩
  | (none, c) :: l, v :: vs, _, h => ⟨h.1, VRl.relab h.2⟩
  | [], _ :: _, _, h => h.elim
  | (some _, _) :: _, [], _, h => h.elim
  | (none, _) :: _, [], _, h => h.elim
theorem relab_mem : ∀ {l : List (Option Nat × Vm.V)} {b : Nat} {p : Option Nat × Vm.V}, p ∈ relab b l → ∃ q ∈ l, p.2 = q.2
  | [], _, p, h => by cases h
  | (some _, c) :: l, b, p, h => by
    simp only [Vm.relab, List.mem_cons] at h
    rcases h with rfl | h
    · exact ⟨_, List.mem_cons_self .., rfl⟩
    · obtain ⟨q, h1, h2⟩ := relab_mem h; exact ⟨q, List.mem_cons_of_mem _ h1, h2⟩
  | (none, c) :: l, b, p, h => by
    simp only [Vm.relab, List.mem_cons] at h
    rcases h with rfl | h
    · exact ⟨_, List.mem_cons_self .., rfl⟩
    · obtain ⟨q, h1, h2⟩ := relab_mem h; exact ⟨q, List.mem_cons_of_mem _ h1, h2⟩

theorem argVals_ok (r : Rel C E s h a w) : ∀ (l : List Operand), VRl w E (lookO h) (argVals (val s) l) (l.map a.eval)
  | [] => trivial
  | x :: l => ⟨fun hx => r.vr hx, argVals_ok r l⟩
theorem capVals_ok {g : Nat → Option Ob} : ∀ {cs : List Vm.V} {us : List Value}, VRs w E g cs us → VRl w E g (capVals cs) us
  | [], us, h => by obtain rfl : us = [] := h; trivial
  | c :: cs, us, h => by
    obtain ⟨x, xs, rfl, h1, h2⟩ := h
    exact ⟨fun _ => h1, capVals_ok h2⟩

theorem val_men {x : Operand} {m : Nat} (hm : men m (val s x) = true) : ∃ n, men m (look s n) = true := by
  cases x with
  | tmp t =>
    simp only [val] at hm
    split at hm
    · simp [men] at hm
    · exact ⟨t, hm⟩
  | func f => simp [val, men, mens] at hm
  | global g => simp [val, men] at hm
  | const v =>
    simp only [val] at hm
    cases v with
    | agg cs =>
      simp only [ofVal] at hm
      split at hm
      · simp only [Go.Vm.men] at hm
        rw [mens_lf] at hm; cases hm
      · simp [men] at hm
    | tuple cs => simp [ofVal, men] at hm
    | _ => simp only [ofVal] at hm; split at hm <;> simp [men] at hm

theorem args_men {caps : List Vm.V} {n : Nat} {f : Operand} (hf : val s f = .fn n caps) {l : List Operand} {p : Option Nat × Vm.V} (hp : p ∈ argVals (val s) l ++ capVals caps) {m : Nat} (hm : men m p.2 = true) : ∃ n, men m (look s n) = true := by
  rcases List.mem_append.1 hp with hp | hp
  · induction l with
    | nil => simp [argVals] at hp
    | cons x l ih =>
      simp only [argVals, List.mem_cons] at hp
      rcases hp with rfl | hp
      · exact val_men hm
      · exact ih (by simp [hp]) hp
  · have : men m (val s f) = true := by
      rw [hf]
      show mens m caps = true
      clear hf
      induction caps with
      | nil => simp [capVals] at hp
      | cons c cs ih =>
        simp only [capVals, List.mem_cons] at hp
        rcases hp with rfl | hp
        · simp only [mens, hm]
        · simp only [mens, ih (by simp [hp]) hp]; split <;> rfl
    exact val_men this

/-- A call by its value. -/
theorem run_callee {c : Call} {fo : Operand} {f : FuncId} {us : List Value} (ho : o.op = .call c) (hc : c.callee = .value fo) (hf : a.eval fo = .func (.func f) #[] us.toArray) :
    (execOp a.eval o).run P w = (callFunc f (c.args.toList.map a.eval ++ us).toArray).run P w := by
  simp only [execOp, ho, resolve, hc, hf, Deferred.ofValue, Sem.run_bind, Sem.run_pure, Result.andThen_ok, invoke]
  congr 2
  apply Array.ext'
  simp

theorem wp_does {c : Call} {fo : Operand} {f : FuncId} {us : List Value} {R : Value → World → Prop} (ho : o.op = .call c) (hc : c.callee = .value fo) (hf : a.eval fo = .func (.func f) #[] us.toArray)
    (hd : Does P f (c.args.toList.map a.eval ++ us) w R) (hk : ∀ v w', R v w' → Post C K (a.put o.dst v) w') : o.wp P a w (Post C K) Q := by
  have hr := run_callee (P := P) (w := w) ho hc hf
  rcases hd with ⟨fn, h1, h2, h3, h4⟩ | ⟨v, w', h1, h2⟩
  · have hb : (callFunc f (c.args.toList.map a.eval ++ us).toArray).run P w = .ok (.enter f (c.args.toList.map a.eval ++ us).toArray) w := by
      have h2' : fn.name ≠ "runtime.NumGoroutine" := by simpa using h2
      have h3' : fn.body ≠ none := by intro e; rw [e] at h3; cases h3
      simp only [callFunc]
      simp [h1, h2', h3']
    unfold Oper.wp
    rw [hr, hb, Oper.upon_enter]
    refine h4.mono fun e w' he => ?_
    obtain ⟨v, rfl, hv⟩ := he
    exact hk v w' hv
  · exact wp_val (hr.trans h1) (hk v w' h2)

theorem resKind_ok {own : Bool} {K : Kind → Prop} (h : resKind own K) : K (resK' own) := by cases own <;> exact h

theorem op_callC {c : Call} {fo : Operand} (hS : SOk P S) (r : Rel C E s h a w) (hd : ∀ d, o.dst = some d → d < C.nt) (ho : o.op = .call c) (hc : c.callee = .value fo) {n : Nat} {caps : List Vm.V} (hf : val s fo = .fn n caps)
    (hk : con S n fun cc => callC cc (relab (labB o.dst c.args.toList) (appV (argVals (val s) c.args.toList) (capVals caps))) o.dst s h K) : o.wp P a w (Post C K) Q := by
  have hfv := r.vr (x := fo) (by rw [hf]; simp)
  rw [hf] at hfv
  obtain ⟨us, hfe, hcaps, _⟩ := hfv
  obtain ⟨cc, hok, hk⟩ := con_ok hS hk
  unfold callC at hk
  rw [appV_eq] at hk
  obtain ⟨dss, h1, E1, Fs, ts, ⟨x, hx, hk⟩, mv, hD, hA, hT, hagg⟩ := argsK_sound cc.params _ (c.args.toList.map a.eval ++ us) E h _ r.hs ((argVals_ok r _).app (capVals_ok hcaps)).relab hk
  subst hx
  refine wp_does ho hc hfe (hok x w _ (Rd E1 (lookO h1)) E1.Kp Fs hA hD (fun y hy => ⟨fun hR => ?_, by obtain ⟨t, ht, hF⟩ := mv.src y hy; exact (r.Fin t ht y hF).2.2⟩) (fun y hy => .inl (mv.hs.KR y hy)) (fun y hy => ?_)) fun v w' hout => ?_
  · rcases hR with hR | ⟨u, hu, hR⟩
    · exact mv.disR y hy hR
    · exact mv.disF u hu y hR hy
  · rcases hy with hy | ⟨u, hu, hy⟩
    · exact mv.hs.Rlt y hy
    · exact (mv.hs.Fin u hu y hy).1
  · obtain ⟨outs, res, N, rs, Hs', Os, ou⟩ := hout
    have hk := hk outs res ou.post
    have hsrc : ∀ y, AnyF Fs y → y < w.heap.size ∧ C.ok y ∧ Cl w y := by
      intro y hy
      obtain ⟨t, ht, hF⟩ := mv.src y hy
      exact r.Fin t ht y hF
    have hok' : ∀ y, w.heap.size ≤ y ∨ AnyF Fs y → C.ok y := fun y hy => hy.elim (fun h => .inl (Nat.le_trans r.shape.size h)) (fun h => (hsrc y h).2.1)
    have hnot : ∀ y, w.heap.size ≤ y ∨ AnyF Fs y → ¬ E1.R y ∧ ∀ u, (lookO h1 u).isSome = true → ¬ E1.F u y := by
      rintro y (hy | hy)
      · exact ⟨fun hR => Nat.lt_irrefl _ (Nat.lt_of_lt_of_le (mv.hs.Rlt y hR) hy), fun u hu hF => Nat.lt_irrefl _ (Nat.lt_of_lt_of_le (mv.hs.Fin u hu y hF).1 hy)⟩
      · exact ⟨mv.disR y hy, fun u hu hF => mv.disF u hu y hF hy⟩
    have hfr : ∀ b, E1.R b ∨ (∃ u, (lookO h1 u).isSome = true ∧ E1.F u b) → w'.heap[b]? = w.heap[b]? := by
      rintro b (hb | ⟨u, hu, hb⟩)
      · exact ou.frame b (mv.hs.Rlt b hb) (fun h => mv.disR b h hb)
      · exact ou.frame b (mv.hs.Fin u hu b hb).1 (fun h => mv.disF u hu b hb h)
    have hs1 := (mv.hs.frame ou.shape hfr).grow (N := N) (fun y hy => ⟨(ou.new y hy).1, hok' y (ou.new y hy).2, (hnot y (ou.new y hy).2).2⟩)
    have hB : Back C w' E h w s (fun _ => False) (E1.grow N) h1 := by
      refine ⟨hs1, fun m _ o' ho' => mv.tr.sub m o' ho', fun u oo hl => ?_, fun _ _ _ h => h⟩
      cases hc : isC oo with
      | false => exact .inl fun m hm => by rw [obMen_row hc m] at hm; cases hm
      | true =>
      refine .inr ?_
      have hl0 := mv.tr.arr u oo hl hc
      have hγ : E1.γ u = E.γ u := by
        obtain ⟨o', _, _, _, _, h5⟩ := mv.tr.sub u _ hl
        exact h5
      refine ⟨hl0, hγ, fun b p hb => hfr b ?_, fun _ _ h => h⟩
      cases oo with
      | row => cases hc
      | arr own sz els =>
        obtain ⟨_, b', p', c1, c2, _, _, c3⟩ := mv.hs.ob u _ hl
        rw [hγ, hb] at c1; cases c1
        cases own with
        | true => exact .inr ⟨u, by rw [hl]; rfl, (c3.1 b).2 rfl⟩
        | false => exact .inl c3.1
      | foc sz enc l q cs =>
        obtain ⟨_, _, _, _, b', p', c1, _, _, _, _, _, _, _, _, c3, _⟩ := mv.hs.ob u _ hl
        rw [hγ, hb] at c1; cases c1
        exact .inr ⟨u, by rw [hl]; rfl, (c3 b).2 (.inl rfl)⟩
    obtain ⟨hDH, hDO, hDHO⟩ := DisF_append.1 ou.dis
    have hfresh : ∀ F, (∀ y, F y → AnyF (Hs' ++ Os) y) → Fresh C w' (E1.grow N) h1 F := by
      intro F hF y hy
      obtain ⟨a1, a2, a3⟩ := ou.src y (hF y hy)
      exact ⟨a1, ⟨hok' y a3, ou.cl y (hF y hy)⟩, fun hR => hR.elim (hnot y a3).1 a2, (hnot y a3).2⟩
    obtain ⟨X', E3, h3, hk, hB3, hR3, hK3, hfr3⟩ := outs_sound r.hs ou.shape ts _ _ outs Os _ _ _ _ hB hT (fun p hp m hm => by obtain ⟨q, h1, h2⟩ := mutsV_mem hp hm; obtain ⟨q', h3, h4⟩ := relab_mem h1; exact args_men hf h3 (by rw [← h4]; exact h2)) (((argVals_ok r _).app (capVals_ok hcaps)).relab.muts hagg) ou.outs hDO
      (fun F hF => hfresh F (fun y hy => AnyF_append.2 (.inr ⟨F, hF, hy⟩))) hk
    have hchg : Chg C w w' := ⟨ou.shape, fun b hb hb0 => ou.frame b (Nat.lt_of_lt_of_le hb r.shape.size) (fun h => by
      rcases (hsrc b h).2.1 with h1 | h1
      · omega
      · exact hb0 h1)⟩
    cases hdst : o.dst with
    | none =>
      rw [hdst] at hk
      have := r.putW (dst := none) (V := .dead) (v := v) hchg hB3.hs (fun d hd => by cases hd) (.inl rfl) (fun n m hm => hB3.sub m (hB3.sl n m hm))
      exact ⟨_, _, _, this, hk⟩
    | some d =>
      obtain ⟨dn, hdn⟩ : ∃ dn : Nat, dn = d := ⟨d, rfl⟩
      subst hdn
      rw [hdst] at hk
      simp only [free] at hk
      split at hk
      · exact hk.elim
      · rename_i e2
        split at hk
        · exact hk.elim
        · rename_i e3
          have hno : ∀ m, 16 * dn ≤ m → m < 16 * dn + 16 → NoMen m h3 := fun m hm1 hm2 => by
            have hmd : m / 16 = dn := by omega
            exact noMen_of_ref (t := m) (by rw [hmd]; exact e3)
          obtain ⟨Vs, t', h4, hk, hle, hgood⟩ := resK_sound cc.resOwn (16 * dn + 16) cc.res res (16 * dn) E3 h3 rs Hs' _ hB3.hs hno (by rw [hK3]; exact ou.res) hDH
            (fun F hF => hfr3 F (hfresh F (fun y hy => AnyF_append.2 (.inl ⟨F, hF, hy⟩))) (fun y hy hy' => hDHO y ⟨F, hF, hy'⟩ hy)) (resKind_ok hk)
          split at hk
          · rename_i hble
            obtain ⟨E4, gd⟩ := hgood (Nat.le_of_ble_eq_true hble)
            have hput := r.putW (dst := some dn) (V := retV Vs) (v := v) hchg gd.hs (fun d' hd' => hd d' (by rw [hdst]; exact hd')) (.inr (retV_VR gd.vr ou.ret)) (fun n m hm => (hB3.sub m (hB3.sl n m hm)).trans (gd.add.sub m (by
              have : m / 16 ≠ dn := by
                intro e
                rw [men_of_slRef (t := m) (by rw [e]; exact e2) n] at hm; cases hm
              have := Nat.le_of_ble_eq_true hble
              omega)))
            exact ⟨_, _, _, hput, hk⟩
          · exact hk.elim
end
end Go.Vm
