/- A verified evaluator for Go code: calls by a contract. -/
import Derived.Test.YthoiahaedhnigaaVm5c
namespace Go.Vm
open Go.RowKit
set_option linter.unusedVariables false
set_option linter.unusedSimpArgs false

section
variable {P : Program} {T : Tab} {S : Cons} {C : Ctx} {E E1 : Env} {s : Sl} {h h1 : Hp} {a : Act} {w w' : World} {K : Sl → Hp → Prop} {Q : Exit → Act → World → Prop} {o : Oper} {v : Value}

theorem mutsOf_mem {β : Type _} : ∀ {ps : List (Mode × Bool)} {l : List β} {p : β}, p ∈ mutsOf ps l → p ∈ l
  | [], l, p, h => by simp [mutsOf] at h
  | (m, g) :: ps, [], p, h => by cases m <;> simp [mutsOf] at h
  | (m, g) :: ps, v :: l, p, h => by
    cases m with
    | «mut» =>
      simp only [mutsOf, List.mem_cons] at h
      rcases h with rfl | h
      · exact List.mem_cons_self ..
      · exact List.mem_cons_of_mem _ (mutsOf_mem h)
    | rd => exact List.mem_cons_of_mem _ (mutsOf_mem (ps := ps) h)
    | keep => exact List.mem_cons_of_mem _ (mutsOf_mem (ps := ps) h)
    | take => exact List.mem_cons_of_mem _ (mutsOf_mem (ps := ps) h)

theorem VRl.muts {g : Nat → Option Ob} : ∀ {ps : List (Mode × Bool)} {l : List (Option Nat × Vm.V)} {vs : List Value}, VRl w E g l vs → VRl w E g (mutsOf ps l) (mutsOf ps vs)
  | [], l, vs, h => by simp [mutsOf, VRl]
  | (m, b) :: ps, [], [], h => by cases m <;> simp [mutsOf, VRl]
  | (m, b) :: ps, (x, c) :: l, v :: vs, h => by
    cases m with
    | «mut» => exact ⟨h.1, VRl.muts h.2⟩
    | rd => exact VRl.muts (ps := ps) h.2
    | keep => exact VRl.muts (ps := ps) h.2
    | take => exact VRl.muts (ps := ps) h.2
  | _ :: _, [], _ :: _, h => h.elim
  | _ :: _, (_, _) :: _, [], h => h.elim

theorem VRl.app {g : Nat → Option Ob} : ∀ {l m : List (Option Nat × Vm.V)} {vs us : List Value}, VRl w E g l vs → VRl w E g m us → VRl w E g (l ++ m) (vs ++ us)
  | [], m, [], us, h1, h2 => h2
  | (x, c) :: l, m, v :: vs, us, h1, h2 => ⟨h1.1, VRl.app h1.2 h2⟩
  | [], m, _ :: _, us, h1, h2 => h1.elim
  | (_, _) :: _, m, [], us, h1, h2 => h1.elim

theorem argVals_ok (r : Rel C E s h a w) : ∀ (l : List Operand), VRl w E (lookO h) (argVals (val s) l) (l.map a.eval)
  | [] => trivial
  | x :: l => ⟨fun hx => r.vr hx, argVals_ok r l⟩
theorem capVals_ok {g : Nat → Option Ob} : ∀ {cs : List Vm.V} {us : List Value}, VRs w E g cs us → VRl w E g (capVals cs) us
  | [], us, h => by obtain rfl : us = [] := h; trivial
  | c :: cs, us, h => by
    obtain ⟨x, xs, rfl, h1, h2⟩ := h
    exact ⟨fun _ => h1, capVals_ok h2⟩

theorem val_men {x : Operand} {m : Nat} (hm : men m (val s x) = true) : ∃ n, men m (look s n) = true := by
  cases x with
  | tmp t =>
    simp only [val] at hm
    split at hm
    · simp [men] at hm
    · exact ⟨t, hm⟩
  | func f => simp [val, men, mens] at hm
  | global g => simp [val, men] at hm
  | const v =>
    simp only [val] at hm
    cases v with
    | agg cs =>
      simp only [ofVal] at hm
      split at hm
      · simp only [Go.Vm.men] at hm
        rw [mens_lf] at hm; cases hm
      · simp [men] at hm
    | tuple cs => simp [ofVal, men] at hm
    | _ => simp only [ofVal] at hm; split at hm <;> simp [men] at hm

theorem args_men {caps : List Vm.V} {n : Nat} {f : Operand} (hf : val s f = .fn n caps) {l : List Operand} {p : Option Nat × Vm.V} (hp : p ∈ argVals (val s) l ++ capVals caps) {m : Nat} (hm : men m p.2 = true) : ∃ n, men m (look s n) = true := by
  rcases List.mem_append.1 hp with hp | hp
  · induction l with
    | nil => simp [argVals] at hp
    | cons x l ih =>
      simp only [argVals, List.mem_cons] at hp
      rcases hp with rfl | hp
      · exact val_men hm
      · exact ih (by simp [hp]) hp
  · have : men m (val s f) = true := by
      rw [hf]
      show mens m caps = true
      clear hf
      induction caps with
      | nil => simp [capVals] at hp
      | cons c cs ih =>
        simp only [capVals, List.mem_cons] at hp
        rcases hp with rfl | hp
        · simp only [mens, hm]
        · simp only [mens, ih (by simp [hp]) hp]; split <;> rfl
    exact val_men this

/-- A call by its value. -/
theorem run_callee {c : Call} {fo : Operand} {f : FuncId} {us : List Value} (ho : o.op = .call c) (hc : c.callee = .value fo) (hf : a.eval fo = .func (.func f) #[] us.toArray) :
    (execOp a.eval o).run P w = (callFunc f (c.args.toList.map a.eval ++ us).toArray).run P w := by
  simp only [execOp, ho, resolve, hc, hf, Deferred.ofValue, Sem.run_bind, Sem.run_pure, Result.andThen_ok, invoke]
  congr 2
  apply Array.ext'
  simp

theorem wp_does {c : Call} {fo : Operand} {f : FuncId} {us : List Value} {R : Value → World → Prop} (ho : o.op = .call c) (hc : c.callee = .value fo) (hf : a.eval fo = .func (.func f) #[] us.toArray)
    (hd : Does P f (c.args.toList.map a.eval ++ us) w R) (hk : ∀ v w', R v w' → Post C K (a.put o.dst v) w') : o.wp P a w (Post C K) Q := by
  have hr := run_callee (P := P) (w := w) ho hc hf
  rcases hd with ⟨fn, h1, h2, h3, h4⟩ | ⟨v, w', h1, h2⟩
  · have hb : (callFunc f (c.args.toList.map a.eval ++ us).toArray).run P w = .ok (.enter f (c.args.toList.map a.eval ++ us).toArray) w := by
      have h2' : fn.name ≠ "runtime.NumGoroutine" := by simpa using h2
      have h3' : fn.body ≠ none := by intro e; rw [e] at h3; cases h3
      simp only [callFunc]
      simp [h1, h2', h3']
    unfold Oper.wp
    rw [hr, hb, Oper.upon_enter]
    refine h4.mono fun e w' he => ?_
    obtain ⟨v, rfl, hv⟩ := he
    exact hk v w' hv
  · exact wp_val (hr.trans h1) (hk v w' h2)

theorem resKind_ok {own : Bool} {K : Kind → Prop} (h : resKind own K) : K (resK' own) := by cases own <;> exact h

theorem op_callC {c : Call} {fo : Operand} (hS : SOk P S) (r : Rel C E s h a w) (hd : ∀ d, o.dst = some d → d < C.nt) (ho : o.op = .call c) (hc : c.callee = .value fo) {n : Nat} {caps : List Vm.V} (hf : val s fo = .fn n caps)
    (hk : con S n fun cc => callC cc (appV (argVals (val s) c.args.toList) (capVals caps)) o.dst s h K) : o.wp P a w (Post C K) Q := by
  have hfv := r.vr (x := fo) (by rw [hf]; simp)
  rw [hf] at hfv
  obtain ⟨us, hfe, hcaps, _⟩ := hfv
  obtain ⟨cc, hok, hk⟩ := con_ok hS hk
  unfold callC at hk
  rw [appV_eq] at hk
  obtain ⟨dss, h1, E1, Fs, ts, ⟨x, hx, hk⟩, mv, hD, hA, hT⟩ := argsK_sound cc.params _ (c.args.toList.map a.eval ++ us) E h _ r.hs ((argVals_ok r _).app (capVals_ok hcaps)) hk
  subst hx
  refine wp_does ho hc hfe (hok x w _ (Rd E1 (lookO h1)) E1.Kp Fs hA hD (fun y hy hR => ?_) (fun y hy => .inl (mv.hs.KR y hy)) (fun y hy => ?_)) fun v w' hout => ?_
  · rcases hR with hR | ⟨u, hu, hR⟩
    · exact mv.disR y hy hR
    · exact mv.disF u hu y hR hy
  · rcases hy with hy | ⟨u, hu, hy⟩
    · exact mv.hs.Rlt y hy
    · exact (mv.hs.Fin u hu y hy).1
  · obtain ⟨outs, res, N, rs, Hs', Os, ou⟩ := hout
    have hk := hk outs res ou.post
    have hsrc : ∀ y, AnyF Fs y → y < w.heap.size ∧ C.ok y := by
      intro y hy
      obtain ⟨t, ht, hF⟩ := mv.src y hy
      exact r.Fin t ht y hF
    have hok' : ∀ y, w.heap.size ≤ y ∨ AnyF Fs y → C.ok y := fun y hy => hy.elim (fun h => .inl (Nat.le_trans r.shape.size h)) (fun h => (hsrc y h).2)
    have hnot : ∀ y, w.heap.size ≤ y ∨ AnyF Fs y → ¬ E1.R y ∧ ∀ u, (lookO h1 u).isSome = true → ¬ E1.F u y := by
      rintro y (hy | hy)
      · exact ⟨fun hR => Nat.lt_irrefl _ (Nat.lt_of_lt_of_le (mv.hs.Rlt y hR) hy), fun u hu hF => Nat.lt_irrefl _ (Nat.lt_of_lt_of_le (mv.hs.Fin u hu y hF).1 hy)⟩
      · exact ⟨mv.disR y hy, fun u hu hF => mv.disF u hu y hF hy⟩
    have hfr : ∀ b, E1.R b ∨ (∃ u, (lookO h1 u).isSome = true ∧ E1.F u b) → w'.heap[b]? = w.heap[b]? := by
      rintro b (hb | ⟨u, hu, hb⟩)
      · exact ou.frame b (mv.hs.Rlt b hb) (fun h => mv.disR b h hb)
      · exact ou.frame b (mv.hs.Fin u hu b hb).1 (fun h => mv.disF u hu b hb h)
    have hs1 := (mv.hs.frame ou.shape hfr).grow (N := N) (fun y hy => ⟨(ou.new y hy).1, hok' y (ou.new y hy).2, (hnot y (ou.new y hy).2).2⟩)
    have hB : Back C w' E h w s (fun _ => False) (E1.grow N) h1 := by
      refine ⟨hs1, fun m _ o' ho' => mv.tr.sub m o' ho', fun u own sz els hl => .inr ?_, fun _ _ _ h => h⟩
      have hl0 := mv.tr.arr u own sz els hl
      have hγ : E1.γ u = E.γ u := by
        obtain ⟨o', _, _, _, _, h5⟩ := mv.tr.sub u _ hl
        exact h5
      refine ⟨hl0, hγ, fun b p hb => hfr b ?_, fun _ _ h => h⟩
      obtain ⟨_, b', p', c1, c2, _, _, c3⟩ := mv.hs.ob u _ hl
      rw [hγ, hb] at c1; cases c1
      cases own with
      | true => exact .inr ⟨u, by rw [hl]; rfl, (c3.1 b).2 rfl⟩
      | false => exact .inl c3.1
    obtain ⟨hDH, hDO, hDHO⟩ := DisF_append.1 ou.dis
    have hfresh : ∀ F, (∀ y, F y → AnyF (Hs' ++ Os) y) → Fresh C w' (E1.grow N) h1 F := by
      intro F hF y hy
      obtain ⟨a1, a2, a3⟩ := ou.src y (hF y hy)
      exact ⟨a1, hok' y a3, fun hR => hR.elim (hnot y a3).1 a2, (hnot y a3).2⟩
    obtain ⟨X', E3, h3, hk, hB3, hR3, hK3, hfr3⟩ := outs_sound r.hs ou.shape ts _ _ outs Os _ _ _ _ hB hT (fun p hp m hm => args_men hf (mutsOf_mem hp) hm) ((argVals_ok r _).app (capVals_ok hcaps)).muts ou.outs hDO
      (fun F hF => hfresh F (fun y hy => AnyF_append.2 (.inr ⟨F, hF, hy⟩))) hk
    have hchg : Chg C w w' := ⟨ou.shape, fun b hb hb0 => ou.frame b (Nat.lt_of_lt_of_le hb r.shape.size) (fun h => by
      rcases (hsrc b h).2 with h1 | h1
      · omega
      · exact hb0 h1)⟩
    cases hdst : o.dst with
    | none =>
      rw [hdst] at hk
      have := r.putW (dst := none) (V := .dead) (v := v) hchg hB3.hs (fun d hd => by cases hd) (.inl rfl) (fun n m hm => hB3.sub m (hB3.sl n m hm))
      exact ⟨_, _, _, this, hk⟩
    | some d =>
      obtain ⟨dn, hdn⟩ : ∃ dn : Nat, dn = d := ⟨d, rfl⟩
      subst hdn
      rw [hdst] at hk
      simp only [free] at hk
      split at hk
      · exact hk.elim
      · rename_i e2
        split at hk
        · exact hk.elim
        · rename_i e3
          have hno : ∀ m, 16 * dn ≤ m → m < 16 * dn + 16 → NoMen m h3 := fun m hm1 hm2 => by
            have hmd : m / 16 = dn := by omega
            exact noMen_of_ref (t := m) (by rw [hmd]; exact e3)
          obtain ⟨Vs, t', h4, hk, hle, hgood⟩ := resK_sound cc.resOwn (16 * dn + 16) cc.res res (16 * dn) E3 h3 rs Hs' _ hB3.hs hno (by rw [hK3]; exact ou.res) hDH
            (fun F hF => hfr3 F (hfresh F (fun y hy => AnyF_append.2 (.inl ⟨F, hF, hy⟩))) (fun y hy hy' => hDHO y ⟨F, hF, hy'⟩ hy)) (resKind_ok hk)
          split at hk
          · rename_i hble
            obtain ⟨E4, gd⟩ := hgood (Nat.le_of_ble_eq_true hble)
            have hput := r.putW (dst := some dn) (V := retV Vs) (v := v) hchg gd.hs (fun d' hd' => hd d' (by rw [hdst]; exact hd')) (.inr (retV_VR gd.vr ou.ret)) (fun n m hm => (hB3.sub m (hB3.sl n m hm)).trans (gd.add.sub m (by
              have : m / 16 ≠ dn := by
                intro e
                rw [men_of_slRef (t := m) (by rw [e]; exact e2) n] at hm; cases hm
              have := Nat.le_of_ble_eq_true hble
              omega)))
            exact ⟨_, _, _, hput, hk⟩
          · exact hk.elim
end
end Go.Vm
