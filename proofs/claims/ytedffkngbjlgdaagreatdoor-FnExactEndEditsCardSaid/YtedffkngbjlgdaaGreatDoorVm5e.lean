/- A verified evaluator for Go code: calls that only read. -/
import Derived.Test.YtedffkngbjlgdaaGreatDoorVm5d
namespace Go.Vm
open Go.RowKit
set_option linter.unusedVariables false
set_option linter.unusedSimpArgs false

section
variable {P : Program} {T : Tab} {S : Cons} {C : Ctx} {E E1 : Env} {s : Sl} {h h1 : Hp} {a : Act} {w w' : World} {K : Sl → Hp → Prop} {Q : Exit → Act → World → Prop} {o : Oper} {v : Value}

theorem argsRd_sound {Kp : Nat → Prop} (ho : Obs w E (lookO h)) : ∀ (ps : List (Mode × Bool)) (args : List (Option Nat × Vm.V)) (vs : List Value) (K : List (List D) → Prop), allRd ps = true → VRl w E (lookO h) args vs → argsRd (lookO h) ps args K →
    ∃ dss, K dss ∧ ArgsR w (Rd E (lookO h)) Kp ps dss vs (ps.map fun _ _ => False) ∧ mutsW ps vs = []
  | [], [], [], K, _, _, hk => ⟨[], hk, trivial, rfl⟩
  | (m, b) :: ps, (x, V) :: args, v :: vs, K, ha, hv, hk => by
    have hm : m = .rd ∧ allRd ps = true := by
      cases m with
      | rd => exact ⟨rfl, ha⟩
      | keep => simp [allRd] at ha
      | «mut» => simp [allRd] at ha
      | take => simp [allRd] at ha
    obtain ⟨rfl, ha⟩ := hm
    have main : ∀ (Vs : List Vm.V) (us : List Value), CellsOf b v us → VRs w E (lookO h) Vs us → (∀ y ∈ us, y.oneCell' = true) → (rdDs fuel (lookO h) Vs fun ds => argsRd (lookO h) ps args fun r => K (ds :: r)) →
        ∃ dss, K dss ∧ ArgsR w (Rd E (lookO h)) Kp ((.rd, b) :: ps) dss (v :: vs) (((Mode.rd, b) :: ps).map fun _ _ => False) ∧ mutsW ((.rd, b) :: ps) (v :: vs) = [] := by
      intro Vs us hc h1 h2 hk
      obtain ⟨ds, hk, hl, hr⟩ := rdDs_sound ho fuel Vs us _ h1 h2 hk
      obtain ⟨dss, hk, hA, hM⟩ := argsRd_sound ho ps args vs _ ha hv.2 hk
      exact ⟨_, hk, ⟨⟨us, hc, by rw [hl, h1.length], fun _ _ => False, fun f hf => ⟨hr f (by omega), fun _ h => h⟩, fun _ _ _ _ _ _ h => h.elim, fun x => ⟨fun h => h.elim, fun ⟨_, _, h⟩ => h⟩⟩, hA⟩, hM⟩
    have hne : V ≠ .dead := by
      rintro rfl
      cases b with
      | true => exact hk.elim
      | false => simp [argsRd, fuel, rdDs, rdD] at hk
    have hv1 := hv.1 hne
    cases b with
    | true =>
      cases V with
      | agg cs => obtain ⟨us, rfl, h1, h2⟩ := hv1; exact main cs us ⟨rfl, h2⟩ h1 h2 hk
      | _ => exact hk.elim
    | false =>
      have key : (∀ cs, V ≠ .agg cs) → (rdDs fuel (lookO h) [V] fun ds => argsRd (lookO h) ps args fun r => K (ds :: r)) → _ := fun h1 hk =>
        have h2 := one_VR hv1 (by rintro cs rfl; exact rdDs_tup hk) h1
        main [V] [v] ⟨rfl, h2⟩ ⟨v, [], rfl, hv1, rfl⟩ (by simpa using h2) hk
      cases V with
      | agg cs => exact hk.elim
      | _ => exact key (by intro cs h; cases h) hk
  | [], [], _ :: _, K, _, hv, _ => hv.elim
  | [], _ :: _, _, K, _, _, hk => by simp [argsRd] at hk
  | (m, b) :: ps, [], vs, K, _, _, hk => by cases b <;> simp [argsRd] at hk
  | _ :: _, (_, _) :: _, [], K, _, hv, _ => hv.elim

theorem resK_app (k : Kind) (h : Hp) : ∀ (gs : List Bool) (res : List (List D)) (t : Nat) (g : Hp) (K : List Vm.V → Nat → Hp → Prop), resK k gs res t g K →
    resK k gs res t (g ++ h) fun V t' h2 => ∃ g', h2 = g' ++ h ∧ g.length ≤ g'.length ∧ (g'.length = g.length → t' = t) ∧ K V t' g'
  | [], [], t, g, K, hk => ⟨g, rfl, Nat.le_refl _, fun _ => rfl, hk⟩
  | b :: gs, ds :: res, t, g, K, hk => by
    simp only [resK] at hk ⊢
    refine unfs_imp k ds t (g ++ h) _ _ ?_ (unfs_app k h ds t g _ hk)
    rintro cs t1 h1 ⟨g1, rfl, h1, h2, h3⟩
    have step : ∀ V : Vm.V, (resK k gs res t1 g1 fun vs t'' h'' => K (V :: vs) t'' h'') → resK k gs res t1 (g1 ++ h) fun vs t'' h'' => ∃ g', h'' = g' ++ h ∧ g.length ≤ g'.length ∧ (g'.length = g.length → t'' = t) ∧ K (V :: vs) t'' g' := by
      intro V hk
      have imp : ∀ (gs : List Bool) (res : List (List D)) (t : Nat) (g : Hp) (K K' : List Vm.V → Nat → Hp → Prop), (∀ V t h, K V t h → K' V t h) → resK k gs res t g K → resK k gs res t g K' := by
        intro gs
        induction gs with
        | nil =>
          intro res t g K K' hi hk
          cases res with
          | nil => exact hi _ _ _ hk
          | cons _ _ => exact hk.elim
        | cons b gs ih =>
          intro res t g K K' hi hk
          cases res with
          | nil => exact hk.elim
          | cons ds res =>
            simp only [resK] at hk ⊢
            refine unfs_imp k ds t g _ _ (fun cs t1 h1 h => ?_) hk
            unfold one at h ⊢
            split at h
            · exact ih res _ _ _ _ (fun _ _ _ h => hi _ _ _ h) h
            · split at h
              · exact ih res _ _ _ _ (fun _ _ _ h => hi _ _ _ h) h
              · exact h.elim
      refine imp gs res t1 (g1 ++ h) _ _ ?_ (resK_app k h gs res t1 g1 _ hk)
      rintro vs t2 h2' ⟨g2, rfl, h4, h5, h6⟩
      exact ⟨g2, rfl, by omega, fun e => by rw [h5 (by omega), h2 (by omega)], h6⟩
    unfold one at h3 ⊢
    split at h3
    · exact step _ h3
    · split at h3
      · exact step _ h3
      · exact h3.elim
  | [], _ :: _, t, g, K, hk => hk.elim
  | _ :: _, [], t, g, K, hk => hk.elim

theorem AnyF_none {β : Type _} {l : List β} {y : Nat} : ¬ AnyF (l.map fun _ _ => False) y := by
  rintro ⟨F, hF, hy⟩
  simp only [List.mem_map] at hF
  obtain ⟨_, _, rfl⟩ := hF
  exact hy
theorem DisF_none {β : Type _} {l : List β} : DisF (l.map fun _ _ => False) := by
  induction l with
  | nil => exact List.Pairwise.nil
  | cons x l ih => exact DisF_cons.2 ⟨fun x h => h.elim, ih⟩

theorem op_callR {c : Call} {fo : Operand} (hS : SOk P S) (r : Rel C E s h a w) (hd : ∀ d, o.dst = some d → d < C.nt) (ho : o.op = .call c) (hc : c.callee = .value fo) {n : Nat} {caps : List Vm.V} (hf : val s fo = .fn n caps)
    (hk : con S n fun cc => match allRd cc.params with
        | true => callR cc (appV (argVals (val s) c.args.toList) (capVals caps)) o.dst (lookO h) fun v new => putN o.dst v new s h K
        | false => False) : o.wp P a w (Post C K) Q := by
  have hfv := r.vr (x := fo) (by rw [hf]; simp)
  rw [hf] at hfv
  obtain ⟨us, hfe, hcaps, _⟩ := hfv
  obtain ⟨cc, hok, hk'⟩ := con_ok hS hk
  clear hk; have hk := hk'; clear hk'
  split at hk
  · rename_i hrd
    unfold callR at hk
    rw [appV_eq] at hk
    obtain ⟨dss, ⟨x, hx, hk⟩, hA, hM⟩ := argsRd_sound (Kp := E.Kp) r.obs cc.params _ (c.args.toList.map a.eval ++ us) _ hrd ((argVals_ok r _).app (capVals_ok hcaps)) hk
    subst hx
    refine wp_does ho hc hfe (hok x w _ (Rd E (lookO h)) E.Kp _ hA DisF_none (fun y hy => absurd hy AnyF_none) (fun y hy => .inl (r.KR y hy)) (fun y hy => ?_)) fun v w' hout => ?_
    · rcases hy with hy | ⟨u, hu, hy⟩
      · exact r.Rlt y hy
      · exact (r.Fin u hu y hy).1
    · obtain ⟨outs, res, N, rs, Hs', Os, ou⟩ := hout
      have hk := hk outs res ou.post
      have hext : Ext w w' := ⟨ou.shape, fun b hb => ou.frame b hb AnyF_none⟩
      have hnew : ∀ y, w.heap.size ≤ y ∨ AnyF (cc.params.map fun _ _ => False) y → w.heap.size ≤ y := fun y hy => hy.elim id (fun h => absurd h AnyF_none)
      have hnot : ∀ y, w.heap.size ≤ y → C.ok y ∧ ¬ E.R y ∧ ∀ u, (lookO h u).isSome = true → ¬ E.F u y := fun y hy =>
        ⟨.inl (Nat.le_trans r.shape.size hy), fun hR => Nat.lt_irrefl _ (Nat.lt_of_lt_of_le (r.Rlt y hR) hy), fun u hu hF => Nat.lt_irrefl _ (Nat.lt_of_lt_of_le (r.Fin u hu y hF).1 hy)⟩
      have hs1 := (r.hs.world hext.shape hext.blk).grow (N := N) (fun y hy => ⟨(ou.new y hy).1, (hnot y (hnew y (ou.new y hy).2)).1, (hnot y (hnew y (ou.new y hy).2)).2.2⟩)
      have hsubg : ∀ m, Sub E (lookO h) (E.grow N) (lookO h) m := fun m o' ho' => ⟨o', ho', rfl, rfl, id, rfl⟩
      have r' : Rel C (E.grow N) s h a w' := r.putW (dst := none) (V := .dead) (v := v) (hext.chg r.shape.size) hs1 (fun d hd => by cases hd) (.inl rfl) (fun n m _ => hsubg m)
      have hfresh : ∀ F ∈ Hs', Fresh C w' (E.grow N) h F := by
        intro F hF y hy
        obtain ⟨a1, a2, a3⟩ := ou.src y (AnyF_append.2 (.inl ⟨F, hF, hy⟩))
        have := hnot y (hnew y a3)
        exact ⟨a1, ⟨this.1, ou.cl y (AnyF_append.2 (.inl ⟨F, hF, hy⟩))⟩, fun hR => hR.elim this.2.1 a2, this.2.2⟩
      have hou := ou.outs
      rw [hM] at hou
      cases outs with
      | cons o1 os => simp [OutsR] at hou
      | nil =>
        cases hdst : o.dst with
        | none =>
          rw [hdst] at hk
          exact ⟨_, _, _, r', putN_nil hk⟩
        | some d =>
          obtain ⟨dn, hdn⟩ : ∃ dn : Nat, dn = d := ⟨d, rfl⟩
          subst hdn
          have hk1 : resK (resK' cc.resOwn) cc.res res (16 * dn) [] fun vs t' h3 => match Nat.ble t' (16 * dn + 16) with | true => putN o.dst (retV vs) h3 s h K | false => False := by
            rw [hdst] at hk ⊢; exact resKind_ok hk
          have key : Post C K (a.put o.dst v) w' := by
            refine finU r' (Ext.refl w') hdst hd fun TT hTT => ?_
            have hk2 := resK_app _ h _ _ _ _ _ hk1
            rw [List.nil_append] at hk2
            obtain ⟨Vs, t', h', ⟨g', rfl, _, h2, h3⟩, hle, hgood⟩ := resK_sound cc.resOwn TT cc.res res (16 * dn) (E.grow N) h rs Hs' _ r'.hs hTT ou.res (DisF_append.1 ou.dis).1 hfresh hk2
            split at h3
            · rename_i hble
              refine ⟨_, g', t', h3, fun e => h2 (by rw [e]), Nat.le_of_ble_eq_true hble, fun ht => ?_⟩
              obtain ⟨E', gd⟩ := hgood ht
              exact ⟨E', _, gd.hs, gd.add, retV_VR gd.vr ou.ret⟩
            · exact h3.elim
          rw [hdst] at key; exact key
  · exact hk.elim
end
end Go.Vm
