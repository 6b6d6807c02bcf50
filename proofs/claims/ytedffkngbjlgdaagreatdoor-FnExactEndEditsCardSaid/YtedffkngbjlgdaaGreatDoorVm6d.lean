/- A verified evaluator for Go code: a function keeps its contract. -/
import Derived.Test.YtedffkngbjlgdaaGreatDoorVm6c
namespace Go.Vm
open Go.RowKit
set_option linter.unusedVariables false
set_option linter.unusedSimpArgs false

section
variable {P : Program} {T : Tab} {S : Cons} {C : Ctx} {E E1 : Env} {s : Sl} {h h1 : Hp} {a : Act} {w w' : World} {v : Value}

/-- One of a function's results. -/
def resOf (tmps : Array Value) : ResultVar → Sem Value
  | .tmp t => pure (tmps.getD t undef)
  | .cell x t => do loadVar t (← asAddr (tmps.getD x undef))

theorem resVals_sound (hT : TOk P T) (r : Rel C E s h a w) : ∀ (rs : List ResultVar) (gs : List Bool) (K : List (List V) → Prop), resVals T s h rs gs K →
    ∃ Vss vs, K Vss ∧ (rs.mapM (resOf a.tmps)).run P w = .ok vs w ∧ gs.length = Vss.length ∧ vs.length = Vss.length ∧
      ∀ i, i < Vss.length → ∃ cs, CellsOf (gs.getD i false) (vs.getD i undef) cs ∧ VRs w E (lookO h) (Vss.getD i []) cs ∧ ∀ y ∈ cs, y.oneCell' = true
  | [], [], K, hk => ⟨[], [], hk, by simp [List.mapM_nil, Sem.run_pure], rfl, rfl, fun i hi => by simp at hi⟩
  | rv :: rs, g :: gs, K, hk => by
    have step : ∀ (Vs : List Vm.V) (u : Value) (cs : List Value), (resVals T s h rs gs fun vs => K (Vs :: vs)) → (resOf a.tmps rv).run P w = .ok u w → CellsOf g u cs → VRs w E (lookO h) Vs cs → (∀ y ∈ cs, y.oneCell' = true) →
        ∃ Vss vs, K Vss ∧ ((rv :: rs).mapM (resOf a.tmps)).run P w = .ok vs w ∧ (g :: gs).length = Vss.length ∧ vs.length = Vss.length ∧
        ∀ i, i < Vss.length → ∃ cs, CellsOf ((g :: gs).getD i false) (vs.getD i undef) cs ∧ VRs w E (lookO h) (Vss.getD i []) cs ∧ ∀ y ∈ cs, y.oneCell' = true := by
      intro Vs u cs hk hrun hc hv hone
      obtain ⟨Vss, vs, hk, h1, h2, h3, h4⟩ := resVals_sound hT r rs gs _ hk
      refine ⟨_, u :: vs, hk, by rw [List.mapM_cons]; simp only [Sem.run_bind, hrun, Result.andThen_ok, h1, Sem.run_pure], by simp [h2], by simp [h3], fun i hi => ?_⟩
      cases i with
      | zero => exact ⟨cs, hc, hv, hone⟩
      | succ i => simpa using h4 i (by simpa using hi)
    cases rv with
    | tmp t =>
      have hrun : (resOf a.tmps (.tmp t)).run P w = .ok (a.tmps.getD t undef) w := rfl
      have heval : a.eval (.tmp t) = a.tmps.getD t undef := rfl
      have hd : val s (.tmp t) ≠ .dead → VR w E (lookO h) (val s (.tmp t)) (a.tmps.getD t undef) := fun hx => by have := r.vr hx; rwa [heval] at this
      cases g with
      | true =>
        cases e : val s (.tmp t) with
        | agg cs =>
          have hk' : resVals T s h rs gs fun vs => K (cs :: vs) := by
            have hk1 := hk
            unfold resVals at hk1
            rw [e] at hk1; exact hk1
          have := hd (by rw [e]; simp)
          rw [e] at this
          obtain ⟨us, h1, h2, h3⟩ := this
          exact step cs _ us hk' hrun ⟨h1, h3⟩ h2 h3
        | _ => unfold resVals at hk; rw [e] at hk; exact hk.elim
      | false =>
        have single : (∀ cs, val s (.tmp t) ≠ .agg cs) → val s (.tmp t) ≠ .dead → (∀ cs, val s (.tmp t) ≠ .tup cs) → (resVals T s h rs gs fun vs => K ([val s (.tmp t)] :: vs)) → _ := fun h1 h2 h3 hk =>
          have hv := hd h2
          have ho := one_VR hv h3 h1
          step [val s (.tmp t)] _ [a.tmps.getD t undef] hk hrun ⟨rfl, ho⟩ ⟨_, [], rfl, hv, rfl⟩ (by simpa using ho)
        cases e : val s (.tmp t) with
        | agg cs => unfold resVals at hk; rw [e] at hk; exact hk.elim
        | dead => unfold resVals at hk; rw [e] at hk; exact hk.elim
        | tup cs => unfold resVals at hk; rw [e] at hk; exact hk.elim
        | lf u => rw [e] at single; exact single (by simp) (by simp) (by simp) (by unfold resVals at hk; rw [e] at hk; exact hk)
        | sl u c => rw [e] at single; exact single (by simp) (by simp) (by simp) (by unfold resVals at hk; rw [e] at hk; exact hk)
        | pt u i f => rw [e] at single; exact single (by simp) (by simp) (by simp) (by unfold resVals at hk; rw [e] at hk; exact hk)
        | fn f cs => rw [e] at single; exact single (by simp) (by simp) (by simp) (by unfold resVals at hk; rw [e] at hk; exact hk)
    | cell x t =>
      simp only [resVals] at hk
      obtain ⟨ti, hti, hk'⟩ := ty_ok hT hk
      clear hk
      split at hk'
      · rename_i u j f eg ex
        have hg : ti.agg = g := by revert eg; cases ti.agg <;> cases g <;> simp [beqB]
        obtain ⟨_, hpt⟩ := r.pt (x := .tmp x) ex
        split at hk'
        · rename_i own sz els eo
          obtain ⟨b, p, hγ, hx⟩ := hpt _ eo
          simp only [Ob.sz] at hx
          obtain ⟨h0, b', o', vals, e1, hb, hR, hz, hvs, hr⟩ := (r.ob u _ eo).arr_rd (by simp [eo])
          rw [hγ] at e1; cases e1
          obtain ⟨cs, ec, hk⟩ := ex_ok hk'
          rw [nth_eq] at ec
          have hj : j < els.length := by
            rcases Nat.lt_or_ge j els.length with h1 | h1
            · exact h1
            · rw [List.getElem?_eq_none h1] at ec; cases ec
          have hcl : cs.length = sz := hz cs (List.mem_of_getElem? ec)
          obtain ⟨hk2, hle⟩ := subK_ok _ _ _ _ hk
          have hcs : els.getD j [] = cs := by simp [List.getD_eq_getElem?_getD, ec]
          let us : List Value := (List.range ti.size).map fun k => vals j (f + k)
          have hus : us.length = ti.size := by simp [us]
          have hus1 : ∀ k u, us[k]? = some u → u = vals j (f + k) ∧ k < ti.size := by
            intro k u hu
            simp only [us, List.getElem?_map] at hu
            by_cases hk : k < ti.size
            · rw [List.getElem?_range hk] at hu; simp at hu; exact ⟨hu.symm, hk⟩
            · rw [List.getElem?_eq_none (by simpa using hk)] at hu; cases hu
          have hone : ∀ y ∈ us, y.oneCell' = true := fun y hy => by
            obtain ⟨k, hk⟩ := List.getElem?_of_mem hy
            obtain ⟨rfl, hk⟩ := hus1 k y hk
            exact (hr j (f + k) hj (by omega)).2
          have hrun := run_loadAt (P := P) (w := w) hti (b := b) (o := p + (j * sz + f)) hus (fun k u hu => by
            obtain ⟨rfl, hk⟩ := hus1 k u hu
            have := hvs j (f + k) hj (by omega)
            rwa [← Nat.add_assoc (j * sz), ← Nat.add_assoc] at this)
          have hrun2 : (resOf a.tmps (.cell x t)).run P w = .ok (if ti.agg then .agg us.toArray else us.getD 0 undef) w := by
            have hx' : a.tmps.getD x undef = .pointer (some ⟨b, p + (j * sz + f), none⟩) := hx
            simp only [resOf, Sem.run_bind, hx']
            simp only [Instr.loadAt, Instr.sureAddr, Sem.run_bind, Sem.run_pure, Result.andThen_ok] at hrun
            simp only [asAddr, Sem.run_pure, Result.andThen_ok]
            exact hrun
          have hv : VRs w E (lookO h) ((cs.drop f).take ti.size) us := VRs.mk (by simp [hus]; omega) fun k u hu => by
            obtain ⟨rfl, hk⟩ := hus1 k u hu
            have := (hr j (f + k) hj (by omega)).1
            rw [hcs] at this
            rwa [show ((cs.drop f).take ti.size).getD k .dead = cs.getD (f + k) .dead by simp [List.getD_eq_getElem?_getD, List.getElem?_take, hk, List.getElem?_drop]]
          refine step _ _ us hk2 hrun2 ?_ hv hone
          subst hg
          cases e2 : ti.agg with
          | true => exact ⟨rfl, hone⟩
          | false =>
            obtain ⟨inf, z, q1, q2, q3, q4, q5, q6, q7⟩ := hti.info
            have hz1 := q6 e2
            have hsz : ti.size = 1 := by rw [← hti.zl, ← q5, cells_one hz1]; rfl
            rw [hsz] at hus
            cases hu' : us with
            | nil => rw [hu'] at hus; cases hus
            | cons u0 l =>
              cases l with
              | nil => exact ⟨rfl, by have := hone u0 (by rw [hu']; simp); simpa using this⟩
              | cons _ _ => rw [hu'] at hus; simp at hus
        · exact hk'.elim
      · exact hk'.elim
  | [], _ :: _, K, hk => by simp [resVals] at hk
  | rv :: _, [], K, hk => by cases rv <;> simp [resVals] at hk

theorem run_results {fn : Func} {vs : List Value} {tmps : Array Value} (h : (fn.results.toList.mapM (resOf tmps)).run P w = .ok vs w) : ∃ v, (results fn tmps).run P w = .ok v w ∧ retR vs v := by
  have e : results fn tmps = (do let vs ← fn.results.mapM (resOf tmps); pure (if h : vs.size = 1 then vs[0] else .tuple vs)) := by
    unfold results
    congr 1
  have hm : (fn.results.mapM (resOf tmps)).run P w = .ok vs.toArray w := by
    rw [Array.mapM_eq_mapM_toList]
    simp only [Sem.run_map, h]
    rfl
  refine ⟨if h : vs.toArray.size = 1 then vs.toArray[0] else .tuple vs.toArray, by rw [e]; simp only [Sem.run_bind, hm, Result.andThen_ok, Sem.run_pure], ?_⟩
  cases vs with
  | nil => rfl
  | cons u l =>
    cases l with
    | nil => rfl
    | cons u2 l => simp [retR]
end
end Go.Vm
