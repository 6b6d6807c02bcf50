/- A verified evaluator for Go code: operations that give a value and change nothing. -/
import Derived.Test.YtedffkngbjlgdaaGreatDoorVm6a
namespace Go.Vm
open Go.RowKit
set_option linter.unusedVariables false
set_option linter.unusedSimpArgs false

section
variable {P : Program} {T : Tab} {S : Cons} {C : Ctx} {E E1 : Env} {s : Sl} {h h1 : Hp} {a : Act} {w w' : World} {Q : Exit → Act → World → Prop} {o : Oper} {v : Value}

theorem yl_load {t : TypeId} {x : Operand} {k : Vm.V → Hp → Prop} (hT : TOk P T) (r : Rel C E s h a w) (ho : o.op = .load t x)
    (hk : rdDetLoad T (val s) (lookO h) t x fun v => k v []) : Yld P o a w E h k := by
  simp only [rdDetLoad] at hk
  obtain ⟨ti, hti, hk'⟩ := ty_ok hT hk
  clear hk; have hk := hk'; clear hk'
  split at hk
  · rename_i u j f e
    obtain ⟨_, hpt⟩ := r.pt e
    split at hk
    · rename_i own sz els eo
      obtain ⟨b, p, hγ, hx⟩ := hpt _ eo
      simp only [Ob.sz] at hx
      obtain ⟨h0, b', o', vals, e1, hb, hR, hz, hvs, hr⟩ := (r.ob u _ eo).arr_rd (by simp [eo])
      rw [hγ] at e1; cases e1
      unfold ex at hk
      split at hk
      · rename_i cs ec
        rw [nth_eq] at ec
        have hj : j < els.length := by
          rcases Nat.lt_or_ge j els.length with h1 | h1
          · exact h1
          · rw [List.getElem?_eq_none h1] at ec; cases ec
        have hcl : cs.length = sz := hz cs (List.mem_of_getElem? ec)
        obtain ⟨hk2, hle⟩ := subK_ok _ _ _ _ hk
        have hcs : els.getD j [] = cs := by simp [List.getD_eq_getElem?_getD, ec]
        let us : List Value := (List.range ti.size).map fun k => vals j (f + k)
        have hus : us.length = ti.size := by simp [us]
        have hus1 : ∀ k u, us[k]? = some u → u = vals j (f + k) ∧ k < ti.size := by
          intro k u hu
          simp only [us, List.getElem?_map] at hu
          by_cases hk : k < ti.size
          · rw [List.getElem?_range hk] at hu; simp at hu; exact ⟨hu.symm, hk⟩
          · rw [List.getElem?_eq_none (by simpa using hk)] at hu; cases hu
        have hrun := run_loadAt (P := P) (w := w) hti (b := b) (o := p + (j * sz + f)) hus (fun k u hu => by
          obtain ⟨rfl, hk⟩ := hus1 k u hu
          have := hvs j (f + k) hj (by omega)
          rwa [← Nat.add_assoc (j * sz), ← Nat.add_assoc] at this)
        rw [← hx] at hrun
        have hv : VRs w E (lookO h) ((cs.drop f).take ti.size) us := VRs.mk (by simp [hus]; omega) fun k u hu => by
          obtain ⟨rfl, hk⟩ := hus1 k u hu
          have := (hr j (f + k) hj (by omega)).1
          rw [hcs] at this
          rwa [show ((cs.drop f).take ti.size).getD k .dead = cs.getD (f + k) .dead by simp [List.getD_eq_getElem?_getD, List.getElem?_take, hk, List.getElem?_drop]]
        obtain ⟨V, hk3, hV⟩ := one_val hv (fun y hy => by
          obtain ⟨k, hk⟩ := List.getElem?_of_mem hy
          obtain ⟨rfl, hk⟩ := hus1 k y hk
          exact (hr j (f + k) hj (by omega)).2) hk2
        exact yl0 (run_load ho hrun) (.inr hV) hk3
      · exact hk.elim
    · rename_i kd sz α enc l eo
      obtain ⟨b, p, hγ, hx⟩ := hpt _ eo
      simp only [Ob.sz] at hx
      have hob := r.ob u _ eo
      obtain ⟨hz, hm, hrd⟩ := hob.rd r.KR (by simp [eo])
      rw [hγ] at hrd
      obtain ⟨hb, hR, vals, hvs, hr⟩ := hrd
      unfold ex at hk
      split at hk
      · rename_i y ey
        rw [nth_eq] at ey
        have hj : j < l.length := by
          rcases Nat.lt_or_ge j l.length with h1 | h1
          · exact h1
          · rw [List.getElem?_eq_none h1] at ey; cases ey
        obtain ⟨hk2, hle⟩ := subK_ok _ _ _ _ hk
        rw [hz] at hle
        generalize hds : ((enc y).drop f).take ti.size = ds at hk2
        have hdl : ds.length = ti.size := by rw [← hds]; simp [hz]; omega
        have hdat : ∀ k, k < ti.size → dat enc l j (f + k) = ds.getD k .dead := by
          intro k hk
          rw [← hds]; unfold dat; rw [ey]; simp [List.getD_eq_getElem?_getD, List.getElem?_take, hk, List.getElem?_drop]
        have cells : ∀ vals' : Nat → Nat → Value, RowC w b p sz l.length vals' → ∃ us : List Value, us.length = ti.size ∧ (∀ k, k < ti.size → us.getD k undef = vals' j (f + k)) ∧
            (execOp a.eval o).run P w = .ok (.value (if ti.agg then .agg us.toArray else us.getD 0 undef)) w := by
          intro vals' hvs'
          refine ⟨(List.range ti.size).map fun k => vals' j (f + k), by simp, fun k hk => by simp [List.getD_eq_getElem?_getD, List.getElem?_range hk], ?_⟩
          refine run_load ho ?_
          rw [hx]
          refine run_loadAt hti (by simp) fun k u hu => ?_
          simp only [List.getElem?_map] at hu
          by_cases hk : k < ti.size
          · rw [List.getElem?_range hk] at hu; simp at hu; subst hu
            have := hvs' j (f + k) hj (by omega)
            rwa [← Nat.add_assoc (j * sz), ← Nat.add_assoc] at this
          · rw [List.getElem?_eq_none (by simpa using hk)] at hu; cases hu
        split at hk2
        · rename_i hfl
          obtain ⟨vs, hk3, hvl, hvv⟩ := unfs_flat .ro ds 0 [] _ hfl hk2
          obtain ⟨us, hul, huv, hrun⟩ := cells vals hvs
          have hro : ∀ k, k < ti.size → vs.getD k .dead = .lf (us.getD k undef) ∧ isSc (us.getD k undef) = true := by
            intro k hk
            have h1 := hr j (f + k) hj (by omega)
            rw [hdat k hk, ← huv k hk] at h1
            obtain ⟨q, hq⟩ := flatL_get hfl (by omega : k < ds.length)
            rw [hq] at h1
            have h2 : ds[k]? = some (.lf q) := by
              rw [List.getD_eq_getElem?_getD, List.getElem?_eq_getElem (by omega)] at hq
              rw [List.getElem?_eq_getElem (by omega)]; simpa using hq
            rw [List.getD_eq_getElem?_getD, hvv k q h2, h1.lf_inv.1]
            exact ⟨rfl, h1.lf_inv.2⟩
          have hv : VRs w E (lookO h) vs us := VRs.mk (by omega) fun k u hu => by
            have hk : k < ti.size := by
              rcases Nat.lt_or_ge k us.length with h1 | h1
              · omega
              · rw [List.getElem?_eq_none h1] at hu; cases hu
            have hu' : us.getD k undef = u := by simp [List.getD_eq_getElem?_getD, hu]
            obtain ⟨h1, h2⟩ := hro k hk
            rw [h1, hu']; rw [hu'] at h2; exact ⟨rfl, h2⟩
          obtain ⟨V, hk4, hV⟩ := one_val hv (fun y hy => by
            obtain ⟨k, hk⟩ := List.getElem?_of_mem hy
            have hk' : k < ti.size := by
              rcases Nat.lt_or_ge k us.length with h1 | h1
              · omega
              · rw [List.getElem?_eq_none h1] at hk; cases hk
            have := (hro k hk').2
            rw [List.getD_eq_getElem?_getD, hk] at this
            exact isSc_one this) hk3
          exact yl0 hrun (.inr hV) hk4
        · exact hk2.elim
      · exact hk.elim
    · rename_i sz α enc l q cs eo
      obtain ⟨b, p, hγ, hx⟩ := hpt _ eo
      simp only [Ob.sz] at hx
      obtain ⟨_, _, hq, hcl, b', o', e1, hb, vals, hvs, hr, _⟩ := r.ob u _ eo
      rw [hγ] at e1; cases e1
      obtain ⟨rfl, hk⟩ := hk
      obtain ⟨hk2, hle⟩ := subK_ok _ _ _ _ hk
      let us : List Value := (List.range ti.size).map fun k => vals j (f + k)
      have hus : us.length = ti.size := by simp [us]
      have hus1 : ∀ k u, us[k]? = some u → u = vals j (f + k) ∧ k < ti.size := by
        intro k u hu
        simp only [us, List.getElem?_map] at hu
        by_cases hk : k < ti.size
        · rw [List.getElem?_range hk] at hu; simp at hu; exact ⟨hu.symm, hk⟩
        · rw [List.getElem?_eq_none (by simpa using hk)] at hu; cases hu
      have hrun := run_loadAt (P := P) (w := w) hti (b := b) (o := p + (j * sz + f)) hus (fun k u hu => by
        obtain ⟨rfl, hk⟩ := hus1 k u hu
        have := hvs j (f + k) hq (by omega)
        rwa [← Nat.add_assoc (j * sz), ← Nat.add_assoc] at this)
      rw [← hx] at hrun
      have hv : VRs w E (lookO h) ((cs.drop f).take ti.size) us := VRs.mk (by simp [hus]; omega) fun k u hu => by
        obtain ⟨rfl, hk⟩ := hus1 k u hu
        have := (hr (f + k) (by omega)).1
        rwa [show ((cs.drop f).take ti.size).getD k .dead = cs.getD (f + k) .dead by simp [List.getD_eq_getElem?_getD, List.getElem?_take, hk, List.getElem?_drop]]
      obtain ⟨V, hk3, hV⟩ := one_val hv (fun y hy => by
        obtain ⟨k, hk⟩ := List.getElem?_of_mem hy
        obtain ⟨rfl, hk⟩ := hus1 k y hk
        exact (hr (f + k) (by omega)).2) hk2
      exact yl0 (run_load ho hrun) (.inr hV) hk3
    · exact hk.elim
  · exact hk.elim

theorem yl_convert {t u : TypeId} {x : Operand} {K : Vm.V → Hp → Prop} (hT : TOk P T) (r : Rel C E s h a w) (ho : o.op = .convert t u x)
    (hk : convV T (lookO h) t u (val s x) (fun v => K v []) (fun _ => False)) : Yld P o a w E h K := by
  simp only [convV] at hk
  obtain ⟨si, hsi, hk'⟩ := ty_ok hT hk
  clear hk; have hk := hk'; clear hk'
  obtain ⟨di, hdi, hk'⟩ := ty_ok hT hk
  clear hk; have hk := hk'; clear hk'
  have hus := hsi.und
  have hud := hdi.und
  have hrun : ∀ y w', (convert t u (a.eval x)).run P w = .ok y w' → (execOp a.eval o).run P w = .ok (.value y) w' := by
    intro y w' hy; simp only [execOp, ho, Sem.run_bind, hy, Result.andThen_ok]; rfl
  split at hk
  · rename_i k n e
    have hx := (r.lf e).1
    split at hk
    · rename_i ks kd es ed
      rw [es] at hus; rw [ed] at hud
      refine yl_lf (hrun _ _ ?_) rfl hk
      rw [hx]; simp [convert, run_underlying hus, run_underlying hud, Conv.intToInt]
    · exact hk.elim
  · rename_i b e
    have hx := (r.lf e).1
    split at hk
    · rename_i es ed
      rw [es] at hus; rw [ed] at hud
      refine yl_lf (hrun _ _ ?_) rfl hk
      rw [hx]; simp [convert, run_underlying hus, run_underlying hud]
    · rename_i el es ed
      rw [es] at hus; rw [ed] at hud
      obtain ⟨ei, hei, hk'⟩ := ty_ok hT hk
      clear hk; have hk := hk'; clear hk'
      have hue := hei.und
      split at hk
      · rename_i ee
        rw [ee] at hue
        exact hk.2.elim
      · exact hk.elim
    · exact hk.elim
  · rename_i e
    have hx := (r.lf e).1
    split at hk
    · rename_i el es ed
      rw [es] at hus; rw [ed] at hud
      obtain ⟨ei, hei, hk'⟩ := ty_ok hT hk
      clear hk; have hk := hk'; clear hk'
      have hue := hei.und
      split at hk
      · rename_i ee
        rw [ee] at hue
        refine yl_lf (hrun _ _ ?_) rfl hk
        rw [hx, run_convert_bytes_string w t u el none 0 0 hus hue hud]; rfl
      · exact hk.elim
    · exact hk.elim
  · rename_i tt cut e
    split at hk
    · rename_i el es ed
      rw [es] at hus; rw [ed] at hud
      obtain ⟨ei, hei, hk'⟩ := ty_ok hT hk
      clear hk; have hk := hk'; clear hk'
      have hue := hei.und
      have hsl := r.vr (x := x) (by rw [e]; simp)
      rw [e] at hsl
      have main : ∀ (bs : List UInt8) (vals : Nat → Nat → Value), SlC w (a.eval x) 1 bs.length vals → (∀ i, i < bs.length → vals i 0 = .int .u8 ((bs.getD i 0).toNat : Int)) → ei.d = .int .u8 →
          K (.lf (.string ⟨bs.toArray⟩)) [] → Yld P o a w E h K := by
        intro bs vals hs hv ee hk
        rw [ee] at hue
        refine yl_lf (hrun _ _ ?_) rfl hk
        obtain ⟨base, c, hx, hc, hm, hb, hrow⟩ := hs
        rw [hx]
        cases base with
        | none =>
          obtain ⟨h1, rfl⟩ := hb rfl
          rw [List.length_eq_zero_iff] at h1; subst h1
          rw [run_convert_bytes_string w t u el none _ 0 hus hue hud]; rfl
        | some ad =>
          refine run_convert_bytes_back w t u el _ c bs hus hue hud fun j hj => ?_
          rcases hrow _ rfl with hn0 | ⟨b, oo, rfl, hrow2⟩
          · omega
          have := hrow2 j 0 hj (by omega)
          rw [hv j hj] at this
          simp [List.getD_eq_getElem?_getD, List.getElem?_eq_getElem hj] at this
          simpa [Addr.add_lit] using this
      split at hk
      · rename_i ee
        split at hk
        · rename_i k sz α enc l eo
          split at hk
          · rename_i esz
            obtain rfl := nbeq_eq esz
            obtain ⟨bs, hbs, hk⟩ := hk
            obtain ⟨hz, vals, hs, hr⟩ := sl_row r.obs eo hsl
            have hl : (cutL cut l).length = bs.length := by have := congrArg List.length hbs; simpa using this
            refine main bs vals (hl ▸ hs) (fun i hi => ?_) ee hk
            have h1 := hr i 0 (by omega) (by omega)
            rw [← dat_map, hbs, dat_map] at h1
            simp only [dat, List.getElem?_eq_getElem hi, encB] at h1
            rw [h1.lf_inv.1]
            simp [List.getD_eq_getElem?_getD, List.getElem?_eq_getElem hi]
          · exact hk.elim
        · rename_i own sz els eo
          split at hk
          · rename_i esz
            obtain rfl := nbeq_eq esz
            obtain ⟨hz, vals, hs, hr⟩ := sl_arr r.obs eo hsl
            obtain ⟨ds, ⟨bs, rfl, hk⟩, hl, hl3, hro⟩ := rdEls_sound r.obs 40 1 (cutL cut els) vals _ hz hr hk
            have hl' : (cutL cut els).length = bs.length := by rw [← hl]; simp
            refine main bs vals (hl' ▸ hs) (fun i hi => ?_) ee hk
            have h1 := hro i 0 (by omega) (by omega)
            rw [dat_map] at h1
            simp only [dat, List.getElem?_eq_getElem hi, encB] at h1
            rw [h1.lf_inv.1]
            simp [List.getD_eq_getElem?_getD, List.getElem?_eq_getElem hi]
          · exact hk.elim
        · exact hk.elim
      · exact hk.elim
    · exact hk.elim
  · exact hk.elim
theorem Yld.toP {K : Sl → Hp → Prop} (y : Yld P o a w E h fun v new => putN o.dst v new s h K) (r : Rel C E s h a w) (hd : ∀ d, o.dst = some d → d < C.nt) : YldQ P o a w (Post C K) := by
  obtain ⟨V, v, h1, h2, h3⟩ := y
  exact ⟨v, h1, fin0 r (Ext.refl w) hd h2 h3⟩

/-- What a value that comes, and nothing else, is. -/
theorem yl_det {k : Vm.V → Prop} (hT : TOk P T) (r : Rel C E s h a w) (hk : rdDet T S o.op (val s) (lookO h) k) : Yld P o a w E h fun v _ => k v := by
  cases ho : o.op with
  | move x => rw [ho] at hk; exact yl_move r ho hk
  | pick c x y => rw [ho] at hk; exact yl_pick (T := T) (S := S) r ho hk
  | nilCheck x => rw [ho] at hk; exact yl_nilCheck (T := T) (S := S) r ho hk
  | binOp op t x y t2 => rw [ho] at hk; exact yl_bin (S := S) hT r ho hk
  | unOp op t x => rw [ho] at hk; exact yl_un (T := T) (S := S) r ho hk
  | slice t x lo hi mx => rw [ho] at hk; exact yl_slice (S := S) hT r ho hk
  | fieldAddr t x n => rw [ho] at hk; exact yl_fieldAddr (S := S) hT r ho hk
  | field t x n => rw [ho] at hk; exact yl_field (S := S) hT r ho hk
  | indexAddr t x i => rw [ho] at hk; exact yl_indexAddr (S := S) hT r ho hk
  | index t x i => rw [ho] at hk; exact yl_index (S := S) hT r ho hk
  | extract x i => rw [ho] at hk; exact yl_extract (T := T) (S := S) r ho hk
  | makeFunc fn f1 cs => rw [ho] at hk; exact yl_makeFunc (T := T) (S := S) r ho hk
  | build t ps => rw [ho] at hk; exact yl_build (S := S) hT r ho hk
  | load t x => rw [ho] at hk; exact yl_load (k := fun v _ => k v) hT r ho hk
  | convert t u x => rw [ho] at hk; exact yl_convert (K := fun v _ => k v) hT r ho hk
  | call c =>
    rw [ho] at hk
    simp only [rdDet] at hk
    split at hk
    · rename_i hc; exact yl_len hT r ho hc hk
    · rename_i hc; exact yl_max r ho hc hk
    · rename_i hc; exact yl_min r ho hc hk
    · exact hk.elim
  | _ => rw [ho] at hk; exact hk.elim

theorem tyNS_ok {f : Nat} {K : TyI → Prop} : ∀ {T : Tab}, TOk P T → tyNS T f = true → ty T f K → ∃ i, TyOk P f i ∧ K i ∧ ∀ e, i.d ≠ .slice e
  | [], _, _, h => h.elim
  | (k, i) :: T, hT, hn, h => by
    simp only [ty] at h
    simp only [tyNS] at hn
    split at h
    · rename_i e
      rw [e] at hn
      obtain rfl := nbeq_eq e
      refine ⟨i, hT (k, i) (List.mem_cons_self ..), h, fun e h1 => ?_⟩
      rw [h1] at hn; cases hn
    · rename_i e
      rw [e] at hn
      exact tyNS_ok (fun p hp => hT p (List.mem_cons_of_mem _ hp)) hn h

theorem conv_ns {t u : TypeId} {x : V} {K : V → Prop} {A A' : List UInt8 → Prop} {g : Nat → Option Ob} (hT : TOk P T) (hn : tyNS T u = true) (hk : convV T g t u x K A) : convV T g t u x K A' := by
  unfold convV at hk ⊢
  have key : ∀ {T0 : Tab} {f : Nat} {K1 K2 : TyI → Prop}, (∀ i, K1 i → K2 i) → ty T0 f K1 → ty T0 f K2 := by
    intro T0 f K1 K2 hh h
    induction T0 with
    | nil => exact h.elim
    | cons p T0 ih =>
      obtain ⟨k, i⟩ := p
      simp only [ty] at h ⊢
      split at h
      · exact hh _ h
      · exact ih h
  have key2 : ∀ {K1 K2 : TyI → Prop}, (∀ i, (∀ e, i.d ≠ .slice e) → K1 i → K2 i) → ty T u K1 → ty T u K2 := by
    intro K1 K2 hh h
    clear hk
    induction T with
    | nil => exact h.elim
    | cons p T0 ih =>
      obtain ⟨k, i⟩ := p
      simp only [ty] at h ⊢
      simp only [tyNS] at hn
      split at h
      · rename_i e
        rw [e] at hn
        exact hh _ (fun e h1 => by rw [h1] at hn; cases hn) h
      · rename_i e
        rw [e] at hn
        exact ih (fun p hp => hT p (List.mem_cons_of_mem _ hp)) hn h
  refine key (fun si hs => key2 (fun di hd h => ?_) hs) hk
  split at h
  · exact h
  · split at h
    · exact h
    · rename_i e1 e2; exact absurd e2 (hd _)
    · exact h.elim
  · exact h
  · exact h
  · exact h.elim

/-- The same, with names of what is seen in a row. -/
theorem ylq_det {K : Sl → Hp → Prop} (hT : TOk P T) (r : Rel C E s h a w) (hd : ∀ d, o.dst = some d → d < C.nt) (hdet : isDet T o.op = true)
    (hk : rdOp T S o.op o.dst (val s) (lookO h) fun v new => putN o.dst v new s h K) : YldQ P o a w (Post C K) := by
  cases ho : o.op with
  | move x => rw [ho] at hk; exact (yl_move r ho hk).toP r hd
  | pick c x y => rw [ho] at hk; exact (yl_pick (T := T) (S := S) r ho hk).toP r hd
  | nilCheck x => rw [ho] at hk; exact (yl_nilCheck (T := T) (S := S) r ho hk).toP r hd
  | binOp op t x y t2 => rw [ho] at hk; exact (yl_bin (S := S) hT r ho hk).toP r hd
  | unOp op t x => rw [ho] at hk; exact (yl_un (T := T) (S := S) r ho hk).toP r hd
  | slice t x lo hi mx => rw [ho] at hk; exact (yl_slice (S := S) hT r ho hk).toP r hd
  | fieldAddr t x n => rw [ho] at hk; exact (yl_fieldAddr (S := S) hT r ho hk).toP r hd
  | field t x n => rw [ho] at hk; exact (yl_field (S := S) hT r ho hk).toP r hd
  | indexAddr t x i => rw [ho] at hk; exact (yl_indexAddr (S := S) hT r ho hk).toP r hd
  | index t x i => rw [ho] at hk; exact (yl_index (S := S) hT r ho hk).toP r hd
  | extract x i => rw [ho] at hk; exact (yl_extract (T := T) (S := S) r ho hk).toP r hd
  | makeFunc fn f1 cs => rw [ho] at hk; exact (yl_makeFunc (S := S) (T := T) r ho hk).toP r hd
  | build t ps => rw [ho] at hk; exact (yl_build (S := S) hT r ho hk).toP r hd
  | load t x => rw [ho] at hk; exact ylq_load (S := S) hT r hd ho hk
  | convert t u x =>
    rw [ho] at hk hdet
    simp only [rdOp] at hk
    exact (yl_convert (K := fun v new => putN o.dst v new s h K) hT r ho (conv_ns hT hdet hk)).toP r hd
  | call c =>
    rw [ho] at hk hdet
    simp only [isDet] at hdet
    simp only [rdOp] at hk
    split at hdet
    · rename_i hc; simp only [hc, rdBi] at hk; exact (yl_len hT r ho hc hk).toP r hd
    · rename_i hc; simp only [hc, rdBi] at hk; exact (yl_max r ho hc hk).toP r hd
    · rename_i hc; simp only [hc, rdBi] at hk; exact (yl_min r ho hc hk).toP r hd
    · cases hdet
  | _ => rw [ho] at hdet; cases hdet
end
end Go.Vm
