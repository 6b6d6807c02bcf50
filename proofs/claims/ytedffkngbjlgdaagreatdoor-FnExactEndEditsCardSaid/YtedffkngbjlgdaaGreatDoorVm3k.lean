/- A verified evaluator for Go code: loads; literals of slices. -/
import Derived.Test.YtedffkngbjlgdaaGreatDoorVm3j
namespace Go.Vm
open Go.RowKit
set_option linter.unusedVariables false
set_option linter.unusedSimpArgs false

theorem appV_eq {β : Type _} (l m : List β) : appV l m = l ++ m := by
  induction l with
  | nil => rfl
  | cons x l ih => simp [appV, ih]

/-! New objects may be put ahead of others. -/
mutual
theorem unf_app (k : Kind) (h : Hp) : ∀ (d : D) (t : Nat) (g : Hp) (K : V → Nat → Hp → Prop), unf k d t g K →
    unf k d t (g ++ h) fun V t' h2 => ∃ g', h2 = g' ++ h ∧ g.length ≤ g'.length ∧ (g'.length = g.length → t' = t) ∧ K V t' g'
  | .lf u, t, g, K, hk => ⟨g, rfl, Nat.le_refl _, fun _ => rfl, hk⟩
  | .dead, t, g, K, hk => ⟨g, rfl, Nat.le_refl _, fun _ => rfl, hk⟩
  | .row sz enc l, t, g, K, hk => ⟨_, rfl, by simp, fun h => by simp at h, hk⟩
  | .box cs, t, g, K, hk => by
    cases k with
    | own => 
      simp only [unf] at hk ⊢
      have := unfs_app .own h cs (t + 1) g _ hk
      refine unfs_imp .own cs (t + 1) (g ++ h) _ _ ?_ this
      rintro vs t' h' ⟨g', rfl, h1, h2, h3⟩
      exact ⟨_, rfl, by simp; omega, fun h => by simp at h; omega, h3⟩
    | mix => 
      simp only [unf] at hk ⊢
      have := unfs_app .mix h cs (t + 1) g _ hk
      refine unfs_imp .mix cs (t + 1) (g ++ h) _ _ ?_ this
      rintro vs t' h' ⟨g', rfl, h1, h2, h3⟩
      exact ⟨_, rfl, by simp; omega, fun h => by simp at h; omega, h3⟩
    | ro => 
      simp only [unf] at hk ⊢
      have := unfs_app .ro h cs (t + 1) g _ hk
      refine unfs_imp .ro cs (t + 1) (g ++ h) _ _ ?_ this
      rintro vs t' h' ⟨g', rfl, h1, h2, h3⟩
      exact ⟨_, rfl, by simp; omega, fun h => by simp at h; omega, h3⟩
    | lent => 
      simp only [unf] at hk ⊢
      have := unfs_app .lent h cs (t + 1) g _ hk
      refine unfs_imp .lent cs (t + 1) (g ++ h) _ _ ?_ this
      rintro vs t' h' ⟨g', rfl, h1, h2, h3⟩
      exact ⟨_, rfl, by simp; omega, fun h => by simp at h; omega, h3⟩
  | .fn f cs, t, g, K, hk => by
    simp only [unf] at hk ⊢
    have := unfs_app k h cs t g _ hk
    refine unfs_imp k cs t (g ++ h) _ _ ?_ this
    rintro vs t' h' ⟨g', rfl, h1, h2, h3⟩
    exact ⟨_, rfl, h1, h2, h3⟩
  | .sh d, t, g, K, hk => by
    simp only [unf] at hk ⊢
    exact unf_app (shK k) h d t g _ hk
theorem unfs_app (k : Kind) (h : Hp) : ∀ (ds : List D) (t : Nat) (g : Hp) (K : List V → Nat → Hp → Prop), unfs k ds t g K →
    unfs k ds t (g ++ h) fun V t' h2 => ∃ g', h2 = g' ++ h ∧ g.length ≤ g'.length ∧ (g'.length = g.length → t' = t) ∧ K V t' g'
  | [], t, g, K, hk => ⟨g, rfl, Nat.le_refl _, fun _ => rfl, hk⟩
  | d :: ds, t, g, K, hk => by
    simp only [unfs] at hk ⊢
    have := unf_app k h d t g _ hk
    refine unf_imp k d t (g ++ h) _ _ ?_ this
    rintro v t' h' ⟨g', rfl, h1, h2, h3⟩
    have := unfs_app k h ds t' g' _ h3
    refine unfs_imp k ds t' (g' ++ h) _ _ ?_ this
    rintro vs t'' h'' ⟨g'', rfl, h4, h5, h6⟩
    refine ⟨g'', rfl, by omega, fun e => ?_, h6⟩
    rw [h5 (by omega), h2 (by omega)]
theorem unf_imp (k : Kind) : ∀ (d : D) (t : Nat) (g : Hp) (K K' : V → Nat → Hp → Prop), (∀ V t h, K V t h → K' V t h) → unf k d t g K → unf k d t g K'
  | .lf u, t, g, K, K', hi, hk => hi _ _ _ hk
  | .dead, t, g, K, K', hi, hk => hi _ _ _ hk
  | .row sz enc l, t, g, K, K', hi, hk => hi _ _ _ hk
  | .box cs, t, g, K, K', hi, hk => by
    cases k <;> (simp only [unf] at hk ⊢; exact unfs_imp _ cs _ _ _ _ (fun _ _ _ h => hi _ _ _ h) hk)
  | .fn f cs, t, g, K, K', hi, hk => by
    simp only [unf] at hk ⊢; exact unfs_imp _ cs _ _ _ _ (fun _ _ _ h => hi _ _ _ h) hk
  | .sh d, t, g, K, K', hi, hk => by
    simp only [unf] at hk ⊢; exact unf_imp _ d _ _ _ _ hi hk
theorem unfs_imp (k : Kind) : ∀ (ds : List D) (t : Nat) (g : Hp) (K K' : List V → Nat → Hp → Prop), (∀ V t h, K V t h → K' V t h) → unfs k ds t g K → unfs k ds t g K'
  | [], t, g, K, K', hi, hk => hi _ _ _ hk
  | d :: ds, t, g, K, K', hi, hk => by
    simp only [unfs] at hk ⊢
    exact unf_imp k d _ _ _ _ (fun _ _ _ h => unfs_imp k ds _ _ _ _ (fun _ _ _ h' => hi _ _ _ h') h) hk
end

section
variable {P : Program} {T : Tab} {S : Cons} {C : Ctx} {E : Env} {s : Sl} {h : Hp} {a : Act} {w w' : World} {K : Sl → Hp → Prop} {Q : Exit → Act → World → Prop} {o : Oper} {v : Value}

/-- Values that bring objects of their own. -/
theorem finU (r : Rel C E s h a w) (x : Ext w w') {d : Nat} (hdst : o.dst = some d) (hd : ∀ d, o.dst = some d → d < C.nt)
    (hun : ∀ T, (∀ m, 16 * d ≤ m → m < T → NoMen m h) → ∃ V new t', putN o.dst V new s h K ∧ (new = [] → t' = 16 * d) ∧ t' ≤ 16 * d + 16 ∧
      (t' ≤ T → ∃ E' F, Hs C w' E' (new ++ h) ∧ Add E h E' (new ++ h) (16 * d) t' F ∧ VR w' E' (lookO (new ++ h)) V v)) : Post C K (a.put o.dst v) w' := by
  have go : ∀ V new t', putN o.dst V new s h K → t' ≤ 16 * d + 16 → new ≠ [] → (∃ E' F, Hs C w' E' (new ++ h) ∧ Add E h E' (new ++ h) (16 * d) t' F ∧ VR w' E' (lookO (new ++ h)) V v) → Post C K (a.put o.dst v) w' := by
    intro V new t' hp ht hne hg
    cases new with
    | nil => exact absurd rfl hne
    | cons n new =>
      refine finN r x hd hp fun d' hdst' hnm hsl => ?_
      rw [hdst] at hdst'; cases hdst'
      obtain ⟨E', F, h1, h2, h3⟩ := hg
      rw [appV_eq]
      exact ⟨E', h1, fun u hu => h2.sub u (by omega), .inr h3⟩
  have go0 : ∀ V, putN o.dst V [] s h K → (∃ E' F, Hs C w' E' ([] ++ h) ∧ Add E h E' ([] ++ h) (16 * d) (16 * d) F ∧ VR w' E' (lookO ([] ++ h)) V v) → Post C K (a.put o.dst v) w' := by
    intro V hp hg
    obtain ⟨E', F, h1, h2, h3⟩ := hg
    exact ⟨E', _, h, r.put x h1 hd (.inr h3) (fun n u _ => h2.sub u (by omega)), putN_nil hp⟩
  by_cases hf : ∀ m, 16 * d ≤ m → m < 16 * d + 16 → NoMen m h
  · obtain ⟨V, new, t', hp, hn, ht, hg⟩ := hun (16 * d + 16) hf
    by_cases e : new = []
    · subst e; have := hg (by omega); rw [hn rfl] at this; exact go0 V hp this
    · exact go V new t' hp ht e (hg ht)
  · obtain ⟨V, new, t', hp, hn, ht, hg⟩ := hun (16 * d) (fun m h1 h2 => by omega)
    by_cases e : new = []
    · subst e; have := hg (by rw [hn rfl]; exact Nat.le_refl _); rw [hn rfl] at this; exact go0 V hp this
    · exfalso
      apply hf
      cases new with
      | nil => exact absurd rfl e
      | cons n new =>
        rw [hdst] at hp
        simp only [putN, free] at hp
        split at hp
        · exact hp.elim
        · split at hp
          · exact hp.elim
          · rename_i e2
            exact fun m hm1 hm2 => noMen_of_ref (by rw [show m / 16 = d by omega]; exact e2)

/-- A variable's value, by its cells. -/
theorem run_loadAt {t : TypeId} {i : TyI} (hi : TyOk P t i) {b o : Nat} {us : List Value} (hl : us.length = i.size) (hc : ∀ k u, us[k]? = some u → w.cell? ⟨b, o + k, none⟩ = some u) :
    (Instr.loadAt t (.pointer (some ⟨b, o, none⟩))).run P w = .ok (if i.agg then .agg us.toArray else us.getD 0 undef) w := by
  obtain ⟨d, hd⟩ := hi.sure
  obtain ⟨inf, z, h1, h2, _⟩ := hi.info
  unfold Instr.loadAt
  simp only [Instr.sureAddr, Sem.run_bind, Sem.run_pure, Result.andThen_ok, loadVar, run_isAgg hd, hi.agg, Sem.run_ite]
  cases i.agg with
  | true =>
    have hs : (sizeOf t).run P w = .ok i.size w := run_sizeOf (by rw [h1]; simp [h2]) w
    have hcl := run_loadCells_list (P := P) w ⟨b, o, none⟩ us (fun j u hu => by simpa [Addr.add_lit] using hc j u hu)
    rw [hl] at hcl
    simp only [if_true, hs, Result.andThen_ok, Sem.run_bind, hcl, Sem.run_pure]
  | false =>
    have hp := hi.pos
    have : us[0]? = some us[0] := List.getElem?_eq_getElem (by omega)
    have h3 := hc 0 _ this
    simp only [Nat.add_zero] at h3
    simp [h3, List.getD_eq_getElem?_getD, this]

theorem unfs_flat (k : Kind) : ∀ (ds : List D) (t : Nat) (h : Hp) (K : List V → Nat → Hp → Prop), flatL ds = true → unfs k ds t h K → ∃ vs : List V, K vs t h ∧ vs.length = ds.length ∧ ∀ (i : Nat) (u : Value), ds[i]? = some (.lf u) → vs[i]? = some (.lf u)
  | [], t, h, K, hf, hk => ⟨[], hk, rfl, fun i u h => by simp at h⟩
  | .lf u :: ds, t, h, K, hf, hk => by
    obtain ⟨vs, h1, h2, h3⟩ := unfs_flat k ds t h _ (by simpa [flatL] using hf) hk
    refine ⟨_, h1, by simp [h2], fun i u' hi => ?_⟩
    cases i with
    | zero => simp at hi; subst hi; rfl
    | succ i => simpa using h3 i u' (by simpa using hi)
  | .dead :: l, t, h, K, hf, hk => by simp [flatL] at hf
  | .row _ _ _ :: l, t, h, K, hf, hk => by simp [flatL] at hf
  | .box _ :: l, t, h, K, hf, hk => by simp [flatL] at hf
  | .fn _ _ :: l, t, h, K, hf, hk => by simp [flatL] at hf

theorem run_load {t : TypeId} {x : Operand} {y : Value} (ho : o.op = .load t x) (hr : (Instr.loadAt t (a.eval x)).run P w = .ok y w) : (execOp a.eval o).run P w = .ok (.value y) w := by
  simp only [execOp, ho, Sem.run_bind, hr, Result.andThen_ok]; rfl

theorem one_val {E : Env} {g : Nat → Option Ob} {i : TyI} {cs : List Vm.V} {vs : List Value} {K : Vm.V → Prop} (hv : VRs w E g cs vs) (h1 : ∀ x ∈ vs, x.oneCell' = true) (hk : one i.agg cs K) :
    ∃ V, K V ∧ VR w E g V (if i.agg then .agg vs.toArray else vs.getD 0 undef) := by
  cases e : i.agg with
  | true =>
    rw [e] at hk
    obtain ⟨V, hk, hm⟩ := one_ok hv h1 hk
    exact ⟨V, hk, hm⟩
  | false =>
    rw [e] at hk
    obtain ⟨V, hk, u, rfl, hm⟩ := one_ok hv h1 hk
    exact ⟨V, hk, hm⟩

theorem loadRow_cases {k : Kind} {agg : Bool} {sz f : Nat} {cs : List D} {d : Option Nat} {K : Vm.V → Hp → Prop} (hk : loadRow k agg sz f cs d K) : f + sz ≤ cs.length ∧
    (flatL ((cs.drop f).take sz) = true ∧ unfs .ro ((cs.drop f).take sz) 0 [] (fun vs _ _ => one agg vs fun v => K v []) ∨
     ∃ n k', d = some n ∧ (k' = .lent ∧ k = .lent ∨ k' = .ro ∧ (k = .ro ∨ k = .mix)) ∧ unfs k' ((cs.drop f).take sz) (16 * n) [] fun vs t' h' => one agg vs fun v => match Nat.ble t' (16 * n + 16) with | true => K v h' | false => False) := by
  unfold loadRow at hk
  obtain ⟨hk2, hle⟩ := subK_ok _ _ _ _ hk
  refine ⟨hle, ?_⟩
  split at hk2
  · rename_i e; exact .inl ⟨e, hk2⟩
  · right
    cases d with
    | none => cases k <;> exact hk2.elim
    | some n =>
      cases k with
      | own => exact hk2.elim
      | lent => exact ⟨n, .lent, rfl, .inl ⟨rfl, rfl⟩, hk2⟩
      | ro => exact ⟨n, .ro, rfl, .inr ⟨rfl, .inl rfl⟩, hk2⟩
      | mix => exact ⟨n, .ro, rfl, .inr ⟨rfl, .inr rfl⟩, hk2⟩

def YldQ (P : Program) (o : Oper) (a : Act) (w : World) (Φ : Act → World → Prop) : Prop :=
  ∃ v, (execOp a.eval o).run P w = .ok (.value v) w ∧ Φ (a.put o.dst v) w
theorem ylq_load {t : TypeId} {x : Operand} (hT : TOk P T) (r : Rel C E s h a w) (hd : ∀ d, o.dst = some d → d < C.nt) (ho : o.op = .load t x)
    (hk : rdOp T S (.load t x) o.dst (val s) (lookO h) fun v new => putN o.dst v new s h K) : YldQ P o a w (Post C K) := by
  simp only [rdOp] at hk
  obtain ⟨ti, hti, hk'⟩ := ty_ok hT hk
  clear hk; have hk := hk'; clear hk'
  split at hk
  · rename_i u j f e
    obtain ⟨_, hpt⟩ := r.pt e
    split at hk
    · rename_i own sz els eo
      obtain ⟨b, p, hγ, hx⟩ := hpt _ eo
      simp only [Ob.sz] at hx
      obtain ⟨h0, b', o', vals, e1, hb, hR, hz, hvs, hr⟩ := (r.ob u _ eo).arr_rd (by simp [eo])
      rw [hγ] at e1; cases e1
      unfold ex at hk
      split at hk
      · rename_i cs ec
        rw [nth_eq] at ec
        have hj : j < els.length := by
          rcases Nat.lt_or_ge j els.length with h1 | h1
          · exact h1
          · rw [List.getElem?_eq_none h1] at ec; cases ec
        have hcl : cs.length = sz := hz cs (List.mem_of_getElem? ec)
        obtain ⟨hk2, hle⟩ := subK_ok _ _ _ _ hk
        have hcs : els.getD j [] = cs := by simp [List.getD_eq_getElem?_getD, ec]
        let us : List Value := (List.range ti.size).map fun k => vals j (f + k)
        have hus : us.length = ti.size := by simp [us]
        have hus1 : ∀ k u, us[k]? = some u → u = vals j (f + k) ∧ k < ti.size := by
          intro k u hu
          simp only [us, List.getElem?_map] at hu
          by_cases hk : k < ti.size
          · rw [List.getElem?_range hk] at hu; simp at hu; exact ⟨hu.symm, hk⟩
          · rw [List.getElem?_eq_none (by simpa using hk)] at hu; cases hu
        have hrun := run_loadAt (P := P) (w := w) hti (b := b) (o := p + (j * sz + f)) hus (fun k u hu => by
          obtain ⟨rfl, hk⟩ := hus1 k u hu
          have := hvs j (f + k) hj (by omega)
          rwa [← Nat.add_assoc (j * sz), ← Nat.add_assoc] at this)
        rw [← hx] at hrun
        have hv : VRs w E (lookO h) ((cs.drop f).take ti.size) us := VRs.mk (by simp [hus]; omega) fun k u hu => by
          obtain ⟨rfl, hk⟩ := hus1 k u hu
          have := (hr j (f + k) hj (by omega)).1
          rw [hcs] at this
          rwa [show ((cs.drop f).take ti.size).getD k .dead = cs.getD (f + k) .dead by simp [List.getD_eq_getElem?_getD, List.getElem?_take, hk, List.getElem?_drop]]
        obtain ⟨V, hk3, hV⟩ := one_val hv (fun y hy => by
          obtain ⟨k, hk⟩ := List.getElem?_of_mem hy
          obtain ⟨rfl, hk⟩ := hus1 k y hk
          exact (hr j (f + k) hj (by omega)).2) hk2
        exact ⟨_, run_load ho hrun, fin0 r (Ext.refl w) hd (.inr hV) hk3⟩
      · exact hk.elim
    · rename_i kd sz α enc l eo
      obtain ⟨b, p, hγ, hx⟩ := hpt _ eo
      simp only [Ob.sz] at hx
      have hob := r.ob u _ eo
      obtain ⟨hz, hm, hrd⟩ := hob.rd r.KR (by simp [eo])
      rw [hγ] at hrd
      obtain ⟨hb, hR, vals, hvs, hr⟩ := hrd
      unfold ex at hk
      split at hk
      · rename_i y ey
        rw [nth_eq] at ey
        have hj : j < l.length := by
          rcases Nat.lt_or_ge j l.length with h1 | h1
          · exact h1
          · rw [List.getElem?_eq_none h1] at ey; cases ey
        obtain ⟨hle, hk2⟩ := loadRow_cases hk
        rw [hz] at hle
        generalize hds : ((enc y).drop f).take ti.size = ds at hk2
        have hdl : ds.length = ti.size := by rw [← hds]; simp [hz]; omega
        have hdat : ∀ k, k < ti.size → dat enc l j (f + k) = ds.getD k .dead := by
          intro k hk
          rw [← hds]; unfold dat; rw [ey]; simp [List.getD_eq_getElem?_getD, List.getElem?_take, hk, List.getElem?_drop]
        have cells : ∀ vals' : Nat → Nat → Value, RowC w b p sz l.length vals' → ∃ us : List Value, us.length = ti.size ∧ (∀ k, k < ti.size → us.getD k undef = vals' j (f + k)) ∧
            (execOp a.eval o).run P w = .ok (.value (if ti.agg then .agg us.toArray else us.getD 0 undef)) w := by
          intro vals' hvs'
          refine ⟨(List.range ti.size).map fun k => vals' j (f + k), by simp, fun k hk => by simp [List.getD_eq_getElem?_getD, List.getElem?_range hk], ?_⟩
          refine run_load ho ?_
          rw [hx]
          refine run_loadAt hti (by simp) fun k u hu => ?_
          simp only [List.getElem?_map] at hu
          by_cases hk : k < ti.size
          · rw [List.getElem?_range hk] at hu; simp at hu; subst hu
            have := hvs' j (f + k) hj (by omega)
            rwa [← Nat.add_assoc (j * sz), ← Nat.add_assoc] at this
          · rw [List.getElem?_eq_none (by simpa using hk)] at hu; cases hu
        rcases hk2 with ⟨hfl, hk2⟩ | ⟨d, k', edst, hkk, hk2⟩
        · obtain ⟨vs, hk3, hvl, hvv⟩ := unfs_flat .ro ds 0 [] _ hfl hk2
          obtain ⟨us, hul, huv, hrun⟩ := cells vals hvs
          have hro : ∀ k, k < ti.size → vs.getD k .dead = .lf (us.getD k undef) ∧ isSc (us.getD k undef) = true := by
            intro k hk
            have h1 := hr j (f + k) hj (by omega)
            rw [hdat k hk, ← huv k hk] at h1
            obtain ⟨q, hq⟩ := flatL_get hfl (by omega : k < ds.length)
            rw [hq] at h1
            have h2 : ds[k]? = some (.lf q) := by
              rw [List.getD_eq_getElem?_getD, List.getElem?_eq_getElem (by omega)] at hq
              rw [List.getElem?_eq_getElem (by omega)]; simpa using hq
            rw [List.getD_eq_getElem?_getD, hvv k q h2, h1.lf_inv.1]
            exact ⟨rfl, h1.lf_inv.2⟩
          have hv : VRs w E (lookO h) vs us := VRs.mk (by omega) fun k u hu => by
            have hk : k < ti.size := by
              rcases Nat.lt_or_ge k us.length with h1 | h1
              · omega
              · rw [List.getElem?_eq_none h1] at hu; cases hu
            have hu' : us.getD k undef = u := by simp [List.getD_eq_getElem?_getD, hu]
            obtain ⟨h1, h2⟩ := hro k hk
            rw [h1, hu']; rw [hu'] at h2; exact ⟨rfl, h2⟩
          obtain ⟨V, hk4, hV⟩ := one_val hv (fun y hy => by
            obtain ⟨k, hk⟩ := List.getElem?_of_mem hy
            have hk' : k < ti.size := by
              rcases Nat.lt_or_ge k us.length with h1 | h1
              · omega
              · rw [List.getElem?_eq_none h1] at hk; cases hk
            have := (hro k hk').2
            rw [List.getD_eq_getElem?_getD, hk] at this
            exact isSc_one this) hk3
          exact ⟨_, hrun, fin0 r (Ext.refl w) hd (.inr hV) hk4⟩
        · have main : ∀ (k' : Kind) (d : Nat), o.dst = some d → (k' = .ro ∨ k' = .lent) → (∃ vals', RowC w b p sz l.length vals' ∧ ∀ i f, i < l.length → f < sz → UnD k' w E (fun _ => False) (vals' i f) (dat enc l i f)) →
              (unfs k' ds (16 * d) [] fun vs t' h' => one ti.agg vs fun v => match Nat.ble t' (16 * d + 16) with | true => putN o.dst v h' s h K | false => False) → YldQ P o a w (Post C K) := by
            intro k' d hdst hkk ⟨vals', hvs', hun⟩ hk
            obtain ⟨us, hul, huv, hrun⟩ := cells vals' hvs'
            refine ⟨_, hrun, finU r (Ext.refl w) hdst hd fun TT hTT => ?_⟩
            have hk2 := unfs_app k' h ds (16 * d) [] _ hk
            rw [List.nil_append] at hk2
            obtain ⟨Vs, t', h', ⟨g', rfl, h1, h2, h3⟩, hle', hgood⟩ := unfs_sound (C := C) (w := w) k' TT ds (16 * d) E h us (fun _ _ => False) _ r.hs hTT (by omega) (fun i hi x hx => hx.elim) (fun i j _ _ _ x hx => hx.elim)
              (fun i hi => by rw [huv i (by omega), ← hdat i (by omega)]; exact hun j (f + i) hj (by omega)) hk2
            have hone : ∀ y ∈ us, y.oneCell' = true := by
              intro y hy
              obtain ⟨k, hk⟩ := List.getElem?_of_mem hy
              have hk' : k < ti.size := by
                rcases Nat.lt_or_ge k us.length with h1 | h1
                · omega
                · rw [List.getElem?_eq_none h1] at hk; cases hk
              have h4 := huv k hk'
              rw [List.getD_eq_getElem?_getD, hk] at h4
              simp only [Option.getD_some] at h4
              have h5 := hun j (f + k) hj (by omega)
              rw [← h4] at h5
              rcases hkk with rfl | rfl
              · exact h5.1.one
              · exact h5.1.one
            by_cases ht : t' ≤ TT
            · obtain ⟨E', hg⟩ := hgood ht
              obtain ⟨V, hk4, hV⟩ := one_val hg.vr hone h3
              split at hk4
              · rename_i eb
                exact ⟨V, g', t', hk4, fun e => h2 (by rw [e]), Nat.le_of_ble_eq_true eb, fun _ => ⟨E', _, hg.hs, hg.add, hV⟩⟩
              · exact hk4.elim
            · have : ∃ V, match Nat.ble t' (16 * d + 16) with | true => putN o.dst V g' s h K | false => False := by
                unfold one at h3
                split at h3
                · exact ⟨_, h3⟩
                · split at h3
                  · exact ⟨_, h3⟩
                  · exact h3.elim
              obtain ⟨V, hk4⟩ := this
              split at hk4
              · rename_i eb
                exact ⟨V, g', t', hk4, fun e => h2 (by rw [e]), Nat.le_of_ble_eq_true eb, fun h => absurd h ht⟩
              · exact hk4.elim
          obtain ⟨_, _, hm3⟩ := hob
          rw [hγ] at hm3
          obtain ⟨_, vals', hvs', hm4⟩ := hm3
          rcases hkk with ⟨rfl, rfl⟩ | ⟨rfl, rfl | rfl⟩
          · exact main .lent d edst (.inr rfl) ⟨vals', hvs', fun i f hi hf => ⟨hm4.2.1 i f hi hf, fun _ h => h⟩⟩ hk2
          · exact main .ro d edst (.inl rfl) ⟨vals', hvs', fun i f hi hf => ⟨hm4.2.1 i f hi hf, fun _ h => h⟩⟩ hk2
          · exact main .ro d edst (.inl rfl) ⟨vals', hvs', fun i f hi hf => ⟨hm4.1 i f hi hf, fun _ h => h⟩⟩ hk2
      · exact hk.elim
    · rename_i sz α enc l q cs eo
      obtain ⟨b, p, hγ, hx⟩ := hpt _ eo
      simp only [Ob.sz] at hx
      obtain ⟨_, _, hq, hcl, b', o', e1, hb, vals, hvs, hr, _⟩ := r.ob u _ eo
      rw [hγ] at e1; cases e1
      obtain ⟨rfl, hk⟩ := hk
      obtain ⟨hk2, hle⟩ := subK_ok _ _ _ _ hk
      let us : List Value := (List.range ti.size).map fun k => vals j (f + k)
      have hus : us.length = ti.size := by simp [us]
      have hus1 : ∀ k u, us[k]? = some u → u = vals j (f + k) ∧ k < ti.size := by
        intro k u hu
        simp only [us, List.getElem?_map] at hu
        by_cases hk : k < ti.size
        · rw [List.getElem?_range hk] at hu; simp at hu; exact ⟨hu.symm, hk⟩
        · rw [List.getElem?_eq_none (by simpa using hk)] at hu; cases hu
      have hrun := run_loadAt (P := P) (w := w) hti (b := b) (o := p + (j * sz + f)) hus (fun k u hu => by
        obtain ⟨rfl, hk⟩ := hus1 k u hu
        have := hvs j (f + k) hq (by omega)
        rwa [← Nat.add_assoc (j * sz), ← Nat.add_assoc] at this)
      rw [← hx] at hrun
      have hv : VRs w E (lookO h) ((cs.drop f).take ti.size) us := VRs.mk (by simp [hus]; omega) fun k u hu => by
        obtain ⟨rfl, hk⟩ := hus1 k u hu
        have := (hr (f + k) (by omega)).1
        rwa [show ((cs.drop f).take ti.size).getD k .dead = cs.getD (f + k) .dead by simp [List.getD_eq_getElem?_getD, List.getElem?_take, hk, List.getElem?_drop]]
      obtain ⟨V, hk3, hV⟩ := one_val hv (fun y hy => by
        obtain ⟨k, hk⟩ := List.getElem?_of_mem hy
        obtain ⟨rfl, hk⟩ := hus1 k y hk
        exact (hr (f + k) (by omega)).2) hk2
      exact ⟨_, run_load ho hrun, fin0 r (Ext.refl w) hd (.inr hV) hk3⟩
    · exact hk.elim
  · exact hk.elim
theorem op_load {t : TypeId} {x : Operand} (hT : TOk P T) (r : Rel C E s h a w) (hd : ∀ d, o.dst = some d → d < C.nt) (ho : o.op = .load t x)
    (hk : rdOp T S (.load t x) o.dst (val s) (lookO h) fun v new => putN o.dst v new s h K) : o.wp P a w (Post C K) Q := by
  obtain ⟨v, h1, h2⟩ := ylq_load (S := S) hT r hd ho hk
  exact wp_val h1 h2
end
end Go.Vm
