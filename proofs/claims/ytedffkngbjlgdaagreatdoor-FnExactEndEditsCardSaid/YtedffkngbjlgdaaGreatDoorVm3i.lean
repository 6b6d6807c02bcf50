/- A verified evaluator for Go code: new rows. -/
import Derived.Test.YtedffkngbjlgdaaGreatDoorVm3h
namespace Go.Vm
open Go.RowKit
set_option linter.unusedVariables false
set_option linter.unusedSimpArgs false

/-- More blocks are read for good. -/
def Env.grow (E : Env) (N : Nat → Prop) : Env := { γ := E.γ, F := E.F, R := fun x => E.R x ∨ N x, Kp := fun x => E.Kp x ∨ N x }
theorem Hs.grow {C : Ctx} {E : Env} {h : Hp} {w : World} (r : Hs C w E h) {N : Nat → Prop} (hN : ∀ x, N x → x < w.heap.size ∧ C.ok x ∧ ∀ u, (lookO h u).isSome = true → ¬ E.F u x) : Hs C w (E.grow N) h :=
  ⟨fun t o ho => (r.ob t o ho).mono r.KR rfl (fun _ => Iff.rfl) (fun _ h => .inl h) (fun _ h => .inl h) (fun u _ o ho => ⟨o, ho, rfl, rfl, id, rfl⟩) (fun _ _ => rfl) (Shape.refl w),
   r.dis, fun t ht x hx hR => hR.elim (r.disR t ht x hx) (fun h => (hN x h).2.2 t ht hx), fun x hx => hx.imp (r.KR x) id,
   fun x hx => hx.elim (r.Rlt x) (fun h => (hN x h).1), r.Fin, fun x hx => .inl (r.R0 x hx), fun x hx => .inl (r.K0 x hx),
   fun x hx => hx.elim (r.Rin x) (fun h => .inr (hN x h).2.1), fun x hx => hx.elim (r.Kin x) (fun h => .inr (hN x h).2.1)⟩

section
variable {P : Program} {T : Tab} {S : Cons} {C : Ctx} {E : Env} {s : Sl} {h : Hp} {a : Act} {w w' : World} {K : Sl → Hp → Prop} {Q : Exit → Act → World → Prop} {o : Oper} {v : Value}

/-- Blocks that are new are no object's. -/
theorem Rel.fresh (r : Rel C E s h a w) (x : Ext w w') {F : Nat → Prop} (hF : ∀ x, F x → w.heap.size ≤ x ∧ x < w'.heap.size) (hcl : ∀ x, F x → Cl w' x) (h' : Hp) (hh : ∀ u, (lookO h' u).isSome = true → (lookO h u).isSome = true) : Fresh C w' E h' F := by
  intro y hy
  obtain ⟨h1, h2⟩ := hF y hy
  refine ⟨h2, ⟨.inl (Nat.le_trans r.shape.size h1), hcl y hy⟩, fun hR => ?_, fun u hu hux => ?_⟩
  · have := r.Rlt y hR; omega
  · have := (r.Fin u (hh u hu) y hux).1; omega

theorem lookO_drop {t u : Nat} {h : Hp} (hh : (lookO ((t, none) :: h) u).isSome = true) : (lookO h u).isSome = true := by
  rw [lookO_cons] at hh
  split at hh
  · cases hh
  · exact hh

/-- A new row becomes an object. -/
theorem finRow {sz : Nat} {α : Type} {enc : α → List D} {l : List α} {F : Nat → Prop} (r : Rel C E s h a w) (x : Ext w w') (hd : ∀ d, o.dst = some d → d < C.nt)
    (hown : Own w' E.Kp F v (.row sz enc l)) (hF : ∀ x, F x → w.heap.size ≤ x) (hcl : ∀ x, F x → Cl w' x)
    (hp : putN o.dst (.sl (tg o.dst) none) [(tg o.dst, some (.row .own sz enc l))] s h K) : Post C K (a.put o.dst v) w' := by
  refine finN r x hd hp fun d hdst hnm hsl => ?_
  have htg : tg o.dst = 16 * d := by rw [hdst]; rfl
  rw [htg]
  obtain ⟨E', h1, h2, h3⟩ := unf_row (r.hs.world x.shape x.blk) (k := .own) (hnm (16 * d) (by omega) (by omega)) (r.fresh x (fun y hy => ⟨hF y hy, hown.lt y hy⟩) hcl _ fun u hu => lookO_drop hu) hown
  exact ⟨E', h1, fun u hu => h2.sub u (by omega), .inr h3⟩

/-- A new block of numbers, bools and texts is a row of one's own. -/
theorem own_new {Kp : Nat → Prop} {b cap sz : Nat} {α : Type} {enc : α → List D} {l : List α} (vals : Nat → Nat → Value) (hz : ∀ a, (enc a).length = sz) (hb : b < w'.heap.size) (hn : l.length ≤ cap) (hm : l.length ≤ 9223372036854775807)
    (hcell : ∀ j, j < cap * sz → (∃ x, w'.cell? ⟨b, j, none⟩ = some x) ∧ w'.frozen? ⟨b, j, none⟩ = false) (hv : RowC w' b 0 sz l.length vals)
    (hr : ∀ i f, i < l.length → f < sz → dat enc l i f = .lf (vals i f) ∧ isSc (vals i f) = true) : Own w' Kp (fun x => x = b) (.slice (some ⟨b, 0, none⟩) l.length cap) (.row sz enc l) := by
  refine .row vals (fun _ _ _ => False) rfl hb hn hm (fun j hj => by simpa using hcell j hj) hz hv (fun i f hi hf => ?_) (fun _ _ _ _ _ _ _ _ _ _ h => h.elim) (fun _ _ _ _ h => h) (fun x => ⟨.inl, fun h => ?_⟩)
  · rw [(hr i f hi hf).1]; exact .lf (hr i f hi hf).2 fun _ h => h
  · rcases h with h | ⟨_, _, _, _, h⟩
    · exact h
    · exact h.elim

/-- A new row that is read for good. -/
theorem finRo {sz : Nat} {α : Type} {enc : α → List D} {l : List α} (r : Rel C E s h a w) (x : Ext w w') (hd : ∀ d, o.dst = some d → d < C.nt) (hlt : w.heap.size < w'.heap.size)
    (hown : Own w' E.Kp (fun x => x = w.heap.size) v (.row sz enc l))
    (hp : putN o.dst (.sl (tg o.dst) none) [(tg o.dst, some (.row .ro sz enc l))] s h K) : Post C K (a.put o.dst v) w' := by
  refine finN r x hd hp fun d hdst hnm hsl => ?_
  have htg : tg o.dst = 16 * d := by rw [hdst]; rfl
  rw [htg]
  have hs1 := (r.hs.world x.shape x.blk).grow (N := fun x => x = w.heap.size) (by
    rintro y rfl
    exact ⟨hlt, .inl r.shape.size, fun u hu hF => Nat.lt_irrefl _ (r.Fin u hu _ hF).1⟩)
  have hro : UnD .ro w' (E.grow fun x => x = w.heap.size) (fun _ => False) v (.row sz enc l) := ⟨hown.ro (fun _ h => .inr h) (fun _ h => .inl h), fun _ h => h⟩
  obtain ⟨E', h1, h2, h3⟩ := unf_row hs1 (hnm (16 * d) (by omega) (by omega)) (fun _ h => h.elim) hro
  exact ⟨E', h1, fun u hu o' ho' => by
    obtain ⟨o2, b1, b2, b3, b4, b5⟩ := h2.sub u (by omega) o' ho'
    exact ⟨o2, b1, b2, b3, b4, b5⟩, .inr h3⟩

theorem alloc_lt (w : World) (o : Obj) : w.heap.size < (w.alloc o).heap.size := by simp

theorem zero_get {t : TypeId} {i : TyI} (hi : TyOk P t i) {f : Nat} (hf : f < i.size) : ∃ u, i.zero[f]? = some u ∧ isSc u = true := by
  have hl := hi.zl
  have hs := hi.zs
  have : f < i.zero.length := by omega
  refine ⟨i.zero[f], List.getElem?_eq_getElem this, ?_⟩
  clear hl hf
  generalize i.zero = l at hs this
  induction l generalizing f with
  | nil => simp at this
  | cons x l ih =>
    simp only [allSc] at hs
    split at hs
    · rename_i e
      cases f with
      | zero => exact e
      | succ f => exact ih hs (by simpa using this)
    · cases hs

theorem op_makeSlice {t : TypeId} {x y : Operand} (hT : TOk P T) (r : Rel C E s h a w) (hd : ∀ d, o.dst = some d → d < C.nt) (ho : o.op = .makeSlice t x y)
    (hk : rdOp T S (.makeSlice t x y) o.dst (val s) (lookO h) fun v new => putN o.dst v new s h K) : o.wp P a w (Post C K) Q := by
  simp only [rdOp] at hk
  obtain ⟨ti, hti, hk'⟩ := ty_ok hT hk
  clear hk; have hk := hk'; clear hk'
  have hu := hti.und
  split at hk
  · rename_i e ed
    rw [ed] at hu
    obtain ⟨ei, hei, hk'⟩ := ty_ok hT hk
    clear hk; have hk := hk'; clear hk'
    split at hk
    · rename_i n c en ec
      obtain ⟨h0, rfl, hle, α, enc, z, hz, hzz, hk⟩ := hk
      obtain ⟨inf, zv, h1, h2, h3, h4, h5, h6, h7⟩ := hei.info
      have hx := (r.lf en).1
      have hy := (r.lf ec).1
      have hle' : n ≤ 4294967296 := hle
      have hby := hei.by_
      have hbn : (inf.bytes : Int) * n ≤ 281474976710656 := by
        rw [h3]
        calc (ei.bytes : Int) * n ≤ 32768 * n := Int.mul_le_mul_of_nonneg_right (by omega) h0
          _ ≤ 281474976710656 := by omega
      have hrun := run_make (P := P) w t e inf zv hu h1 h4 .i64 .i64 n n h0 (Int.le_refl _) hbn (by omega)
      have hrun2 : (execOp a.eval o).run P w = .ok (.value (.slice (some ⟨w.heap.size, 0, none⟩) n.toNat n.toNat)) (w.alloc (.cells (madeCells zv.cells (n.toNat * inf.size)) e)) := by
        simp only [execOp, ho, hx, hy, Sem.run_bind, hrun, Result.andThen_ok]; rfl
      have hcs : zv.cells.size = ei.size := by rw [← hei.zl, ← h5]; simp
      have hcell : ∀ j, j < n.toNat * ei.size → (w.alloc (.cells (madeCells zv.cells (n.toNat * inf.size)) e)).cell? ⟨w.heap.size, j, none⟩ = some (ei.zero.getD (j % ei.size) undef) := by
        intro j hj
        have hp := hei.pos
        have hjm : j % ei.size < zv.cells.size := by rw [hcs]; exact Nat.mod_lt _ hp
        rw [World.cell?_alloc_new, madeCells, h2, hcs]
        have hjm2 : j % ei.size < ei.zero.length := by rw [hei.zl]; exact Nat.mod_lt _ hp
        simp [hj, ← h5, List.getD_eq_getElem?_getD, hjm]
      have hown := own_new (Kp := E.Kp) (w' := w.alloc (.cells (madeCells zv.cells (n.toNat * inf.size)) e)) (b := w.heap.size) (cap := n.toNat) (enc := enc) (l := List.replicate n.toNat z) (fun i f => ei.zero.getD f undef) hz (alloc_lt _ _) (by simp) (by simp; omega)
        (fun j hj => ⟨⟨_, hcell j hj⟩, by rw [World.frozen?_alloc_new]⟩)
        (fun i f hi hf => by
          simp only [List.length_replicate] at hi
          rw [Nat.zero_add, hcell _ (idx_lt hi hf), (divmod hf).2])
        (fun i f hi hf => by
          simp only [List.length_replicate] at hi
          obtain ⟨u, hu1, hu2⟩ := zero_get hei hf
          have : (enc z)[f]? = some (.lf u) := by rw [hzz]; simp [hu1]
          simp [dat, hi, List.getD_eq_getElem?_getD, this, hu1, hu2])
      rw [List.length_replicate] at hown
      exact wp_val hrun2 (finRow r (Ext.alloc w _) hd hown (by rintro y rfl; exact Nat.le_refl _) (by rintro y rfl j; rw [World.frozen?_alloc_new]) hk)
    · exact hk.elim
  · exact hk.elim

theorem op_convert {t u : TypeId} {x : Operand} (hT : TOk P T) (r : Rel C E s h a w) (hd : ∀ d, o.dst = some d → d < C.nt) (ho : o.op = .convert t u x)
    (hk : rdOp T S (.convert t u x) o.dst (val s) (lookO h) fun v new => putN o.dst v new s h K) : o.wp P a w (Post C K) Q := by
  simp only [rdOp, convV] at hk
  obtain ⟨si, hsi, hk'⟩ := ty_ok hT hk
  clear hk; have hk := hk'; clear hk'
  obtain ⟨di, hdi, hk'⟩ := ty_ok hT hk
  clear hk; have hk := hk'; clear hk'
  have hus := hsi.und
  have hud := hdi.und
  have hrun : ∀ y w', (convert t u (a.eval x)).run P w = .ok y w' → (execOp a.eval o).run P w = .ok (.value y) w' := by
    intro y w' hy; simp only [execOp, ho, Sem.run_bind, hy, Result.andThen_ok]; rfl
  split at hk
  · rename_i k n e
    have hx := (r.lf e).1
    split at hk
    · rename_i ks kd es ed
      rw [es] at hus; rw [ed] at hud
      refine val_lf r hd (hrun _ _ ?_) rfl hk
      rw [hx]; simp [convert, run_underlying hus, run_underlying hud, Conv.intToInt]
    · exact hk.elim
  · rename_i b e
    have hx := (r.lf e).1
    split at hk
    · rename_i es ed
      rw [es] at hus; rw [ed] at hud
      refine val_lf r hd (hrun _ _ ?_) rfl hk
      rw [hx]; simp [convert, run_underlying hus, run_underlying hud]
    · rename_i el es ed
      rw [es] at hus; rw [ed] at hud
      obtain ⟨ei, hei, hk'⟩ := ty_ok hT hk
      clear hk; have hk := hk'; clear hk'
      have hue := hei.und
      split at hk
      · rename_i ee
        rw [ee] at hue
        obtain ⟨hlim, hk⟩ := hk
        have hr := hrun _ _ (by rw [hx]; exact run_bytes_of_string w t u el b hus hud hue)
        have hge := grownCap_ge w b.size 0 el
        have hrow : (bytesRow b (grownCap w b.size 0 el)).size = grownCap w b.size 0 el := by
          unfold bytesRow; have : b.data.size = b.size := rfl; simp [this]; omega
        have hlen : b.data.toList.length = b.size := by simp
        have hlim' : b.size ≤ 4294967296 := hlim
        have hown := own_new (Kp := E.Kp) (w' := w.drew.alloc (.cells (bytesRow b (grownCap w b.size 0 el)) el ((bytesRow b (grownCap w b.size 0 el)).size, (bytesRow b (grownCap w b.size 0 el)).size + 1))) (b := w.heap.size) (sz := 1)
          (cap := grownCap w b.size 0 el) (enc := encB) (l := b.data.toList) (fun i f => .int .u8 ((b.data.toList.getD i 0).toNat : Int)) (fun _ => rfl) (alloc_lt w.drew _) (by omega) (by omega)
          (fun j hj => ⟨by
            have e2 := World.cell?_alloc_mark w.drew (bytesRow b (grownCap w b.size 0 el)) el ((bytesRow b (grownCap w b.size 0 el)).size, (bytesRow b (grownCap w b.size 0 el)).size + 1) j
            have hj' : j < (bytesRow b (grownCap w b.size 0 el)).size := by omega
            exact ⟨_, e2.trans (Array.getElem?_eq_getElem hj')⟩, by
            have e2 := World.frozen?_alloc_mark w.drew (bytesRow b (grownCap w b.size 0 el)) el (bytesRow b (grownCap w b.size 0 el)).size ((bytesRow b (grownCap w b.size 0 el)).size + 1) j
            refine e2.trans ?_
            simp; omega⟩)
          (fun i f hi hf => by
            have e2 := World.cell?_alloc_mark w.drew (bytesRow b (grownCap w b.size 0 el)) el ((bytesRow b (grownCap w b.size 0 el)).size, (bytesRow b (grownCap w b.size 0 el)).size + 1) i
            obtain rfl : f = 0 := by omega
            have hi' : i < b.data.size := by simpa using hi
            rw [bytesRow_at _ _ _ hi'] at e2
            rw [show 0 + (i * 1 + 0) = i by omega]
            refine e2.trans ?_
            simp [hi', Array.getElem?_eq_getElem hi'])
          (fun i f hi hf => by
            obtain rfl : f = 0 := by omega
            simp [dat, List.getElem?_eq_getElem hi, encB, isSc])
        rw [hlen] at hown
        exact wp_val hr (finRo r ((Ext.drew w).trans (Ext.alloc _ _)) hd (alloc_lt w.drew _) hown hk)
      · exact hk.elim
    · exact hk.elim
  · rename_i e
    have hx := (r.lf e).1
    split at hk
    · rename_i el es ed
      rw [es] at hus; rw [ed] at hud
      obtain ⟨ei, hei, hk'⟩ := ty_ok hT hk
      clear hk; have hk := hk'; clear hk'
      have hue := hei.und
      split at hk
      · rename_i ee
        rw [ee] at hue
        refine val_lf r hd (hrun _ _ ?_) rfl hk
        rw [hx, run_convert_bytes_string w t u el none 0 0 hus hue hud]; rfl
      · exact hk.elim
    · exact hk.elim
  · rename_i tt cut e
    split at hk
    · rename_i el es ed
      rw [es] at hus; rw [ed] at hud
      obtain ⟨ei, hei, hk'⟩ := ty_ok hT hk
      clear hk; have hk := hk'; clear hk'
      have hue := hei.und
      have hsl := r.vr (x := x) (by rw [e]; simp)
      rw [e] at hsl
      have main : ∀ (bs : List UInt8) (vals : Nat → Nat → Value), SlC w (a.eval x) 1 bs.length vals → (∀ i, i < bs.length → vals i 0 = .int .u8 ((bs.getD i 0).toNat : Int)) → ei.d = .int .u8 →
          putN o.dst (.lf (.string ⟨bs.toArray⟩)) [] s h K → o.wp P a w (Post C K) Q := by
        intro bs vals hs hv ee hk
        rw [ee] at hue
        refine val_lf r hd (hrun _ _ ?_) rfl hk
        obtain ⟨base, c, hx, hc, hm, hb, hrow⟩ := hs
        rw [hx]
        cases base with
        | none =>
          obtain ⟨h1, rfl⟩ := hb rfl
          rw [List.length_eq_zero_iff] at h1; subst h1
          rw [run_convert_bytes_string w t u el none _ 0 hus hue hud]; rfl
        | some ad =>
          refine run_convert_bytes_back w t u el _ c bs hus hue hud fun j hj => ?_
          rcases hrow _ rfl with hn0 | ⟨b, oo, rfl, hrow2⟩
          · omega
          have := hrow2 j 0 hj (by omega)
          rw [hv j hj] at this
          simp [List.getD_eq_getElem?_getD, List.getElem?_eq_getElem hj] at this
          simpa [Addr.add_lit] using this
      split at hk
      · rename_i ee
        split at hk
        · rename_i k sz α enc l eo
          split at hk
          · rename_i esz
            obtain rfl := nbeq_eq esz
            obtain ⟨bs, hbs, hk⟩ := hk
            obtain ⟨hz, vals, hs, hr⟩ := sl_row r.obs eo hsl
            have hl : (cutL cut l).length = bs.length := by have := congrArg List.length hbs; simpa using this
            refine main bs vals (hl ▸ hs) (fun i hi => ?_) ee hk
            have h1 := hr i 0 (by omega) (by omega)
            rw [← dat_map, hbs, dat_map] at h1
            simp only [dat, List.getElem?_eq_getElem hi, encB] at h1
            rw [h1.lf_inv.1]
            simp [List.getD_eq_getElem?_getD, List.getElem?_eq_getElem hi]
          · exact hk.elim
        · rename_i own sz els eo
          split at hk
          · rename_i esz
            obtain rfl := nbeq_eq esz
            obtain ⟨hz, vals, hs, hr⟩ := sl_arr r.obs eo hsl
            obtain ⟨ds, ⟨bs, rfl, hk⟩, hl, hl3, hro⟩ := rdEls_sound r.obs 40 1 (cutL cut els) vals _ hz hr hk
            have hl' : (cutL cut els).length = bs.length := by rw [← hl]; simp
            refine main bs vals (hl' ▸ hs) (fun i hi => ?_) ee hk
            have h1 := hro i 0 (by omega) (by omega)
            rw [dat_map] at h1
            simp only [dat, List.getElem?_eq_getElem hi, encB] at h1
            rw [h1.lf_inv.1]
            simp [List.getD_eq_getElem?_getD, List.getElem?_eq_getElem hi]
          · exact hk.elim
        · exact hk.elim
      · exact hk.elim
    · exact hk.elim
  · exact hk.elim
end
end Go.Vm
