/- A verified evaluator for Go code: regions whose order is drawn, new variables and what waits. -/
import Derived.Test.YtedffkngbjlgdaaGreatDoorVm7c
namespace Go.Vm
open Go.RowKit
set_option linter.unusedVariables false
set_option linter.unusedSimpArgs false

section
variable {P : Program} {T : Tab} {S : Cons} {C : Ctx} {E E1 : Env} {s : Sl} {h h1 : Hp} {a : Act} {w w' : World} {K : Sl → Hp → Prop} {Q : Exit → Act → World → Prop} {o : Oper} {v : Value}

theorem TyOk.same {t : TypeId} {i j : TyI} (h1 : TyOk P t i) (h2 : TyOk P t j) : i.zero = j.zero ∧ i.size = j.size := by
  obtain ⟨inf, z, a1, a2, a3, a4, a5, a6, a7⟩ := h1.info
  obtain ⟨inf', z', b1, b2, b3, b4, b5, b6, b7⟩ := h2.info
  rw [a1] at b1; cases b1
  rw [a4] at b4; cases b4
  exact ⟨a5.symm.trans b5, a2.symm.trans b2⟩

/-- A new variable that is there ahead of its time. -/
def AhB (P : Program) (C : Ctx) (w : World) (E : Env) (h : Hp) (o : Oper) (a : Act) (blk : Nat) : Prop :=
  ∃ e d ti, o.op = .alloc e ∧ o.dst = some d ∧ TyOk P e ti ∧ a.tmps.getD d undef = .pointer (some ⟨blk, 0, none⟩) ∧ blk < w.heap.size ∧ C.ok blk ∧
    (∀ j, j < ti.zero.length → w.cell? ⟨blk, j, none⟩ = some (ti.zero.getD j undef)) ∧ (∀ j, w.frozen? ⟨blk, j, none⟩ = false) ∧ ¬ E.R blk ∧ ∀ t, (lookO h t).isSome = true → ¬ E.F t blk

theorem AhB.mono {a' : Act} {E' : Env} {h' : Hp} {blk : Nat} (x : AhB P C w E h o a blk) (f : FrOK w E h w' E' h') (ha : ∀ d, o.dst = some d → a'.tmps.getD d undef = a.tmps.getD d undef) : AhB P C w' E' h' o a' blk := by
  obtain ⟨e, d, ti, x1, x2, x3, x4, x5, x6, x7, x8, x9, x10⟩ := x
  obtain ⟨f1, f2, f3⟩ := f.2 blk x5 x10 x9
  exact ⟨e, d, ti, x1, x2, x3, by rw [ha d x2]; exact x4, Nat.lt_of_lt_of_le x5 f.1, x6, fun j hj => by rw [cell_eq f1]; exact x7 j hj, fun j => by rw [frozen_eq f1]; exact x8 j, f2, f3⟩

theorem FrOK.same (hw : w.heap.size ≤ w'.heap.size) (hb : ∀ b, b < w.heap.size → w'.heap[b]? = w.heap[b]?) : FrOK w E h w' E h := ⟨hw, fun b h1 h2 h3 => ⟨hb b h1, h3, h2⟩⟩

theorem tyHas_ok {e : Nat} : ∀ {T : Tab}, TOk P T → tyHas T e = true → ∃ ti, TyOk P e ti
  | [], _, h => by simp [tyHas] at h
  | (k, i) :: T, hT, h => by
    simp only [tyHas] at h
    split at h
    · rename_i e1
      obtain rfl := nbeq_eq e1
      exact ⟨i, hT (k, i) (List.mem_cons_self ..)⟩
    · exact tyHas_ok (fun p hp => hT p (List.mem_cons_of_mem _ hp)) h

/-- A new variable is made ahead of its time. -/
theorem al_run (hT : TOk P T) (r : Rel C E s h a w) {d : Nat} (hd : d < C.nt) (e : o.dst = some d) (hh : alHas T o.op = true) (hdead : look s d = .dead) :
    ∃ v w', (∀ b : Act, (execOp b.eval o).run P w = .ok (.value v) w') ∧ Rel C E s h (a.put (some d) v) w' ∧ FrOK w E h w' E h ∧ ∃ blk, w.heap.size ≤ blk ∧ AhB P C w' E h o (a.put (some d) v) blk := by
  unfold alHas at hh
  split at hh
  · rename_i op te ho
    obtain ⟨ti, hti⟩ := tyHas_ok hT hh
    obtain ⟨z, hz, hzc, _⟩ := run_zero (w := w) hti
    have hrun : ∀ b : Act, (execOp b.eval o).run P w = .ok (.value (.pointer (some ⟨w.heap.size, 0, none⟩))) (w.alloc (.cells ti.zero.toArray te)) := by
      intro b
      simp only [execOp, ho, Instr.alloc, newVar, newRow]
      simp only [Sem.run_bind, hz, Result.andThen_ok, run_newObj, Sem.run_pure]
      rw [show z.cells = ti.zero.toArray by rw [← hzc]]
      rfl
    have hx : Ext w (w.alloc (.cells ti.zero.toArray te)) := Ext.alloc w _
    have hds : d < a.tmps.size := by rw [r.nt]; exact hd
    refine ⟨_, _, hrun, ?_, FrOK.same hx.shape.size hx.blk, w.heap.size, Nat.le_refl _, ?_⟩
    · have h1 := r.put (dst := some d) (V := .dead) (v := .pointer (some ⟨w.heap.size, 0, none⟩)) hx (r.hs.world hx.shape hx.blk) (fun d' hd' => by cases hd'; exact hd) (.inl rfl) (fun n u _ => Sub.refl E _ u)
      refine h1.looks fun n => ?_
      simp only [Vm.put]
      rw [look_cons]
      split
      · rename_i e1; subst e1; exact .inl hdead
      · exact .inr rfl
    · refine ⟨te, d, ti, ho, e, hti, put_getD hds, by simp, .inl r.shape.size, fun j hj => ?_, fun j => by rw [World.frozen?_alloc_new], fun hR => Nat.lt_irrefl _ (r.Rlt _ hR), fun t ht hF => Nat.lt_irrefl _ (r.Fin t ht _ hF).1⟩
      rw [World.cell?_alloc_new]
      simp [hj, List.getD_eq_getElem?_getD]
  · cases hh

/-- A new variable's time comes. -/
theorem al_absorb (hT : TOk P T) (r : Rel C E s h a w) {blk : Nat} (hd : ∀ d, o.dst = some d → d < C.nt) (x : AhB P C w E h o a blk)
    (hk : rdOp T S o.op o.dst (val s) (lookO h) fun v new => putN o.dst v new s h K) :
    ∃ E' s' h', Rel C E' s' h' a w ∧ K s' h' ∧ ∀ b, b ≠ blk → ¬ E.R b → (∀ t, (lookO h t).isSome = true → ¬ E.F t b) → ¬ E'.R b ∧ ∀ t, (lookO h' t).isSome = true → ¬ E'.F t b := by
  obtain ⟨te, d, ti, ho, hdst, hti, hv, hb, hok, hcell, hfr, hR, hF⟩ := x
  rw [ho, hdst] at hk
  simp only [rdOp] at hk
  obtain ⟨tj, htj, hk'⟩ := ty_ok hT hk
  clear hk
  have hk := lfs_ok hk'
  obtain ⟨e1, e2⟩ := hti.same htj
  rw [e1] at hcell
  obtain ⟨hz1, hz2⟩ := zero_VR htj E (lookO h) w
  simp only [putN, free, tg] at hk
  split at hk
  · exact hk.elim
  · rename_i f1
    split at hk
    · exact hk.elim
    · rename_i f2
      rw [fv_eq] at hk
      have hnm' : NoMen (16 * d) h := noMen_of_ref (by rw [Nat.mul_div_cancel_left d (by decide : 0 < 16)]; exact f2)
      have hob : ObR w (E.set (16 * d) (some (blk, 0)) (fun x => x = blk)) (lookO ((16 * d, some (.arr true tj.size [tj.zero.map .lf])) :: h)) (16 * d) (.arr true tj.size [tj.zero.map .lf]) := by
        refine ⟨by simp, blk, 0, Env.set_γ _ _ _ _, hb, by simp [htj.zl], ⟨fun i f => tj.zero.getD f undef, fun i f hi hf => ?_, fun i f hi hf => ?_⟩, fun x => Env.set_F _ _ _ _ x, fun j hj => hfr _⟩
        · obtain rfl : i = 0 := by simpa using hi
          rw [show 0 + (0 * tj.size + f) = f by omega]
          exact hcell f (by rw [htj.zl]; exact hf)
        · obtain rfl : i = 0 := by simpa using hi
          obtain ⟨q1, q2⟩ := arr1 hz1 hz2 (by simp [htj.zl] : (tj.zero.map Vm.V.lf).length = tj.size) 0 f (by simp) hf
          rw [show 0 * tj.size + f = f by omega] at q1 q2
          refine ⟨VR.mono (Shape.refl w) _ _ (fun u hu => ?_) q1, q2⟩
          have : men u ((([tj.zero.map Vm.V.lf] : List (List Vm.V)).getD 0 []).getD f .dead) = false := by
            simp only [List.getD_cons_zero]
            have h3 := mens_lf u tj.zero
            rw [List.getD_eq_getElem?_getD]
            cases e3 : (tj.zero.map Vm.V.lf)[f]? with
            | none => rfl
            | some q =>
              have := List.mem_of_getElem? e3
              simp only [List.mem_map] at this
              obtain ⟨q', _, rfl⟩ := this
              rfl
          rw [this] at hu; cases hu
      have hfresh : Fresh C w E ((16 * d, none) :: h) (fun x => x = blk) := by
        rintro x rfl
        refine ⟨hb, ⟨hok, hfr⟩, hR, fun u hu hF' => ?_⟩
        rw [lookO_cons] at hu
        split at hu
        · cases hu
        · exact hF u hu hF'
      have hs2 := r.hs.add hnm' hfresh hob
      have hlt : lookO ((16 * d, some (.arr true tj.size [tj.zero.map .lf])) :: h) (16 * d) = some (.arr true tj.size [tj.zero.map .lf]) := by rw [lookO_cons, if_pos rfl]
      refine ⟨_, _, _, ⟨hs2.ob, hs2.dis, hs2.disR, hs2.KR, hs2.Rlt, hs2.Fin, hs2.R0, hs2.K0, hs2.Rin, hs2.Kin, fun n => ?_, r.nt, r.shape, r.frame, r.defers⟩, hk, fun b hne hRb hFb => ⟨hRb, fun t ht => ?_⟩⟩
      · rw [look_cons]
        split
        · rename_i e3; subst e3
          have hdn := hd _ hdst
          have := C.ntle
          rw [tv_lt (fun h => absurd (Nat.lt_of_lt_of_le hdn C.ntle) (Nat.not_lt.2 h)), hv]
          refine .inr ⟨⟨_, rfl⟩, fun o' ho' => ?_⟩
          have ho2 : some (Ob.arr true tj.size [tj.zero.map .lf]) = some o' := hlt.symm.trans ho'
          cases ho2
          exact ⟨blk, 0, Env.set_γ _ _ _ _, by simp⟩
        · refine (r.sl n).imp id fun q => VR.mono (Shape.refl w) _ _ (fun u hu o' ho' => ?_) q
          have e3 : u ≠ 16 * d := by
            rintro rfl
            have := men_of_slRef (t := 16 * d) (s := s) (by rw [Nat.mul_div_cancel_left d (by decide : 0 < 16)]; exact f1) n
            rw [this] at hu; cases hu
          have ho2 : lookO ((16 * d, some (.arr true tj.size [tj.zero.map .lf])) :: h) u = some o' := ho'
          rw [lookO_cons, if_neg (Ne.symm e3)] at ho2
          exact ⟨o', ho2, rfl, rfl, id, Env.set_γ' _ _ _ e3⟩
      · by_cases e3 : t = 16 * d
        · subst e3
          rw [Env.set_F]
          exact hne
        · rw [Env.set_F' _ _ _ e3]
          have ht2 : (lookO ((16 * d, some (.arr true tj.size [tj.zero.map .lf])) :: h) t).isSome = true := ht
          rw [lookO_cons, if_neg (Ne.symm e3)] at ht2
          exact hFb t ht2
end
end Go.Vm
