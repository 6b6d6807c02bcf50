/- A verified evaluator for Go code: structs that are built, new variables, literals of slices. -/
import Derived.Test.YtedffkngbjlgdaaGreatDoorVm3f
namespace Go.Vm
open Go.RowKit
set_option linter.unusedVariables false
set_option linter.unusedSimpArgs false

section
variable {P : Program} {T : Tab} {S : Cons} {C : Ctx} {E : Env} {s : Sl} {h : Hp} {a : Act} {w w' : World} {K : Sl → Hp → Prop} {Q : Exit → Act → World → Prop} {o : Oper} {v : Value}

theorem places_ok : ∀ (l : List Field) (fs : List (Nat × Nat × Nat × Bool)), l.length = fs.length → (∀ (j : Nat) (x : Nat × Nat × Nat × Bool), fs[j]? = some x → ∃ f : Field, l[j]? = some f ∧ FieldOk P f x) →
    l.mapM (fun f => (P.info? f.type).map fun i => (f.offset, i.size)) = some (fs.map fun x => (x.2.1, x.2.2.1))
  | [], [], _, _ => rfl
  | f :: l, x :: fs, hl, h => by
    obtain ⟨f', h1, h2⟩ := h 0 x rfl
    simp only [List.getElem?_cons_zero, Option.some.injEq] at h1
    subst h1
    have ih := places_ok l fs (by simpa using hl) (fun j y hy => by simpa using h (j + 1) y (by simpa using hy))
    have h3 := h2.size
    cases e : P.info? f.type with
    | none => rw [e] at h3; cases h3
    | some inf =>
      rw [e] at h3
      simp only [Option.map_some, Option.some.injEq] at h3
      rw [List.mapM_cons, ih, e]
      simp [h3, h2.off]
  | [], x :: fs, hl, _ => by simp at hl
  | f :: l, [], hl, _ => by simp at hl

theorem zero_VR {P : Program} {t : TypeId} {i : TyI} (hi : TyOk P t i) (E : Env) (g : Nat → Option Ob) (w : World) : VRs w E g (i.zero.map .lf) i.zero ∧ ∀ x ∈ i.zero, x.oneCell' = true := by
  have := hi.zs
  generalize i.zero = l at this
  induction l with
  | nil => exact ⟨rfl, by simp⟩
  | cons x l ih =>
    simp only [allSc] at this
    split at this
    · rename_i e
      obtain ⟨h1, h2⟩ := ih this
      refine ⟨⟨x, l, rfl, ⟨rfl, e⟩, h1⟩, fun y hy => ?_⟩
      cases hy with
      | head => exact isSc_one e
      | tail _ hy => exact h2 y hy
    · cases this

theorem run_zero {t : TypeId} {i : TyI} (hi : TyOk P t i) : ∃ z, (zeroValue t).run P w = .ok z w ∧ z.cells.toList = i.zero ∧ P.info? t ≠ none := by
  obtain ⟨inf, z, h1, h2, h3, h4, h5, h6, h7⟩ := hi.info
  exact ⟨z, by simp [zeroValue, typeInfo, h1, h4], h5, by rw [h1]; simp⟩

theorem yl_build {t : TypeId} {ps : Array (Nat × Operand)} (hT : TOk P T) {k : Vm.V → Hp → Prop} (r : Rel C E s h a w) (ho : o.op = .build t ps)
    (hk : rdOp T S (.build t ps) o.dst (val s) (lookO h) k) : Yld P o a w E h k := by
  simp only [rdOp] at hk
  obtain ⟨ti, hti, hk'⟩ := ty_ok hT hk
  clear hk
  have hu := hti.und
  split at hk'
  · rename_i fs ed
    rw [ed] at hu
    obtain ⟨F, hF, hFl, hfs⟩ := hu
    have hk := lfs_ok hk'
    obtain ⟨hz1, hz2⟩ := zero_VR hti E (lookO h) w
    have hpl := places_ok (P := P) F.toList fs (by simpa using hFl) (fun j x hx => by
      obtain ⟨f, h1, h2⟩ := hfs j x hx
      exact ⟨f, by simpa using h1, h2⟩)
    obtain ⟨cs', vs', g1, g2, g3, g4⟩ := fill_ok r (pl := fun x => (fs.map fun x => (x.2.1, x.2.2.1)).toArray[x]?) (fun j x hx => by simp [hx]) ps.toList _ _ _ hz1 hz2 hk
    have g1' := fvs_ok g1
    refine yl0 (V := .agg cs') (v := .agg vs'.toArray) ?_ (.inr ⟨vs', rfl, g2, g3⟩) g1'
    obtain ⟨inf, z, h1, h2, h3, h4, h5, h6, h7⟩ := hti.info
    have hb : P.built t (ps.map fun (i, x) => (i, a.eval x)).toList = some vs'.toArray := by
      unfold Program.built
      rw [h1, hF]
      simp only [h4]
      rw [hpl]
      simp only [Array.toList_map]
      rw [← g4]
      congr 1
      rw [← h5]
    simp only [execOp, ho, Sem.run_bind]
    rw [run_build w t _ _ hb]; rfl
  · exact hk'.elim

/-- A new block becomes an object of few elements. -/
theorem op_build {t : TypeId} {ps : Array (Nat × Operand)} (hT : TOk P T) (r : Rel C E s h a w) (hd : ∀ d, o.dst = some d → d < C.nt) (ho : o.op = .build t ps)
    (hk : rdOp T S (.build t ps) o.dst (val s) (lookO h) fun v new => putN o.dst v new s h K) : o.wp P a w (Post C K) Q :=
  (yl_build hT r ho hk).wp r hd

theorem finArr {V : Vm.V} {cells : List Value} {els : List (List Vm.V)} {sz : Nat} {elem : TypeId} (r : Rel C E s h a w) (hd : ∀ d, o.dst = some d → d < C.nt)
    (h1 : els.length * sz = cells.length) (hz : ∀ e ∈ els, e.length = sz) (hle : els.length ≤ 9223372036854775807)
    (hvr : ∀ i f, i < els.length → f < sz → VR w E (lookO h) ((els.getD i []).getD f .dead) (cells.getD (i * sz + f) undef) ∧ (cells.getD (i * sz + f) undef).oneCell' = true)
    (hmen : ∀ d, o.dst = some d → (∀ n m, m / 16 = d → men m (look s n) = false) → ∀ m, m / 16 = d → elsMen m els = false)
    (hV : (V = .pt (tg o.dst) 0 0 ∧ v = .pointer (some ⟨w.heap.size, 0, none⟩)) ∨ (V = .sl (tg o.dst) none ∧ v = .slice (some ⟨w.heap.size, 0, none⟩) els.length els.length))
    (hp : putN o.dst V [(tg o.dst, some (.arr true sz els))] s h K) : Post C K (a.put o.dst v) (w.alloc (.cells cells.toArray elem)) := by
  have hx : Ext w (w.alloc (.cells cells.toArray elem)) := Ext.alloc w _
  refine finN r hx hd hp fun d hdst hnm hsl => ?_
  have htg : tg o.dst = 16 * d := by rw [hdst]; rfl
  rw [htg] at hV ⊢
  have hs := r.hs.world hx.shape hx.blk
  have hb : w.heap.size < (w.alloc (.cells cells.toArray elem)).heap.size := by simp
  have hcell : ∀ j, j < cells.length → (w.alloc (.cells cells.toArray elem)).cell? ⟨w.heap.size, j, none⟩ = some (cells.getD j undef) := by
    intro j hj
    rw [World.cell?_alloc_new]
    simp [hj, List.getD_eq_getElem?_getD]
  have hfr : ∀ j, (w.alloc (.cells cells.toArray elem)).frozen? ⟨w.heap.size, j, none⟩ = false := fun j => by rw [World.frozen?_alloc_new]
  have hnm' : NoMen (16 * d) h := hnm (16 * d) (by omega) (by omega)
  have hidx : ∀ i f, i < els.length → f < sz → i * sz + f < cells.length := by
    intro i f hi hf
    rw [← h1]
    calc i * sz + f < i * sz + sz := by omega
      _ = (i + 1) * sz := by rw [Nat.add_mul]; omega
      _ ≤ els.length * sz := Nat.mul_le_mul_right _ hi
  have hme : ∀ m, m / 16 = d → elsMen m els = false := hmen d hdst hsl
  have hob : ObR (w.alloc (.cells cells.toArray elem)) (E.set (16 * d) (some (w.heap.size, 0)) (fun x => x = w.heap.size)) (lookO ((16 * d, some (.arr true sz els)) :: h)) (16 * d) (.arr true sz els) := by
    refine ⟨hle, w.heap.size, 0, Env.set_γ _ _ _ _, hb, hz, ⟨fun i f => cells.getD (i * sz + f) undef, fun i f hi hf => ?_, fun i f hi hf => ⟨?_, (hvr i f hi hf).2⟩⟩, fun x => Env.set_F _ _ _ _ x, fun j hj => hfr _⟩
    · rw [Nat.zero_add]; exact hcell _ (hidx i f hi hf)
    · refine VR.mono hx.shape _ _ (fun u hu o' ho' => ?_) (hvr i f hi hf).1
      have e : u ≠ 16 * d := by
        rintro rfl
        have := hme (16 * d) (by omega)
        rw [elsMen_get hu] at this; cases this
      rw [lookO_cons, if_neg (Ne.symm e)] at ho'
      exact ⟨o', ho', rfl, rfl, id, Env.set_γ' _ _ _ e⟩
  have hfresh : Fresh C (w.alloc (.cells cells.toArray elem)) E ((16 * d, none) :: h) (fun x => x = w.heap.size) := by
    rintro x rfl
    refine ⟨hb, ⟨.inl r.shape.size, fun j => hfr j⟩, fun hR => Nat.lt_irrefl _ (r.Rlt _ hR), fun u hu hF => ?_⟩
    rw [lookO_cons] at hu
    split at hu
    · cases hu
    · exact Nat.lt_irrefl _ (r.Fin u hu _ hF).1
  have hs2 := hs.add hnm' hfresh hob
  have hlt : lookO ((16 * d, some (.arr true sz els)) :: h) (16 * d) = some (.arr true sz els) := by rw [lookO_cons, if_pos rfl]
  refine ⟨_, hs2, fun u hu o' ho' => ?_, .inr ?_⟩
  · have e : u ≠ 16 * d := by rintro rfl; omega
    have ho2 : lookO ((16 * d, some (.arr true sz els)) :: h) u = some o' := ho'
    rw [lookO_cons, if_neg (Ne.symm e)] at ho2
    exact ⟨o', ho2, rfl, rfl, id, Env.set_γ' _ _ _ e⟩
  · show VR _ _ (lookO ((16 * d, some (.arr true sz els)) :: h)) V v
    rcases hV with ⟨rfl, rfl⟩ | ⟨rfl, rfl⟩
    · refine ⟨⟨_, rfl⟩, fun o' ho' => ?_⟩
      rw [hlt] at ho'; cases ho'
      exact ⟨w.heap.size, 0, Env.set_γ _ _ _ _, by simp⟩
    · refine ⟨rfl, fun o' ho' => ?_⟩
      rw [hlt] at ho'; cases ho'
      rw [Env.set_γ]
      refine ⟨0, els.length, 0, els.length, .inl ⟨rfl, rfl, rfl⟩, by simp [Ob.len], Nat.le_refl _, .inr (by simp), rfl, fun j hj => ?_⟩
      have hj' : j < cells.length := by simp only [Ob.sz] at hj; omega
      rw [Nat.zero_add]
      exact ⟨⟨_, hcell j hj'⟩, fun _ => hfr j⟩

theorem men_val {d : Nat} {x : Operand} (hsl : ∀ n m, m / 16 = d → men m (look s n) = false) (m : Nat) (hm : m / 16 = d) : men m (val s x) = false := by
  cases x with
  | tmp t =>
    simp only [val]
    split
    · rfl
    · exact hsl t m hm
  | func f => rfl
  | global g => rfl
  | const v =>
    simp only [val]
    cases v with
    | agg cs =>
      simp only [ofVal]
      split
      · simp only [Go.Vm.men]
        generalize cs.toList = l
        induction l with
        | nil => rfl
        | cons x l ih => simp only [List.map_cons, mens, Go.Vm.men]; exact ih
      · rfl
    | tuple cs => rfl
    | _ => simp only [ofVal]; split <;> rfl

theorem mens_lf (m : Nat) (l : List Value) : mens m (l.map .lf) = false := by
  induction l with
  | nil => rfl
  | cons x l ih => simp only [List.map_cons, mens, Go.Vm.men]; exact ih

theorem arr1 {g : Nat → Option Ob} {sz : Nat} {cs : List Vm.V} {vs : List Value} (h : VRs w E g cs vs) (h1 : ∀ x ∈ vs, x.oneCell' = true) (hl : cs.length = sz) :
    ∀ i f, i < [cs].length → f < sz → VR w E g (([cs].getD i []).getD f .dead) (vs.getD (i * sz + f) undef) ∧ (vs.getD (i * sz + f) undef).oneCell' = true := by
  intro i f hi hf
  obtain rfl : i = 0 := by simpa using hi
  obtain ⟨x, hx, h2⟩ := h.get f (by omega)
  have : vs.getD (0 * sz + f) undef = x := by simp [List.getD_eq_getElem?_getD, hx]
  rw [this]
  exact ⟨h2, h1 x (List.mem_of_getElem? hx)⟩

theorem op_alloc {e : TypeId} (hT : TOk P T) (r : Rel C E s h a w) (hd : ∀ d, o.dst = some d → d < C.nt) (ho : o.op = .alloc e)
    (hk : rdOp T S (.alloc e) o.dst (val s) (lookO h) fun v new => putN o.dst v new s h K) : o.wp P a w (Post C K) Q := by
  simp only [rdOp] at hk
  obtain ⟨ti, hti, hk'⟩ := ty_ok hT hk
  clear hk
  have hk := lfs_ok hk'
  obtain ⟨hz1, hz2⟩ := zero_VR hti E (lookO h) w
  obtain ⟨z, hz, hzc, _⟩ := run_zero (w := w) hti
  have hrun : (execOp a.eval o).run P w = .ok (.value (.pointer (some ⟨w.heap.size, 0, none⟩))) (w.alloc (.cells ti.zero.toArray e)) := by
    simp only [execOp, ho, Instr.alloc, newVar, newRow]
    simp only [Sem.run_bind, hz, Result.andThen_ok, run_newObj, Sem.run_pure]
    rw [show z.cells = ti.zero.toArray by rw [← hzc]]
    rfl
  refine wp_val hrun (finArr (els := [ti.zero.map .lf]) (cells := ti.zero) r hd (by simp [hti.zl]) (by simp [hti.zl]) (by simp) (arr1 hz1 hz2 (by simp [hti.zl])) (fun d _ _ m _ => by unfold elsMen; rw [mens_lf]; rfl) (.inl ⟨rfl, rfl⟩) hk)

theorem op_box {e : TypeId} {x : Operand} (hT : TOk P T) (r : Rel C E s h a w) (hd : ∀ d, o.dst = some d → d < C.nt) (ho : o.op = .box e x)
    (hk : rdOp T S (.box e x) o.dst (val s) (lookO h) fun v new => putN o.dst v new s h K) : o.wp P a w (Post C K) Q := by
  simp only [rdOp] at hk
  obtain ⟨ti, hti, hk'⟩ := ty_ok hT hk
  clear hk
  have hvd : val s x ≠ .dead := by intro e; rw [e] at hk'; exact hk'.elim
  obtain ⟨cs, hk2, h3, h4, h5⟩ := cells_VR (r.vr hvd) hk'
  split at hk2
  · rename_i en
    have hn := nbeq_eq en
    have hk3 := fvs_ok hk2
    have hrun : (execOp a.eval o).run P w = .ok (.value (.pointer (some ⟨w.heap.size, 0, none⟩))) (w.alloc (.cells (a.eval x).cells.toList.toArray e)) := by
      simp only [execOp, ho, Instr.box, newVar, newRow]
      simp only [Sem.run_bind, Result.andThen_ok, run_newObj, Sem.run_pure]
      rw [Array.toArray_toList]; rfl
    refine wp_val hrun (finArr (els := [cs]) (cells := (a.eval x).cells.toList) r hd (by rw [← h3.length]; simp [hn]) (by simp [hn]) (by simp) (arr1 h3 h4 hn) (fun d _ hsl m hm => ?_) (.inl ⟨rfl, rfl⟩) hk3)
    simp only [elsMen, h5 m (men_val (x := x) hsl m hm)]
  · exact hk2.elim
end
end Go.Vm
