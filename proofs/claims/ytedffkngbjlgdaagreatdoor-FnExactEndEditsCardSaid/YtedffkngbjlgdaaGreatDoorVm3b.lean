/- A verified evaluator for Go code: operations that only read. -/
import Derived.Test.YtedffkngbjlgdaaGreatDoorVm3
namespace Go.Vm
open Go.RowKit
set_option linter.unusedVariables false
set_option linter.unusedSimpArgs false

/-- What is known behind an operation. -/
def Post (C : Ctx) (K : Sl → Hp → Prop) (a : Act) (w : World) : Prop := ∃ E s h, Rel C E s h a w ∧ K s h

section
variable {P : Program} {T : Tab} {S : Cons} {C : Ctx} {E : Env} {s : Sl} {h : Hp} {a : Act} {w w' : World} {K : Sl → Hp → Prop} {Q : Exit → Act → World → Prop} {o : Oper} {v : Value}

theorem wp_val (hr : (execOp a.eval o).run P w = .ok (.value v) w') (hp : Post C K (a.put o.dst v) w') : o.wp P a w (Post C K) Q := by
  unfold Oper.wp; rw [hr]; exact hp
theorem wp_skip' (hr : (execOp a.eval o).run P w = .ok .skip w') (hp : Post C K (a.put o.dst undef) w') : o.wp P a w (Post C K) Q := by
  unfold Oper.wp; rw [hr]; exact hp

theorem val0 {V : Vm.V} (r : Rel C E s h a w) (hd : ∀ d, o.dst = some d → d < C.nt) (hr : (execOp a.eval o).run P w = .ok (.value v) w) (hv : V = .dead ∨ VR w E (lookO h) V v) (hk : putN o.dst V [] s h K) :
    o.wp P a w (Post C K) Q := wp_val hr (fin0 r (Ext.refl w) hd hv hk)

theorem val_lf {u : Value} (r : Rel C E s h a w) (hd : ∀ d, o.dst = some d → d < C.nt) (hr : (execOp a.eval o).run P w = .ok (.value u) w) (hv : isSc u = true) (hk : putN o.dst (.lf u) [] s h K) :
    o.wp P a w (Post C K) Q := val0 (V := .lf u) r hd hr (.inr ⟨rfl, hv⟩) hk

/-- A value comes, and nothing else happens. -/
def Yld (P : Program) (o : Oper) (a : Act) (w : World) (E : Env) (h : Hp) (k : Vm.V → Hp → Prop) : Prop :=
  ∃ V v, (execOp a.eval o).run P w = .ok (.value v) w ∧ (V = .dead ∨ VR w E (lookO h) V v) ∧ k V []
theorem Yld.wp (y : Yld P o a w E h fun v new => putN o.dst v new s h K) (r : Rel C E s h a w) (hd : ∀ d, o.dst = some d → d < C.nt) : o.wp P a w (Post C K) Q := by
  obtain ⟨V, v, h1, h2, h3⟩ := y
  exact val0 r hd h1 h2 h3
theorem yl0 {V : Vm.V} {k : Vm.V → Hp → Prop} (hr : (execOp a.eval o).run P w = .ok (.value v) w) (hv : V = .dead ∨ VR w E (lookO h) V v) (hk : k V []) : Yld P o a w E h k := ⟨V, v, hr, hv, hk⟩
theorem yl_lf {u : Value} {k : Vm.V → Hp → Prop} (hr : (execOp a.eval o).run P w = .ok (.value u) w) (hv : isSc u = true) (hk : k (.lf u) []) : Yld P o a w E h k := ⟨.lf u, u, hr, .inr ⟨rfl, hv⟩, hk⟩

theorem Rel.lf {x : Operand} {u : Value} (r : Rel C E s h a w) (e : Vm.val s x = .lf u) : a.eval x = u ∧ isSc u = true := by
  rcases r.val x with h1 | h1
  · rw [e] at h1; cases h1
  · rw [e] at h1; exact h1
theorem Rel.vr {x : Operand} (r : Rel C E s h a w) (e : Vm.val s x ≠ .dead) : VR w E (lookO h) (Vm.val s x) (a.eval x) := by
  rcases r.val x with h1 | h1
  · exact absurd h1 e
  · exact h1

theorem yl_move {x : Operand} {k : Vm.V → Hp → Prop} (r : Rel C E s h a w) (ho : o.op = .move x) (hk : k (val s x) []) : Yld P o a w E h k :=
  yl0 (by simp [execOp, ho]) (r.val x) hk
theorem op_move {x : Operand} (r : Rel C E s h a w) (hd : ∀ d, o.dst = some d → d < C.nt) (ho : o.op = .move x) (hk : putN o.dst (val s x) [] s h K) : o.wp P a w (Post C K) Q :=
  (yl_move r ho hk).wp r hd

theorem yl_assign {x : Operand} {k : Vm.V → Hp → Prop} (r : Rel C E s h a w) (ho : o.op = .assign x) (hk : k (val s x) []) : Yld P o a w E h k :=
  yl0 (by simp [execOp, ho]) (r.val x) hk
theorem op_assign {x : Operand} (r : Rel C E s h a w) (hd : ∀ d, o.dst = some d → d < C.nt) (ho : o.op = .assign x) (hk : putN o.dst (val s x) [] s h K) : o.wp P a w (Post C K) Q :=
  (yl_assign r ho hk).wp r hd

theorem yl_pick {c x y : Operand} {k : Vm.V → Hp → Prop} (r : Rel C E s h a w) (ho : o.op = .pick c x y)
    (hk : rdOp T S (.pick c x y) o.dst (val s) (lookO h) k) : Yld P o a w E h k := by
  simp only [rdOp] at hk
  split at hk
  · rename_i t e
    have hc := (r.lf e).1
    cases t with
    | true => exact yl0 (by simp [execOp, ho, asBool, hc]) (r.val x) hk
    | false => exact yl0 (by simp [execOp, ho, asBool, hc]) (r.val y) hk
  · exact hk.elim
theorem op_pick {c x y : Operand} (r : Rel C E s h a w) (hd : ∀ d, o.dst = some d → d < C.nt) (ho : o.op = .pick c x y)
    (hk : rdOp T S (.pick c x y) o.dst (val s) (lookO h) fun v new => putN o.dst v new s h K) : o.wp P a w (Post C K) Q :=
  (yl_pick r ho hk).wp r hd

theorem yl_nilCheck {x : Operand} {k : Vm.V → Hp → Prop} (r : Rel C E s h a w) (ho : o.op = .nilCheck x)
    (hk : rdOp T S (.nilCheck x) o.dst (val s) (lookO h) k) : Yld P o a w E h k := by
  simp only [rdOp] at hk
  split at hk
  · rename_i u j f e
    have hv := r.vr (x := x) (by rw [e]; simp)
    rw [e] at hv
    obtain ⟨ad, h1⟩ := hv.1
    exact yl0 (V := .pt u j f) (v := a.eval x) (by simp [execOp, ho, h1]) (.inr hv) hk
  · rename_i f cs e
    have hv := r.vr (x := x) (by rw [e]; simp)
    rw [e] at hv
    obtain ⟨vs, h1, h2⟩ := hv
    exact yl0 (V := .fn f cs) (v := a.eval x) (by simp [execOp, ho, h1]) (.inr ⟨vs, h1, h2⟩) hk
  · exact hk.elim
theorem op_nilCheck {x : Operand} (r : Rel C E s h a w) (hd : ∀ d, o.dst = some d → d < C.nt) (ho : o.op = .nilCheck x)
    (hk : rdOp T S (.nilCheck x) o.dst (val s) (lookO h) fun v new => putN o.dst v new s h K) : o.wp P a w (Post C K) Q :=
  (yl_nilCheck r ho hk).wp r hd

theorem yl_extract {x : Operand} {i : Nat} {k : Vm.V → Hp → Prop} (r : Rel C E s h a w) (ho : o.op = .extract x i)
    (hk : rdOp T S (.extract x i) o.dst (val s) (lookO h) k) : Yld P o a w E h k := by
  simp only [rdOp] at hk
  split at hk
  · rename_i vs e
    have hv := r.vr (x := x) (by rw [e]; simp)
    rw [e] at hv
    obtain ⟨us, h1, h2⟩ := hv
    rw [nth_eq] at hk
    split at hk
    · rename_i V e2
      have hi : i < vs.length := by
        rcases Nat.lt_or_ge i vs.length with h3 | h3
        · exact h3
        · rw [List.getElem?_eq_none h3] at e2; cases e2
      obtain ⟨u, hu, hvr⟩ := h2.get i hi
      have e3 : vs.getD i .dead = V := by simp [List.getD_eq_getElem?_getD, e2]
      rw [e3] at hvr
      exact yl0 (by simp [execOp, ho, Instr.extract, h1, hu]) (.inr hvr) hk
    · exact hk.elim
  · exact hk.elim
theorem op_extract {x : Operand} {i : Nat} (r : Rel C E s h a w) (hd : ∀ d, o.dst = some d → d < C.nt) (ho : o.op = .extract x i)
    (hk : rdOp T S (.extract x i) o.dst (val s) (lookO h) fun v new => putN o.dst v new s h K) : o.wp P a w (Post C K) Q :=
  (yl_extract r ho hk).wp r hd

theorem yl_un {op : UnOp} {t : TypeId} {x : Operand} {k : Vm.V → Hp → Prop} (r : Rel C E s h a w) (ho : o.op = .unOp op t x)
    (hk : rdOp T S (.unOp op t x) o.dst (val s) (lookO h) k) : Yld P o a w E h k := by
  simp only [rdOp, unV] at hk
  split at hk
  · rename_i b e
    have hc := (r.lf e).1
    exact yl_lf (by simp [execOp, ho, hc, Op.unary]) rfl hk
  · rename_i k n e
    have hc := (r.lf e).1
    exact yl_lf (by simp [execOp, ho, hc, Op.unary, Op.intArith]) rfl hk
  · exact hk.elim

/-! Parts of lists of cells -/
theorem op_un {op : UnOp} {t : TypeId} {x : Operand} (r : Rel C E s h a w) (hd : ∀ d, o.dst = some d → d < C.nt) (ho : o.op = .unOp op t x)
    (hk : rdOp T S (.unOp op t x) o.dst (val s) (lookO h) fun v new => putN o.dst v new s h K) : o.wp P a w (Post C K) Q :=
  (yl_un r ho hk).wp r hd

theorem subK_ok {β : Type _} : ∀ (f n : Nat) (l : List β) (K : List β → Prop), subK f n l K → K ((l.drop f).take n) ∧ f + n ≤ l.length
  | f + 1, n, _ :: l, K, hk => by
    have := subK_ok f n l K hk
    exact ⟨by simpa using this.1, by have := this.2; simp; omega⟩
  | 0, 0, l, K, hk => by
    have h : K [] := by cases l <;> exact hk
    exact ⟨by simpa using h, by simp⟩
  | 0, n + 1, x :: l, K, hk => by
    have := subK_ok 0 n l _ hk
    exact ⟨by simpa using this.1, by have := this.2; simp at this ⊢; omega⟩
  | _ + 1, _, [], _, hk => hk.elim
  | 0, _ + 1, [], _, hk => hk.elim

theorem spliceK_ok {β : Type _} : ∀ (f : Nat) (l ys : List β) (K : List β → Prop), spliceK f l ys K → K (l.take f ++ ys ++ l.drop (f + ys.length)) ∧ f + ys.length ≤ l.length
  | 0, l, [], K, hk => by
    have h : K l := by cases l <;> exact hk
    exact ⟨by simpa using h, by simp⟩
  | 0, x :: l, y :: ys, K, hk => by
    have := spliceK_ok 0 l ys _ hk
    refine ⟨by simpa using this.1, by have := this.2; simp at this ⊢; omega⟩
  | 0, [], _ :: _, _, hk => hk.elim
  | n + 1, x :: l, ys, K, hk => by
    have := spliceK_ok n l ys _ hk
    refine ⟨?_, by have := this.2; simp at this ⊢; omega⟩
    have h := this.1
    simp only [List.take_succ_cons, List.cons_append]
    rw [show n + 1 + ys.length = (n + ys.length) + 1 by omega, List.drop_succ_cons]
    exact h
  | _ + 1, [], ys, _, hk => by cases ys <;> exact hk.elim

theorem setK_ok {β : Type _} : ∀ (n : Nat) (l : List β) (y : β) (K : List β → Prop), setK n l y K → K (l.set n y) ∧ n < l.length
  | 0, _ :: l, y, K, hk => ⟨hk, by simp⟩
  | n + 1, x :: l, y, K, hk => by
    have := setK_ok n l y _ hk
    exact ⟨this.1, by have := this.2; simp; omega⟩
  | 0, [], _, _, hk => hk.elim
  | _ + 1, [], _, _, hk => hk.elim

theorem VRs.drop {w : World} {E : Env} {g : Nat → Option Ob} {cs : List V} {vs : List Value} (hv : VRs w E g cs vs) (f n : Nat) : VRs w E g ((cs.drop f).take n) ((vs.drop f).take n) :=
  VRs.mk (by simp [hv.length]) fun i x hx => by
    simp only [List.getElem?_take, List.getElem?_drop] at hx
    split at hx
    · rename_i hi
      have hl : f + i < cs.length := by
        rw [hv.length]
        rcases Nat.lt_or_ge (f + i) vs.length with h1 | h1
        · exact h1
        · rw [List.getElem?_eq_none h1] at hx; cases hx
      obtain ⟨y, hy, h2⟩ := hv.get (f + i) hl
      rw [hx] at hy; cases hy
      have : ((cs.drop f).take n).getD i .dead = cs.getD (f + i) .dead := by
        simp [List.getD_eq_getElem?_getD, List.getElem?_take, hi, List.getElem?_drop]
      rw [this]; exact h2
    · cases hx

theorem one_ok {w : World} {E : Env} {g : Nat → Option Ob} {agg : Bool} {cs : List V} {vs : List Value} {K : V → Prop} (hv : VRs w E g cs vs) (h1 : ∀ x ∈ vs, x.oneCell' = true) (hk : one agg cs K) :
    ∃ V, K V ∧ match agg with
      | true => VR w E g V (.agg vs.toArray)
      | false => ∃ u, vs = [u] ∧ VR w E g V u := by
  cases agg with
  | true => exact ⟨_, hk, vs, rfl, hv, h1⟩
  | false =>
    cases cs with
    | nil => exact hk.elim
    | cons c cs =>
      cases cs with
      | nil =>
        obtain ⟨x, xs, rfl, h2, h3⟩ := hv
        obtain rfl : xs = [] := h3
        exact ⟨c, hk, x, rfl, h2⟩
      | cons d cs => exact hk.elim

theorem run_sizeOf {P : Program} {t : TypeId} {n : Nat} (h : (P.info? t).map (·.size) = some n) (w : World) : (sizeOf t).run P w = .ok n w := by
  unfold sizeOf typeInfo
  cases e : P.info? t with
  | none => rw [e] at h; cases h
  | some inf => rw [e] at h; simp only [Option.map_some, Option.some.injEq] at h; subst h; simp [e]
theorem run_underlying {P : Program} {t : TypeId} {d : TypeDesc} (h : P.underlying t = some d) (w : World) : (underlying t).run P w = .ok d w := by
  unfold underlying; simp [h]
theorem run_isAgg {P : Program} {t : TypeId} {d : TypeDesc} (h : P.underlying t = some d) (w : World) : (isAgg t).run P w = .ok (aggB (P.underlying t)) w := by
  unfold isAgg; simp [run_underlying h, h, aggB]
  cases d <;> rfl
theorem run_part {P : Program} {t : TypeId} {n : Nat} {d : TypeDesc} (h1 : (P.info? t).map (·.size) = some n) (h2 : P.underlying t = some d) (cs : List Value) (off : Nat) (w : World) (hl : off + n ≤ cs.length) (hn : 0 < n) :
    (part t cs.toArray off).run P w = .ok (if aggB (P.underlying t) then .agg ((cs.drop off).take n).toArray else (cs.getD off undef)) w := by
  unfold part
  simp only [Sem.run_bind, run_isAgg h2, Result.andThen_ok, Sem.run_ite]
  cases aggB (P.underlying t) with
  | true =>
    simp [run_sizeOf h1]
  | false =>
    simp [show off < cs.length by omega]
end
end Go.Vm
