/- A verified evaluator for Go code: cuts, capacities, greatest and least, structs that are built, functions. -/
import Derived.Test.YtedffkngbjlgdaaGreatDoorVm3d
namespace Go.Vm
open Go.RowKit
set_option linter.unusedVariables false
set_option linter.unusedSimpArgs false

section
variable {P : Program} {T : Tab} {S : Cons} {C : Ctx} {E : Env} {s : Sl} {h : Hp} {a : Act} {w w' : World} {K : Sl → Hp → Prop} {Q : Exit → Act → World → Prop} {o : Oper} {v : Value}

theorem run_builtin {c : Call} {b : Builtin} (ho : o.op = .call c) (hc : c.callee = .builtin b) :
    ∃ cs, (execOp a.eval o).run P w = (builtin b c.argTypes o.type cs (c.args.map a.eval)).run P w := by
  simp only [execOp, ho, resolve, hc, invoke]
  simp only [Sem.run_bind, Sem.run_pure, Result.andThen_ok]
  exact ⟨_, rfl⟩

theorem args1 {as : List Operand} {ts : List Nat} {p : List Operand → List Nat → Prop} (hp : p as ts) (h0 : ∀ a t, p a t → ∃ x y, a = [x] ∧ t = [y]) : ∃ x y, as = [x] ∧ ts = [y] := h0 _ _ hp

theorem arr_of_list {β : Type _} {A : Array β} {l : List β} (h : A.toList = l) : A = l.toArray := by rw [← Array.toArray_toList (xs := A), h]

theorem op_cap {c : Call} (hT : TOk P T) (r : Rel C E s h a w) (hd : ∀ d, o.dst = some d → d < C.nt) (ho : o.op = .call c) (hc : c.callee = .builtin .cap)
    (hk : rdCap T (val s) (lookO h) (fun v new => putN o.dst v new s h K) c.args.toList c.argTypes.toList) : o.wp P a w (Post C K) Q := by
  generalize ha : c.args.toList = as at hk
  generalize ht : c.argTypes.toList = ts at hk
  obtain ⟨x, t, rfl, rfl⟩ : ∃ x t, as = [x] ∧ ts = [t] := by
    rcases as with _ | ⟨x, _ | ⟨_, _⟩⟩ <;> rcases ts with _ | ⟨t, _ | ⟨_, _⟩⟩ <;> first | exact hk.elim | exact ⟨_, _, rfl, rfl⟩
  simp only [rdCap] at hk
  obtain ⟨ti, hti, hk⟩ := ty_ok hT hk
  have hu := hti.und
  split at hk
  · rename_i e u cut ed e1
    rw [ed] at hu
    obtain ⟨ob, hob, hk⟩ := lenOf_ok hk
    obtain ⟨base, c', hx, hle, _, _⟩ := r.hs.slice hob ((r.slc e1).2 ob hob)
    refine val_lf r hd ?_ rfl (hk c' hle)
    obtain ⟨cs, hcs⟩ := run_builtin (P := P) (a := a) (w := w) ho hc
    rw [hcs, arr_of_list ha, arr_of_list ht]
    simp [builtin, Builtin.cap_, hx, run_underlying hu, goInt]
  · exact hk.elim

theorem yl_max {c : Call} {k : Vm.V → Hp → Prop} (r : Rel C E s h a w) (ho : o.op = .call c) (hc : c.callee = .builtin .max)
    (hk : rdMax (val s) k c.args.toList) : Yld P o a w E h k := by
  generalize ha : c.args.toList = as at hk
  obtain ⟨x, y, rfl⟩ : ∃ x y, as = [x, y] := by
    rcases as with _ | ⟨x, _ | ⟨y, _ | ⟨_, _⟩⟩⟩ <;> first | exact hk.elim | exact ⟨_, _, rfl⟩
  simp only [rdMax] at hk
  split at hk
  · rename_i k1 n k2 m e1 e2
    split at hk
    · refine yl_lf ?_ rfl hk
      obtain ⟨cs, hcs⟩ := run_builtin (P := P) (a := a) (w := w) ho hc
      rw [hcs, arr_of_list ha]
      simp [builtin, Builtin.max_, Builtin.max2, (r.lf e1).1, (r.lf e2).1]
    · exact hk.elim
  · rename_i n m e1 e2
    refine yl_lf ?_ rfl hk
    obtain ⟨cs, hcs⟩ := run_builtin (P := P) (a := a) (w := w) ho hc
    rw [hcs, arr_of_list ha]
    simp [builtin, Builtin.max_, Builtin.max2, (r.lf e1).1, (r.lf e2).1, Op.stringOp, asBool, strLt]
    by_cases e : Op.bytesLess n.toList m.toList = true <;> simp [e]
  · exact hk.elim
theorem op_max {c : Call} (r : Rel C E s h a w) (hd : ∀ d, o.dst = some d → d < C.nt) (ho : o.op = .call c) (hc : c.callee = .builtin .max)
    (hk : rdMax (val s) (fun v new => putN o.dst v new s h K) c.args.toList) : o.wp P a w (Post C K) Q :=
  (yl_max r ho hc hk).wp r hd

theorem yl_min {c : Call} {k : Vm.V → Hp → Prop} (r : Rel C E s h a w) (ho : o.op = .call c) (hc : c.callee = .builtin .min)
    (hk : rdMin (val s) k c.args.toList) : Yld P o a w E h k := by
  generalize ha : c.args.toList = as at hk
  obtain ⟨x, y, rfl⟩ : ∃ x y, as = [x, y] := by
    rcases as with _ | ⟨x, _ | ⟨y, _ | ⟨_, _⟩⟩⟩ <;> first | exact hk.elim | exact ⟨_, _, rfl⟩
  simp only [rdMin] at hk
  split at hk
  · rename_i k1 n k2 m e1 e2
    split at hk
    · refine yl_lf ?_ rfl hk
      obtain ⟨cs, hcs⟩ := run_builtin (P := P) (a := a) (w := w) ho hc
      rw [hcs, arr_of_list ha]
      simp [builtin, Builtin.min_, Builtin.min2, (r.lf e1).1, (r.lf e2).1]
    · exact hk.elim
  · exact hk.elim
theorem op_min {c : Call} (r : Rel C E s h a w) (hd : ∀ d, o.dst = some d → d < C.nt) (ho : o.op = .call c) (hc : c.callee = .builtin .min)
    (hk : rdMin (val s) (fun v new => putN o.dst v new s h K) c.args.toList) : o.wp P a w (Post C K) Q :=
  (yl_min r ho hc hk).wp r hd

def LoV (a : Act) (l : Option Operand) (d n : Int) : Prop := match l with | none => n = d | some p => ∃ kd, a.eval p = .int kd n

theorem lo_ok {l : Option Operand} {d : Int} {k : Int → Prop} (r : Rel C E s h a w) (hk : bnd (optV (val s) l) d k) : ∃ n, k n ∧ LoV a l d n := by
  cases l with
  | none => exact ⟨d, hk, rfl⟩
  | some x =>
    simp only [optV, bnd] at hk
    split at hk
    · rename_i h1; cases h1
    · rename_i kd n h1
      simp only [Option.some.injEq] at h1
      exact ⟨_, hk, kd, (r.lf h1).1⟩
    · exact hk.elim

theorem run_sliceBound {kd : IntKind} {n : Int} {y : Nat} {code : BoundsCode} (h0 : 0 ≤ n) (h1 : n ≤ y) : (Instr.sliceBound (.int kd n) y code).run P w = .ok n.toNat w := by
  unfold Instr.sliceBound
  simp only [asIntOf, Sem.run_bind, Sem.run_pure, Result.andThen_ok]
  rw [if_pos ⟨h0, h1⟩]; rfl

/-- The bounds of a cut without a third number. -/
theorem run_bounds2 {isS : Bool} {len cap : Nat} {lo hi : Option Operand} {x y : Int} (hlo : LoV a lo 0 x) (hhi : LoV a hi len y)
    (h0 : 0 ≤ x) (h1 : x ≤ y) (h2 : y ≤ cap) : (Instr.sliceBounds isS len cap (lo.map a.eval) (hi.map a.eval) none).run P w = .ok (x.toNat, y.toNat, cap) w := by
  unfold Instr.sliceBounds
  cases hi with
  | none =>
    simp only [LoV] at hhi; subst hhi
    cases lo with
    | none => simp only [LoV] at hlo; subst hlo; simp
    | some p =>
      obtain ⟨kd, e⟩ := hlo
      simp only [Option.map_some, Option.map_none, e, Sem.run_bind, Sem.run_pure, Result.andThen_ok]
      rw [run_sliceBound h0 (by omega)]; simp
  | some q =>
    obtain ⟨kq, eq⟩ := hhi
    have hq : ∀ code, (Instr.sliceBound (.int kq y) cap code).run P w = .ok y.toNat w := fun code => run_sliceBound (by omega) h2
    cases lo with
    | none =>
      simp only [LoV] at hlo; subst hlo
      simp only [Option.map_some, Option.map_none, eq, Sem.run_bind, Sem.run_pure, Result.andThen_ok, hq]; rfl
    | some p =>
      obtain ⟨kd, e⟩ := hlo
      have hp : ∀ code, (Instr.sliceBound (.int kd x) y.toNat code).run P w = .ok x.toNat w := fun code => run_sliceBound h0 (by omega)
      simp only [Option.map_some, e, eq, Sem.run_bind, Sem.run_pure, Result.andThen_ok, hq, hp]

theorem run_bounds3 {isS : Bool} {len cap : Nat} {lo : Option Operand} {hi mx : Operand} {x y z : Int} {k1 k2 : IntKind} (hlo : LoV a lo 0 x) (hhi : a.eval hi = .int k1 y) (hmx : a.eval mx = .int k2 z)
    (h0 : 0 ≤ x) (h1 : x ≤ y) (h2 : y ≤ z) (h3 : z ≤ cap) : (Instr.sliceBounds isS len cap (lo.map a.eval) (some (a.eval hi)) (some (a.eval mx))).run P w = .ok (x.toNat, y.toNat, z.toNat) w := by
  unfold Instr.sliceBounds
  have hq : ∀ code, (Instr.sliceBound (.int k1 y) z.toNat code).run P w = .ok y.toNat w := fun code => run_sliceBound (by omega) (by omega)
  have hz : ∀ code, (Instr.sliceBound (.int k2 z) cap code).run P w = .ok z.toNat w := fun code => run_sliceBound (by omega) h3
  cases lo with
  | none =>
    simp only [LoV] at hlo; subst hlo
    simp only [Option.map_none, hhi, hmx, Sem.run_bind, Sem.run_pure, Result.andThen_ok, hq, hz]; rfl
  | some p =>
    obtain ⟨kd, e⟩ := hlo
    have hp : ∀ code, (Instr.sliceBound (.int kd x) y.toNat code).run P w = .ok x.toNat w := fun code => run_sliceBound h0 (by omega)
    simp only [Option.map_some, e, hhi, hmx, Sem.run_bind, Sem.run_pure, Result.andThen_ok, hq, hp, hz]
end
end Go.Vm
