/- A verified evaluator for Go code: elements, cuts, lengths, structs that are built. -/
import Derived.Test.YtedffkngbjlgdaaGreatDoorVm3c
namespace Go.Vm
open Go.RowKit
set_option linter.unusedVariables false
set_option linter.unusedSimpArgs false

def cutLen (cut : Option (Nat × Nat)) (n : Nat) : Nat := match cut with | none => n | some (_, m) => m

theorem lenOf_ok {g : Nat → Option Ob} {t : Nat} {cut : Option (Nat × Nat)} {K : Nat → Nat → Prop} (h : lenOf g t cut K) : ∃ ob, g t = some ob ∧ K ob.sz (cutLen cut ob.len) := by
  unfold lenOf at h
  split at h
  · rename_i e; refine ⟨_, e, ?_⟩; cases cut <;> exact h
  · rename_i e; refine ⟨_, e, ?_⟩; cases cut <;> exact h
  · rename_i e; refine ⟨_, e, ?_⟩; cases cut <;> exact h
  · exact h.elim

/-- A slice's parts. -/
theorem Hs.slice {C : Ctx} {E : Env} {h : Hp} {w : World} (r : Hs C w E h) {t : Nat} {ob : Ob} (ht : lookO h t = some ob) {cut : Option (Nat × Nat)} {v : Value} (hs : SlR w (E.γ t) ob.sz ob.len ob.own cut v) :
    ∃ base c, v = .slice base (cutLen cut ob.len) c ∧ cutLen cut ob.len ≤ c ∧ cutLen cut ob.len ≤ 9223372036854775807 ∧ (base = none → cutLen cut ob.len = 0 ∧ c = 0) := by
  have hlen : ob.len ≤ 9223372036854775807 ∧ (E.γ t = none → ob.len = 0) := by
    cases ob with
    | row k sz enc l =>
      obtain ⟨h1, h2, h3⟩ := r.ob t _ ht
      refine ⟨h2, fun e => ?_⟩
      rw [e] at h3; simp only at h3
      have := h3.1
      subst this; rfl
    | arr own sz els =>
      obtain ⟨h0, b, o, h1, _⟩ := r.ob t _ ht
      exact ⟨h0, fun e => by rw [h1] at e; cases e⟩
    | foc sz enc l q cs =>
      obtain ⟨_, h0, _, _, b, o, h1, _⟩ := r.ob t _ ht
      exact ⟨h0, fun e => by rw [h1] at e; cases e⟩
  cases e : E.γ t with
  | none =>
    rw [e] at hs
    obtain ⟨ab, rfl, _, hc⟩ := hs
    have h0 := hlen.2 e
    rcases hc with rfl | rfl
    · refine ⟨ab, 0, ?_, ?_, ?_, ?_⟩ <;> simp [cutLen, h0]
    · refine ⟨ab, 0, ?_, ?_, ?_, ?_⟩ <;> simp [cutLen]
  | some p =>
    obtain ⟨b, o⟩ := p
    rw [e] at hs
    obtain ⟨off, n, oo, c, h1, h2, h3, h4, rfl, h6⟩ := hs
    have hn : cutLen cut ob.len = n := by rcases h1 with ⟨rfl, rfl, rfl⟩ | rfl <;> rfl
    rw [hn]
    exact ⟨_, c, rfl, h3, by have := hlen.1; omega, fun h => by cases h⟩

theorem offOf_eq {cut : Option (Nat × Nat)} {off n len i : Nat} (h1 : cut = none ∧ off = 0 ∧ n = len ∨ cut = some (off, n)) : offOf cut i = off + i := by
  rcases h1 with ⟨rfl, rfl, rfl⟩ | rfl <;> simp [offOf]

section
variable {P : Program} {T : Tab} {S : Cons} {C : Ctx} {E : Env} {s : Sl} {h : Hp} {a : Act} {w w' : World} {K : Sl → Hp → Prop} {Q : Exit → Act → World → Prop} {o : Oper} {v : Value}

theorem yl_indexAddr {t : TypeId} {x i : Operand} (hT : TOk P T) {k : Vm.V → Hp → Prop} (r : Rel C E s h a w) (ho : o.op = .indexAddr t x i)
    (hk : rdOp T S (.indexAddr t x i) o.dst (val s) (lookO h) k) : Yld P o a w E h k := by
  simp only [rdOp] at hk
  obtain ⟨ti, hti, hk⟩ := ty_ok hT hk
  have hu := hti.und
  split at hk
  · rename_i e ed
    rw [ed] at hu
    obtain ⟨ei, hei, hk⟩ := ty_ok hT hk
    split at hk
    · rename_i u cut k n e1 e2
      have hi := (r.lf e2).1
      obtain ⟨ob, hob, hk⟩ := lenOf_ok hk
      split at hk
      · rename_i esz
        have hsz := nbeq_eq esz
        obtain ⟨h0, h1, hk⟩ := hk
        have hsl := (r.slc e1).2 ob hob
        obtain ⟨base, c, hx, _, _, hnil⟩ := r.hs.slice hob hsl
        obtain ⟨inf, z, hinf, hinf2, _⟩ := hei.info
        have hso : (sizeOf e).run P w = .ok ei.size w := run_sizeOf (by rw [hinf]; simp [hinf2]) w
        cases base with
        | none => have := (hnil rfl).1; omega
        | some ad =>
          have hrun : (execOp a.eval o).run P w = .ok (.value (.pointer (some (ad.add (n.toNat * ei.size))))) w := by
            simp only [execOp, ho, Instr.indexAt, hi, hx, asIntOf]
            simp only [Sem.run_bind, Sem.run_pure, run_underlying hu, Result.andThen_ok, Sem.run_ite]
            rw [if_pos ⟨h0, h1⟩]
            simp only [hso, Sem.run_bind, Sem.run_pure, Result.andThen_ok]
          refine yl0 (V := .pt u (offOf cut n.toNat) 0) hrun (.inr ⟨⟨_, rfl⟩, fun ob' hob' => ?_⟩) hk
          rw [hob] at hob'; cases hob'
          cases eγ : E.γ u with
          | none => rw [eγ] at hsl; obtain ⟨ab, hv, _⟩ := hsl; rw [hx] at hv; injection hv with _ hv2 _; rw [hv2] at h1; exfalso; omega
          | some p =>
            obtain ⟨b, p⟩ := p
            rw [eγ] at hsl
            obtain ⟨off, m, oo, c', g1, g2, g3, g4, g5, g6⟩ := hsl
            rw [hx] at g5
            have hm : cutLen cut ob.len = m := by rcases g1 with ⟨rfl, rfl, rfl⟩ | rfl <;> rfl
            cases g5
            refine ⟨b, p, rfl, ?_⟩
            rw [offOf_eq g1]
            have hoo : oo = p + off * ob.sz := by
              rcases g4 with g4 | g4
              · omega
              · exact g4
            unfold Addr.add
            rw [hsz] at *
            split
            · rename_i hz
              congr 3
              rw [Nat.add_mul, hz]; omega
            · congr 2
              rw [Addr.mk.injEq]
              refine ⟨rfl, ?_, rfl⟩
              show oo + n.toNat * ei.size = p + ((off + n.toNat) * ei.size + 0)
              rw [Nat.add_mul]; omega
      · exact hk.elim
    · exact hk.elim
  · exact hk.elim
theorem op_indexAddr {t : TypeId} {x i : Operand} (hT : TOk P T) (r : Rel C E s h a w) (hd : ∀ d, o.dst = some d → d < C.nt) (ho : o.op = .indexAddr t x i)
    (hk : rdOp T S (.indexAddr t x i) o.dst (val s) (lookO h) fun v new => putN o.dst v new s h K) : o.wp P a w (Post C K) Q :=
  (yl_indexAddr hT r ho hk).wp r hd

theorem yl_index {t : TypeId} {x i : Operand} (hT : TOk P T) {k : Vm.V → Hp → Prop} (r : Rel C E s h a w) (ho : o.op = .index t x i)
    (hk : rdOp T S (.index t x i) o.dst (val s) (lookO h) k) : Yld P o a w E h k := by
  simp only [rdOp] at hk
  obtain ⟨ti, hti, hk⟩ := ty_ok hT hk
  have hu := hti.und
  split at hk
  · rename_i ed
    rw [ed] at hu
    split at hk
    · rename_i b k n e1 e2
      have hx := (r.lf e1).1
      have hi := (r.lf e2).1
      obtain ⟨h0, h1, hk⟩ := hk
      have hlt : n.toNat < b.size := by omega
      have hg : b[n.toNat]? = some b[n.toNat] := by simp [hlt]
      refine yl_lf ?_ rfl hk
      have hbt : bt b n = ((b[n.toNat]).toNat : Int) := by
        unfold bt
        congr 1
        have : b.data.toList.getD n.toNat 0 = b[n.toNat] := by
          have hl : n.toNat < b.data.toList.length := by simpa using hlt
          simp only [List.getD_eq_getElem?_getD]
          rw [List.getElem?_eq_getElem hl]
          rfl
        rw [this]
      rw [hbt]
      simp only [execOp, ho, Instr.index, hx, hi, asIntOf]
      simp only [Sem.run_bind, Sem.run_pure, run_underlying hu, Result.andThen_ok, if_pos h0, hg]
    · exact hk.elim
  · exact hk.elim
theorem op_index {t : TypeId} {x i : Operand} (hT : TOk P T) (r : Rel C E s h a w) (hd : ∀ d, o.dst = some d → d < C.nt) (ho : o.op = .index t x i)
    (hk : rdOp T S (.index t x i) o.dst (val s) (lookO h) fun v new => putN o.dst v new s h K) : o.wp P a w (Post C K) Q :=
  (yl_index hT r ho hk).wp r hd

theorem fvs_ok {l : List V} {K : List V → Prop} (h : fvs l K) : K l := by rwa [fvs_eq] at h
theorem lfs_ok {l : List Value} {K : List V → Prop} (h : lfs l K) : K (l.map .lf) := by rwa [lfs_eq] at h

theorem vals_ok (r : Rel C E s h a w) : ∀ (l : List Operand) (K : List V → Prop), fvs (valsK (val s) l) K → (∀ x ∈ valsK (val s) l, x ≠ .dead) → VRs w E (lookO h) (valsK (val s) l) (l.map a.eval)
  | [], _, _, _ => rfl
  | x :: l, K, hk, hne => by
    refine ⟨_, _, rfl, ?_, vals_ok r l (fun _ => True) (by rw [fvs_eq]; trivial) (fun y hy => hne y (by simp [valsK, hy]))⟩
    exact r.vr (hne _ (by simp [valsK]))

theorem yl_len {c : Call} (hT : TOk P T) {k : Vm.V → Hp → Prop} (r : Rel C E s h a w) (ho : o.op = .call c) (hc : c.callee = .builtin .len)
    (hk : rdLen T (val s) (lookO h) k c.args.toList c.argTypes.toList) : Yld P o a w E h k := by
  generalize ha : c.args.toList = as at hk
  generalize ht : c.argTypes.toList = ts at hk
  obtain ⟨x, t, rfl, rfl⟩ : ∃ x t, as = [x] ∧ ts = [t] := by
    rcases as with _ | ⟨x, _ | ⟨_, _⟩⟩ <;> rcases ts with _ | ⟨t, _ | ⟨_, _⟩⟩ <;> first | exact hk.elim | exact ⟨_, _, rfl, rfl⟩
  simp only [rdLen] at hk
  have hca : c.args = #[x] := by rw [← Array.toArray_toList (xs := c.args), ha]
  have hct : c.argTypes = #[t] := by rw [← Array.toArray_toList (xs := c.argTypes), ht]
  obtain ⟨ti, hti, hk⟩ := ty_ok hT hk
  have hu := hti.und
  have hrun : ∀ u, (Builtin.len_ #[t] o.type #[a.eval x]).run P w = .ok u w → (execOp a.eval o).run P w = .ok (.value u) w := by
    intro u hu
    simp only [execOp, ho, resolve, hc, hca, hct, invoke, builtin]
    simp only [Sem.run_bind, Sem.run_pure, Result.andThen_ok]
    rw [show (#[x].map a.eval) = #[a.eval x] by simp, hu]; rfl
  unfold lenV at hk
  split at hk
  · rename_i b ed e
    rw [ed] at hu
    have hx := (r.lf e).1
    refine yl_lf (hrun _ ?_) rfl hk
    simp [Builtin.len_, hx, run_underlying hu, goInt]
  · rename_i b ed e
    rw [ed] at hu
    have hx := (r.lf e).1
    refine yl_lf (hrun _ ?_) rfl hk
    simp [Builtin.len_, hx, run_underlying hu, goInt]
  · rename_i b u cut ed e
    rw [ed] at hu
    have main : ∀ ob, lookO h u = some ob → (cutLen cut ob.len ≤ 9223372036854775807 → k (.lf (.int .i64 (cutLen cut ob.len))) []) → Yld P o a w E h k := by
      intro ob hob hk
      obtain ⟨base, c', hx, _, hle, _⟩ := r.hs.slice hob ((r.slc e).2 ob hob)
      refine yl_lf (hrun _ ?_) rfl (hk hle)
      simp [Builtin.len_, hx, run_underlying hu, goInt]
    split at hk
    · rename_i eo
      refine main _ eo fun hle => ?_
      split at hk
      · exact hk hle
      · exact hk hle
    · rename_i eo
      refine main _ eo fun hle => ?_
      split at hk
      · exact hk
      · exact hk
    · rename_i eo
      refine main _ eo fun hle => ?_
      split at hk
      · exact hk hle
      · exact hk hle
    · exact hk.elim
  · exact hk.elim
theorem op_len {c : Call} (hT : TOk P T) (r : Rel C E s h a w) (hd : ∀ d, o.dst = some d → d < C.nt) (ho : o.op = .call c) (hc : c.callee = .builtin .len)
    (hk : rdLen T (val s) (lookO h) (fun v new => putN o.dst v new s h K) c.args.toList c.argTypes.toList) : o.wp P a w (Post C K) Q :=
  (yl_len hT r ho hc hk).wp r hd

end
end Go.Vm
