/- A verified evaluator for Go code: numbers, texts, fields, elements. -/
import Derived.Test.YtedffkngbjlgdaaGreatDoorVm3b
namespace Go.Vm
open Go.RowKit
set_option linter.unusedVariables false
set_option linter.unusedSimpArgs false

section
variable {P : Program} {T : Tab} {S : Cons} {C : Ctx} {E : Env} {s : Sl} {h : Hp} {a : Act} {w w' : World} {K : Sl → Hp → Prop} {Q : Exit → Act → World → Prop} {o : Oper} {v : Value}

theorem run_binI {op : BinOp} {k : IntKind} {x y : Int} {K : V → Prop} {t : TypeId} {X Y : Operand} (w : World) (hs : op ≠ .shl) (hs' : op ≠ .shr) (hk : binI op k x y K) :
    ∃ u, K (.lf u) ∧ isSc u = true ∧ (do eqGuard op t X Y (.int k x) (.int k y); binOp op t (.int k x) (.int k y) : Sem Value).run P w = .ok u w := by
  cases op <;> simp only [binI] at hk <;> first
    | exact absurd rfl hs
    | exact absurd rfl hs'
    | exact hk.elim
    | (split at hk
       · exact hk.elim
       · rename_i e
         refine ⟨_, hk, rfl, ?_⟩
         have e' : ¬ y = 0 := by simpa using e
         simp [eqGuard, binOp, Op.intDiv, e'])
    | exact ⟨_, hk, rfl, by simp [eqGuard, binOp, Op.intArith, Op.intBits, Op.intCmp]⟩

theorem run_binS {op : BinOp} {x y : ByteArray} {K : V → Prop} {t : TypeId} {X Y : Operand} (w : World) (hk : binS op x y K) :
    ∃ u, K (.lf u) ∧ isSc u = true ∧ (do eqGuard op t X Y (.string x) (.string y); binOp op t (.string x) (.string y) : Sem Value).run P w = .ok u w := by
  by_cases e : op = .add
  · subst e
    obtain ⟨h1, hk⟩ := hk
    refine ⟨_, hk, rfl, ?_⟩
    have h2 : ¬ ((x.size + y.size : Nat) : Int) > IntKind.i64.max := by
      unfold lim at h1
      have : IntKind.i64.max = 9223372036854775807 := by decide
      omega
    have h3 : Op.stringOp .add x y = pure (.string (x ++ y)) := by
      unfold Op.stringOp; rw [if_neg h2]
    simp [eqGuard, binOp, h3]
  · cases op <;> simp only [binS] at hk <;> first
      | exact hk.elim
      | exact absurd rfl e
      | exact ⟨_, hk, rfl, by simp [eqGuard, binOp, Op.stringOp, strEq, strLt]⟩

theorem run_eql_bool {t : TypeId} (hu : P.underlying t = some .bool) (x y : Bool) : (Op.equal t (.bool x) (.bool y)).run P w = .ok (x == y) w := by
  unfold Op.equal; rw [show Op.maxDepth = 9999 + 1 from rfl]; unfold Op.equalIn
  simp only [Sem.run_bind, run_underlying hu, Result.andThen_ok]; rfl
theorem run_eql_nil {t e : TypeId} (hu : P.underlying t = some (.pointer e)) : (Op.equal t (.pointer none) (.pointer none)).run P w = .ok true w := by
  unfold Op.equal; rw [show Op.maxDepth = 9999 + 1 from rfl]; unfold Op.equalIn
  simp only [Sem.run_bind, run_underlying hu, Result.andThen_ok]; rfl
theorem run_eql_ptr {t e : TypeId} (hu : P.underlying t = some (.pointer e)) (a : Addr) : (Op.equal t (.pointer (some a)) (.pointer none)).run P w = .ok false w := by
  unfold Op.equal; rw [show Op.maxDepth = 9999 + 1 from rfl]; unfold Op.equalIn
  simp only [Sem.run_bind, run_underlying hu, Result.andThen_ok]; rfl

theorem run_eq {t : TypeId} {X Y : Operand} {x y : Value} {b : Bool} (hg : (eqGuard .eql t X Y x y).run P w = .ok () w) (he : (Op.equal t x y).run P w = .ok b w) (hs : binOp .eql t x y = (do pure (.bool (← Op.equal t x y)))) :
    (do eqGuard .eql t X Y x y; binOp .eql t x y : Sem Value).run P w = .ok (.bool b) w := by
  rw [hs]; simp only [Sem.run_bind, hg, Result.andThen_ok, he]; rfl
theorem run_ne {t : TypeId} {X Y : Operand} {x y : Value} {b : Bool} (hg : (eqGuard .neq t X Y x y).run P w = .ok () w) (he : (Op.equal t x y).run P w = .ok b w) (hs : binOp .neq t x y = (do pure (.bool (!(← Op.equal t x y))))) :
    (do eqGuard .neq t X Y x y; binOp .neq t x y : Sem Value).run P w = .ok (.bool (!b)) w := by
  rw [hs]; simp only [Sem.run_bind, hg, Result.andThen_ok, he]; rfl

theorem yl_bin {op : BinOp} {t t2 : TypeId} {x y : Operand} (hT : TOk P T) {k : Vm.V → Hp → Prop} (r : Rel C E s h a w) (ho : o.op = .binOp op t x y t2)
    (hk : rdOp T S (.binOp op t x y t2) o.dst (val s) (lookO h) k) : Yld P o a w E h k := by
  simp only [rdOp, binV] at hk
  have hrun : ∀ u, (do eqGuard op t x y (a.eval x) (a.eval y); binOp op t (a.eval x) (a.eval y) : Sem Value).run P w = .ok u w → (execOp a.eval o).run P w = .ok (.value u) w := by
    intro u hu
    simp only [execOp, ho]
    simp only [Sem.run_bind] at hu ⊢
    rw [hu]; rfl
  split at hk
  · rename_i k n k' m e1 e2
    have hx := (r.lf e1).1
    have hy := (r.lf e2).1
    split at hk
    · split at hk
      · exact hk.elim
      · rename_i e
        refine yl_lf (hrun _ ?_) rfl hk
        rw [hx, hy]
        have e' : ¬ m < 0 := by simpa using e
        simp [eqGuard, binOp, Op.shift, e']
    · split at hk
      · exact hk.elim
      · rename_i e
        refine yl_lf (hrun _ ?_) rfl hk
        rw [hx, hy]
        have e' : ¬ m < 0 := by simpa using e
        simp [eqGuard, binOp, Op.shift, e']
    · rename_i hs hs'
      split at hk
      · rename_i e
        have e' : k = k' := by simpa using e
        subst e'
        obtain ⟨u, hu, hsc, hr⟩ := run_binI (P := P) (t := t) (X := x) (Y := y) w (fun e => hs e) (fun e => hs' e) hk
        exact yl_lf (hrun _ (by rw [hx, hy]; exact hr)) hsc hu
      · exact hk.elim
  · rename_i n m e1 e2
    have hx := (r.lf e1).1
    have hy := (r.lf e2).1
    obtain ⟨u, hu, hsc, hr⟩ := run_binS (P := P) (t := t) (X := x) (Y := y) w hk
    exact yl_lf (hrun _ (by rw [hx, hy]; exact hr)) hsc hu
  · rename_i n m e1 e2
    have hx := (r.lf e1).1
    have hy := (r.lf e2).1
    obtain ⟨i, hi, hk⟩ := ty_ok hT hk
    have hu := hi.und
    split at hk
    · rename_i ed
      rw [ed] at hu
      split at hk
      · refine yl_lf (hrun _ ?_) rfl hk
        rw [hx, hy]
        exact run_eq (by simp [eqGuard]) (run_eql_bool hu _ _) rfl
      · refine yl_lf (hrun _ ?_) rfl hk
        rw [hx, hy]
        exact run_ne (by simp [eqGuard]) (run_eql_bool hu _ _) rfl
      · exact hk.elim
    · exact hk.elim
  · rename_i l m e1 e2
    obtain ⟨i, hi, hk⟩ := ty_ok hT hk
    have hv1 := r.vr (x := x) (by rw [e1]; simp)
    have hv2 := r.vr (x := y) (by rw [e2]; simp)
    rw [e1] at hv1; rw [e2] at hv2
    obtain ⟨vs, hx, hvs, _⟩ := hv1
    obtain ⟨us, hy, hus, _⟩ := hv2
    split at hk
    · exact hk.elim
    · rename_i k ks ek
      have hq := hi.eq (by rw [ek]; simp)
      rw [ek] at hq
      obtain ⟨hg, hq⟩ := hq
      split at hk
      · obtain ⟨b, hb, hr⟩ := hq E (lookO h) _ _ _ vs us w hk hvs hus
        refine yl_lf (hrun _ ?_) rfl hb
        rw [hx, hy]
        exact run_eq (by simp [eqGuard, hg]) hr rfl
      · obtain ⟨b, hb, hr⟩ := hq E (lookO h) _ _ _ vs us w hk hvs hus
        refine yl_lf (hrun _ ?_) rfl hb
        rw [hx, hy]
        exact run_ne (by simp [eqGuard, hg]) hr rfl
      · exact hk.elim
  · rename_i e1 e2
    have hx := (r.lf e1).1
    have hy := (r.lf e2).1
    obtain ⟨i, hi, hk⟩ := ty_ok hT hk
    have hu := hi.und
    split at hk
    · rename_i ed
      rw [ed] at hu
      split at hk
      · refine yl_lf (hrun _ ?_) rfl hk
        rw [hx, hy]
        exact run_eq (by simp [eqGuard]) (run_eql_nil hu) rfl
      · refine yl_lf (hrun _ ?_) rfl hk
        rw [hx, hy]
        exact run_ne (by simp [eqGuard]) (run_eql_nil hu) rfl
      · exact hk.elim
    · exact hk.elim
  · rename_i u j f e1 e2
    have hv1 := r.vr (x := x) (by rw [e1]; simp)
    rw [e1] at hv1
    obtain ⟨ad, hx⟩ := hv1.1
    have hy := (r.lf e2).1
    obtain ⟨i, hi, hk⟩ := ty_ok hT hk
    have hu := hi.und
    split at hk
    · rename_i ed
      rw [ed] at hu
      split at hk
      · refine yl_lf (hrun _ ?_) rfl hk
        rw [hx, hy]
        exact run_eq (by simp [eqGuard]) (run_eql_ptr hu _) rfl
      · refine yl_lf (hrun _ ?_) rfl hk
        rw [hx, hy]
        exact run_ne (by simp [eqGuard]) (run_eql_ptr hu _) rfl
      · exact hk.elim
    · exact hk.elim
  · exact hk.elim
theorem op_bin {op : BinOp} {t t2 : TypeId} {x y : Operand} (hT : TOk P T) (r : Rel C E s h a w) (hd : ∀ d, o.dst = some d → d < C.nt) (ho : o.op = .binOp op t x y t2)
    (hk : rdOp T S (.binOp op t x y t2) o.dst (val s) (lookO h) fun v new => putN o.dst v new s h K) : o.wp P a w (Post C K) Q :=
  (yl_bin hT r ho hk).wp r hd

theorem Rel.pt {x : Operand} {u j f : Nat} (r : Rel C E s h a w) (e : Vm.val s x = .pt u j f) : (∃ ad, a.eval x = .pointer (some ad)) ∧ ∀ o, lookO h u = some o → ∃ b p, E.γ u = some (b, p) ∧ a.eval x = .pointer (some ⟨b, p + (j * o.sz + f), none⟩) := by
  have := r.vr (x := x) (by rw [e]; simp)
  rw [e] at this; exact this
theorem Rel.slc {x : Operand} {t : Nat} {cut : Option (Nat × Nat)} (r : Rel C E s h a w) (e : Vm.val s x = .sl t cut) : (a.eval x).oneCell' = true ∧ ∀ o, lookO h t = some o → SlR w (E.γ t) o.sz o.len o.own cut (a.eval x) := by
  have := r.vr (x := x) (by rw [e]; simp)
  rw [e] at this; exact this
theorem Rel.aggr {x : Operand} {cs : List V} (r : Rel C E s h a w) (e : Vm.val s x = .agg cs) : ∃ vs : List Value, a.eval x = .agg vs.toArray ∧ VRs w E (lookO h) cs vs ∧ ∀ y ∈ vs, y.oneCell' = true := by
  have := r.vr (x := x) (by rw [e]; simp)
  rw [e] at this; exact this

theorem yl_fieldAddr {t : TypeId} {x : Operand} {n : Nat} (hT : TOk P T) {k : Vm.V → Hp → Prop} (r : Rel C E s h a w) (ho : o.op = .fieldAddr t x n)
    (hk : rdOp T S (.fieldAddr t x n) o.dst (val s) (lookO h) k) : Yld P o a w E h k := by
  simp only [rdOp] at hk
  obtain ⟨i, hi, hk⟩ := ty_ok hT hk
  have hu := hi.und
  split at hk
  · rename_i fs u j g ed e
    rw [ed] at hu
    obtain ⟨F, hF, _, hfs⟩ := hu
    rw [nth_eq] at hk
    split at hk
    · rename_i ft off sz ag ef
      obtain ⟨f, hf, hfo⟩ := hfs n _ ef
      obtain ⟨⟨ad, h1⟩, h2⟩ := r.pt e
      have hsz : (sizeOf f.type).run P w = .ok sz w := run_sizeOf hfo.size w
      have hpos : sz ≠ 0 := Nat.pos_iff_ne_zero.1 hfo.pos
      have hoff : f.offset = off := hfo.off
      have hrun : (execOp a.eval o).run P w = .ok (.value (.pointer (some (ad.add off)))) w := by
        simp only [execOp, ho, Instr.fieldAt, Instr.sureAddr, fieldPlace, h1]
        simp only [Sem.run_bind, run_underlying hF, Result.andThen_ok, hf, hsz, Sem.run_pure, Sem.run_ite, hpos, if_false, hoff]
      refine yl0 (V := .pt u j (addN g off)) hrun (.inr ⟨⟨_, rfl⟩, fun ob hob => ?_⟩) hk
      obtain ⟨b, p, e1, e2⟩ := h2 ob hob
      rw [h1] at e2
      cases e2
      refine ⟨b, p, e1, ?_⟩
      rw [addN_eq]
      unfold Addr.add
      split
      · rename_i h0; subst h0; rfl
      · congr 2
        rw [Addr.mk.injEq]
        exact ⟨rfl, by show p + (j * ob.sz + g) + off = p + (j * ob.sz + (g + off)); omega, rfl⟩
    · exact hk.elim
  · exact hk.elim
theorem op_fieldAddr {t : TypeId} {x : Operand} {n : Nat} (hT : TOk P T) (r : Rel C E s h a w) (hd : ∀ d, o.dst = some d → d < C.nt) (ho : o.op = .fieldAddr t x n)
    (hk : rdOp T S (.fieldAddr t x n) o.dst (val s) (lookO h) fun v new => putN o.dst v new s h K) : o.wp P a w (Post C K) Q :=
  (yl_fieldAddr hT r ho hk).wp r hd

theorem yl_field {t : TypeId} {x : Operand} {n : Nat} (hT : TOk P T) {k : Vm.V → Hp → Prop} (r : Rel C E s h a w) (ho : o.op = .field t x n)
    (hk : rdOp T S (.field t x n) o.dst (val s) (lookO h) k) : Yld P o a w E h k := by
  simp only [rdOp] at hk
  obtain ⟨i, hi, hk⟩ := ty_ok hT hk
  have hu := hi.und
  split at hk
  · rename_i fs cs ed e
    rw [ed] at hu
    obtain ⟨F, hF, _, hfs⟩ := hu
    rw [nth_eq] at hk
    split at hk
    · rename_i ft off sz ag ef
      obtain ⟨f, hf, hfo⟩ := hfs n _ ef
      obtain ⟨vs, h1, h2, h3⟩ := r.aggr e
      obtain ⟨hk, hle⟩ := subK_ok _ _ _ _ hk
      obtain ⟨V, hk2, hV⟩ := one_ok (h2.drop off sz) (fun y hy => h3 y (List.mem_of_mem_drop (List.mem_of_mem_take hy))) hk
      rw [h2.length] at hle
      obtain ⟨d, hud⟩ := hfo.und
      · have hp := run_part hfo.size hud vs off w hle hfo.pos
        have hrun : ∀ u, (part f.type vs.toArray off).run P w = .ok u w → (execOp a.eval o).run P w = .ok (.value u) w := by
          intro u hu
          simp only [execOp, ho, Instr.field, h1, asAgg]
          simp only [Sem.run_bind, run_underlying hF, Result.andThen_ok, hf, Sem.run_pure]
          rw [show f.offset = off from hfo.off, hu]; rfl
        rw [hfo.agg] at hp
        cases ag with
        | true => exact yl0 (hrun _ hp) (.inr hV) hk2
        | false =>
          obtain ⟨u, e1, e2⟩ := hV
          refine yl0 (hrun _ hp) (.inr ?_) hk2
          have : vs.getD off undef = u := by
            have := congrArg (fun l => l.getD 0 undef) e1
            have hsz : sz = 1 := by
              have := congrArg List.length e1
              simp at this
              have := hfo.pos
              omega
            subst hsz
            simpa [List.getD_eq_getElem?_getD, List.getElem?_take, List.getElem?_drop] using this
          simp only [Bool.false_eq_true, if_false]
          rw [this]; exact e2
    · exact hk.elim
  · exact hk.elim
theorem op_field {t : TypeId} {x : Operand} {n : Nat} (hT : TOk P T) (r : Rel C E s h a w) (hd : ∀ d, o.dst = some d → d < C.nt) (ho : o.op = .field t x n)
    (hk : rdOp T S (.field t x n) o.dst (val s) (lookO h) fun v new => putN o.dst v new s h K) : o.wp P a w (Post C K) Q :=
  (yl_field hT r ho hk).wp r hd

end
end Go.Vm
