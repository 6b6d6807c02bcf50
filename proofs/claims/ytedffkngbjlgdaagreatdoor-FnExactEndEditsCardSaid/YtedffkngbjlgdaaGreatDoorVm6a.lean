/- A verified evaluator for Go code: every operation. -/
import Derived.Test.YtedffkngbjlgdaaGreatDoorVm5e
namespace Go.Vm
open Go.RowKit
set_option linter.unusedVariables false
set_option linter.unusedSimpArgs false

section
variable {P : Program} {T : Tab} {S : Cons} {C : Ctx} {E E1 : Env} {s : Sl} {h h1 : Hp} {a : Act} {w w' : World} {K : Sl → Hp → Prop} {Q : Exit → Act → World → Prop} {o : Oper} {v : Value}

theorem rd_sound (hT : TOk P T) (hS : SOk P S) (r : Rel C E s h a w) (hd : ∀ d, o.dst = some d → d < C.nt)
    (hk : rdOp T S o.op o.dst (val s) (lookO h) fun v new => putN o.dst v new s h K) : o.wp P a w (Post C K) Q := by
  cases ho : o.op with
  | move x => rw [ho] at hk; exact op_move r hd ho hk
  | assign x => rw [ho] at hk; exact op_assign r hd ho hk
  | pick c x y => rw [ho] at hk; exact op_pick (T := T) (S := S) r hd ho hk
  | alloc e => rw [ho] at hk; exact op_alloc hT r hd ho hk
  | box e x => rw [ho] at hk; exact op_box hT r hd ho hk
  | build t ps => rw [ho] at hk; exact op_build hT r hd ho hk
  | buildSlice t n ps => rw [ho] at hk; exact op_buildSlice hT r hd ho hk
  | load t x => rw [ho] at hk; exact op_load hT r hd ho hk
  | nilCheck x => rw [ho] at hk; exact op_nilCheck (T := T) (S := S) r hd ho hk
  | binOp op t x y t2 => rw [ho] at hk; exact op_bin hT r hd ho hk
  | unOp op t x => rw [ho] at hk; exact op_un (T := T) (S := S) r hd ho hk
  | convert t u x => rw [ho] at hk; exact op_convert hT r hd ho hk
  | slice t x lo hi mx => rw [ho] at hk; exact op_slice hT r hd ho hk
  | fieldAddr t x n => rw [ho] at hk; exact op_fieldAddr hT r hd ho hk
  | field t x n => rw [ho] at hk; exact op_field hT r hd ho hk
  | indexAddr t x i => rw [ho] at hk; exact op_indexAddr hT r hd ho hk
  | index t x i => rw [ho] at hk; exact op_index hT r hd ho hk
  | extract x i => rw [ho] at hk; exact op_extract (T := T) (S := S) r hd ho hk
  | makeFunc fn f1 cs => rw [ho] at hk; exact op_makeFunc (T := T) (S := S) r hd ho hk
  | makeSlice t x y => rw [ho] at hk; exact op_makeSlice hT r hd ho hk
  | call c =>
    rw [ho] at hk
    simp only [rdOp] at hk
    split at hk
    · rename_i b hc
      unfold rdBi at hk
      split at hk
      · exact op_len hT r hd ho hc hk
      · exact op_cap hT r hd ho hc hk
      · exact op_max r hd ho hc hk
      · exact op_min r hd ho hc hk
      · exact op_rdApp hT r hd ho hc hk
      · exact hk.elim
    · rename_i f hc
      split at hk
      · rename_i n caps hf
        exact op_callR hS r hd ho hc hf hk
      · exact hk.elim
    · exact hk.elim
  | _ => rw [ho] at hk; exact hk.elim

theorem wr_sound (hT : TOk P T) (hS : SOk P S) (r : Rel C E s h a w) (hd : ∀ d, o.dst = some d → d < C.nt) (hk : wrOp T S o.op o.dst s h K) : o.wp P a w (Post C K) Q := by
  cases ho : o.op with
  | store t x y => rw [ho] at hk; exact op_store (S := S) hT r hd ho hk
  | call c =>
    rw [ho] at hk
    simp only [wrOp] at hk
    split at hk
    · rename_i b hc
      split at hk
      · exact op_append hT r hd ho hc hk
      · exact hk.elim
      · exact op_clear hT r hd ho hc hk
      · exact hk.elim
    · rename_i f hc
      split at hk
      · rename_i n caps hf
        exact op_callC hS r hd ho hc hf hk
      · exact hk.elim
    · exact hk.elim
  | _ => rw [ho] at hk; exact hk.elim

theorem con_any {S : Cons} {f : Nat} {K : Con → Prop} (h : con S f K) : ∃ c, K c := by
  induction S with
  | nil => exact h.elim
  | cons p S ih =>
    obtain ⟨k, c⟩ := p
    simp only [con] at h
    split at h
    · exact ⟨c, h⟩
    · exact ih h
theorem ty_any {T : Tab} {f : Nat} {K : TyI → Prop} (h : ty T f K) : ∃ c, K c := by
  induction T with
  | nil => exact h.elim
  | cons p S ih =>
    obtain ⟨k, c⟩ := p
    simp only [ty] at h
    split at h
    · exact ⟨c, h⟩
    · exact ih h

theorem isRd_or {op : Op} {ρ : Operand → Vm.V} {A B : Prop} (h : isRd T S op ρ A B) : A ∨ B := by
  cases op with
  | store t x y => exact .inr h
  | call c =>
    simp only [isRd] at h
    split at h
    · split at h
      · split at h
        · obtain ⟨xi, h⟩ := ty_any h
          split at h
          · obtain ⟨ei, h⟩ := ty_any h
            split at h
            · exact .inl h
            · exact .inr h
          · exact h.elim
        · exact .inr h
      · exact .inr h
      · exact .inr h
      · exact .inl h
    · split at h
      · obtain ⟨cc, h⟩ := con_any h
        split at h
        · exact .inl h
        · exact .inr h
      · exact h.elim
    · exact h.elim
  | _ => exact .inl h

theorem evOp_sound (hT : TOk P T) (hS : SOk P S) (r : Rel C E s h a w) (hd : ∀ d, o.dst = some d → d < C.nt) (hk : evOp T S o.op o.dst s h K) : o.wp P a w (Post C K) Q := by
  rcases isRd_or hk with hk | hk
  · exact rd_sound hT hS r hd hk
  · exact wr_sound hT hS r hd hk

theorem Rel.skip (r : Rel C E s h a w) {dst : Option Nat} (hd : ∀ d, dst = some d → d < C.nt) : Rel C E (Vm.put dst (.tup []) s) h (a.put dst undef) w :=
  r.put (Ext.refl w) r.hs hd (.inr ⟨[], rfl, rfl⟩) (fun n u _ => Sub.refl E _ u)

theorem look_val {d : Nat} (h : val s (.tmp d) ≠ .dead) : val s (.tmp d) = look s d := by
  simp only [val] at h ⊢
  split at h
  · exact absurd rfl h
  · rename_i e; simp [e]

/-- A slot whose value is known may be told again. -/
theorem Rel.again (r : Rel C E s h a w) {d : Nat} {V : Vm.V} (e : look s d = V) : Rel C E ((d, V) :: s) h a w :=
  ⟨r.ob, r.dis, r.disR, r.KR, r.Rlt, r.Fin, r.R0, r.K0, r.Rin, r.Kin, fun n => by
    rw [look_cons]
    split
    · rename_i h1; subst h1; rw [← e]; exact r.sl d
    · exact r.sl n, r.nt, r.shape, r.frame, r.defers⟩

theorem evG_sound (hT : TOk P T) (hS : SOk P S) {ops : Array Oper} (r : Rel C E s h a w) (hd : ∀ d, o.dst = some d → d < C.nt) (hk : evG T S ops.toList o s h K) :
    if Region.wanted o (yielded ops a.tmps) = true then o.wp P a w (Post C K) Q else Post C K (a.put o.dst undef) w := by
  obtain ⟨dst, op, t, pos, after, g⟩ := o
  simp only [evG] at hk
  cases g with
  | none =>
    rw [if_pos (by simp [Region.wanted])]
    exact evOp_sound (o := ⟨dst, op, t, pos, after, none⟩) hT hS r hd hk
  | some jw =>
    obtain ⟨j, want⟩ := jw
    simp only [gdK] at hk
    rw [nth_eq] at hk
    split at hk
    · rename_i d q1 q2 q3 q4 q5 ej
      have ej' : ops[j]? = some ⟨some d, q1, q2, q3, q4, q5⟩ := by simpa using ej
      split at hk
      · rename_i b eb
        have hv : a.tmps.getD d undef = .bool b := by
          exact (r.lf eb).1
        have hsome : a.tmps[d]? = some (.bool b) := by
          rw [Array.getD_eq_getD_getElem?] at hv
          cases e : a.tmps[d]? with
          | none => rw [e] at hv; cases hv
          | some y => rw [e] at hv; simp at hv; rw [hv]
        have hy : yielded ops a.tmps j = some b := by
          unfold yielded; rw [ej']; simp [hsome]
        have hw : Region.wanted ⟨dst, op, t, pos, after, some (j, want)⟩ (yielded ops a.tmps) = beqB b want := by
          simp only [Region.wanted, hy]; cases b <;> cases want <;> rfl
        have hk' : (fun b' => match beqB b' want with | true => evOp T S op dst ((d, .lf (.bool b')) :: s) h K | false => putK dst (.tup []) ((d, .lf (.bool b')) :: s) fun s1 => K s1 h) b := by
          unfold brb at hk
          split at hk <;> exact hk
        have r' := r.again (look_val (by rw [eb]; simp) ▸ eb : look s d = .lf (.bool b))
        have hk2 : match beqB b want with | true => evOp T S op dst ((d, .lf (.bool b)) :: s) h K | false => putK dst (.tup []) ((d, .lf (.bool b)) :: s) fun s1 => K s1 h := hk'
        rw [hw]
        split at hk2
        · rename_i e; rw [e]; exact evOp_sound (o := ⟨dst, op, t, pos, after, some (j, want)⟩) hT hS r' hd hk2
        · rename_i e; rw [e]; exact ⟨_, _, _, r'.skip hd, putK_ok hk2⟩
      · rename_i eb
        have hv : a.tmps.getD d undef = undef := by
          have h1 := r.vr (x := .tmp d) (by rw [eb]; simp)
          rw [eb] at h1
          obtain ⟨vs, h2, h3⟩ := h1
          obtain rfl : vs = [] := h3
          exact h2
        have hy : yielded ops a.tmps j = none := by
          unfold yielded; rw [ej']
          rw [Array.getD_eq_getD_getElem?] at hv
          show (match a.tmps[d]? with | some (.bool b) => some b | _ => none) = none
          cases e : a.tmps[d]? with
          | none => rfl
          | some y => rw [e] at hv; simp at hv; rw [hv]; rfl
        have hw : ¬ Region.wanted ⟨dst, op, t, pos, after, some (j, want)⟩ (yielded ops a.tmps) = true := by
          simp [Region.wanted, hy]
        rw [if_neg hw]
        exact ⟨_, _, _, r.skip hd, putK_ok hk⟩
      · exact hk.elim
    · exact hk.elim
end
end Go.Vm
