/- A verified evaluator for Go code: the type table, and how a slot is filled. -/
import Derived.Test.YtedffkngbjlgdaaGreatDoorVm2b
namespace Go.Vm
open Go.RowKit
set_option linter.unusedVariables false
set_option linter.unusedSimpArgs false

def aggB (d : Option TypeDesc) : Bool := match d with | some (.struct _) => true | some (.array _ _) => true | _ => false

/-- Equality of two structs of type t is that of their cells. -/
def EqOk (P : Program) (t : TypeId) (ks : List SK) : Prop :=
  P.eqGuardType P.depth t = false ∧ ∀ (E : Env) (g : Nat → Option Ob) (l m : List V) (K : Bool → Prop) (vs us : List Value) (w : World), eqCells ks l m K → VRs w E g l vs → VRs w E g m us →
    ∃ b, K b ∧ (Op.equal t (.agg vs.toArray) (.agg us.toArray)).run P w = .ok b w

structure FieldOk (P : Program) (f : Field) (x : Nat × Nat × Nat × Bool) : Prop where
  type : f.type = x.1
  off : f.offset = x.2.1
  size : (P.info? f.type).map (·.size) = some x.2.2.1
  pos : 0 < x.2.2.1
  agg : aggB (P.underlying f.type) = x.2.2.2
  und : ∃ d, P.underlying f.type = some d

structure TyOk (P : Program) (t : TypeId) (i : TyI) : Prop where
  info : ∃ inf z, P.info? t = some inf ∧ inf.size = i.size ∧ inf.bytes = i.bytes ∧ inf.zero = some z ∧ z.cells.toList = i.zero ∧ (i.agg = false → z.oneCell' = true) ∧ (i.agg = true → ∃ cs, z = .agg cs)
  und : match i.d with
    | .int k => P.underlying t = some (.int k)
    | .bool => P.underlying t = some .bool
    | .string => P.underlying t = some .string
    | .slice e => P.underlying t = some (.slice e)
    | .pointer e => P.underlying t = some (.pointer e)
    | .struct fs => ∃ F : Array Field, P.underlying t = some (.struct F) ∧ F.size = fs.length ∧ ∀ (j : Nat) (x : Nat × Nat × Nat × Bool), fs[j]? = some x → ∃ f : Field, F[j]? = some f ∧ FieldOk P f x
    | .func => True
    | .other => True
  agg : aggB (P.underlying t) = i.agg
  sure : ∃ d, P.underlying t = some d
  zl : i.zero.length = i.size
  zs : allSc i.zero = true
  pos : 0 < i.size
  by_ : i.bytes ≤ 32768
  eq : i.ks ≠ [] → EqOk P t i.ks

def TOk (P : Program) (T : Tab) : Prop := ∀ p ∈ T, TyOk P p.1 p.2

theorem ty_ok {P : Program} {T : Tab} (hT : TOk P T) {t : Nat} {K : TyI → Prop} (h : ty T t K) : ∃ i, TyOk P t i ∧ K i := by
  induction T with
  | nil => exact h.elim
  | cons p T ih =>
    obtain ⟨k, i⟩ := p
    simp only [ty] at h
    split at h
    · rename_i e
      obtain rfl := nbeq_eq e
      exact ⟨i, hT (k, i) (List.mem_cons_self ..), h⟩
    · exact ih (fun p hp => hT p (List.mem_cons_of_mem _ hp)) h

/-- The world has only grown. -/
structure Ext (w w' : World) : Prop where
  shape : Shape w w'
  blk : ∀ b, b < w.heap.size → w'.heap[b]? = w.heap[b]?

theorem Ext.refl (w : World) : Ext w w := ⟨Shape.refl w, fun _ _ => rfl⟩
theorem Ext.trans {a b c : World} (h : Ext a b) (k : Ext b c) : Ext a c :=
  ⟨h.shape.trans k.shape, fun x hx => (k.blk x (Nat.lt_of_lt_of_le hx h.shape.size)).trans (h.blk x hx)⟩
theorem Ext.drew (w : World) : Ext w w.drew := ⟨Shape.drew w, fun _ _ => rfl⟩
theorem Ext.alloc (w : World) (o : Obj) : Ext w (w.alloc o) := ⟨Shape.alloc w o, fun b hb => Below.heap_alloc w o b hb⟩

theorem putN_nil {d : Option Nat} {v : V} {s : Sl} {h : Hp} {K : Sl → Hp → Prop} (hp : putN d v [] s h K) : K (put d v s) h := by
  unfold putN at hp; rw [putK_eq] at hp; exact hp

theorem getD_put {a : Act} {d n : Nat} {v : Value} (hd : d < a.tmps.size) : (a.put (some d) v).tmps.getD n undef = if d = n then v else a.tmps.getD n undef := by
  simp only [Act.put]
  by_cases e : d = n
  · subst e; simp [Array.getD, hd]
  · simp only [Array.getD_eq_getD_getElem?, Array.getElem?_setIfInBounds_ne e, if_neg e]

theorem tv_lt {C : Ctx} {a : Act} {n : Nat} (h : ¬ 1000000 ≤ n) : C.tv a n = a.tmps.getD n undef := if_neg h
theorem tv_put {C : Ctx} {a : Act} {d n : Nat} {v : Value} (hn : a.tmps.size = C.nt) (hd : d < C.nt) : C.tv (a.put (some d) v) n = if d = n then v else C.tv a n := by
  have := C.ntle
  by_cases e : 1000000 ≤ n
  · unfold Ctx.tv; rw [if_pos e, if_pos e, if_neg (by omega)]
  · rw [tv_lt e, tv_lt e, getD_put (by omega)]

theorem Rel.val {C : Ctx} {E : Env} {s : Sl} {h : Hp} {a : Act} {w : World} (r : Rel C E s h a w) (x : Operand) : val s x = .dead ∨ VR w E (lookO h) (val s x) (a.eval x) := by
  cases x with
  | tmp t =>
    simp only [Vm.val]
    split
    · exact .inl rfl
    · rename_i e
      have := r.sl t
      rw [tv_lt (fun h => by rw [Nat.ble_eq_true_of_le h] at e; cases e)] at this
      exact this
  | func f => exact .inr ⟨[], rfl, rfl, by simp⟩
  | global g => exact .inl rfl
  | const v =>
    have : a.eval (.const v) = v := rfl
    rw [this]
    simp only [Vm.val]
    cases v with
    | agg cs =>
      simp only [ofVal]
      split
      · rename_i e
        refine .inr ⟨cs.toList, by simp, ?_, ?_⟩
        · generalize cs.toList = l at e
          induction l with
          | nil => rfl
          | cons x l ih =>
            simp only [allSc] at e
            split at e
            · rename_i e1; exact ⟨x, l, rfl, ⟨rfl, e1⟩, ih e⟩
            · cases e
        · generalize cs.toList = l at e
          induction l with
          | nil => simp
          | cons x l ih =>
            simp only [allSc] at e
            split at e
            · rename_i e1; intro y hy; cases hy with | head => exact isSc_one e1 | tail _ hy => exact ih e y hy
            · cases e
      · exact .inl rfl
    | tuple cs => exact .inl rfl
    | _ =>
      simp only [ofVal]
      split
      · rename_i e; exact .inr ⟨rfl, e⟩
      · exact .inl rfl

/-- The slot of an operation is filled. -/
theorem Rel.put {C : Ctx} {E E' : Env} {s : Sl} {h h' : Hp} {a : Act} {w w' : World} (r : Rel C E s h a w) (x : Ext w w') (hs : Hs C w' E' h') {dst : Option Nat} (hd : ∀ d, dst = some d → d < C.nt) {V : V} {v : Value}
    (hv : V = .dead ∨ VR w' E' (lookO h') V v) (hsub : ∀ n u, men u (look s n) = true → Sub E (lookO h) E' (lookO h') u) : Rel C E' (put dst V s) h' (a.put dst v) w' := by
  refine ⟨hs.ob, hs.dis, hs.disR, hs.KR, hs.Rlt, hs.Fin, hs.R0, hs.K0, hs.Rin, hs.Kin, fun n => ?_, ?_, r.shape.trans x.shape, fun b hb h0 => ?_, ?_⟩
  · have old : look s n = .dead ∨ VR w' E' (lookO h') (look s n) (C.tv a n) := by
      rcases r.sl n with h1 | h1
      · exact .inl h1
      · exact .inr (VR.mono x.shape _ _ (fun u hu => hsub n u hu) h1)
    cases dst with
    | none => exact old
    | some d =>
      have hdn := hd d rfl
      simp only [Vm.put]
      rw [look_cons, tv_put r.nt hdn]
      split
      · exact hv
      · exact old
  · cases dst <;> simp [Act.put, r.nt]
  · rw [x.blk b (Nat.lt_of_lt_of_le hb r.shape.size)]; exact r.frame b hb h0
  · cases dst <;> exact r.defers

theorem fin0 {C : Ctx} {E : Env} {s : Sl} {h : Hp} {a : Act} {w w' : World} {K : Sl → Hp → Prop} (r : Rel C E s h a w) (x : Ext w w') {dst : Option Nat} (hd : ∀ d, dst = some d → d < C.nt) {V : V} {v : Value}
    (hv : V = .dead ∨ VR w' E (lookO h) V v) (hp : putN dst V [] s h K) : ∃ E' s' h', Rel C E' s' h' (a.put dst v) w' ∧ K s' h' :=
  ⟨E, _, h, r.put x (r.hs.world x.shape x.blk) hd hv (fun n u _ => Sub.refl E _ u), putN_nil hp⟩

theorem appV_nil {β : Type _} (l : List β) : appV ([] : List β) l = l := rfl

theorem finN {C : Ctx} {E : Env} {s : Sl} {h : Hp} {a : Act} {w w' : World} {K : Sl → Hp → Prop} (r : Rel C E s h a w) (x : Ext w w') {dst : Option Nat} (hd : ∀ d, dst = some d → d < C.nt) {V : V} {v : Value} {n : Nat × Option Ob} {new : Hp}
    (hp : putN dst V (n :: new) s h K)
    (hg : ∀ d, dst = some d → (∀ m, 16 * d ≤ m → m < 16 * d + 16 → NoMen m h) → (∀ n m, m / 16 = d → men m (look s n) = false) → ∃ E', Hs C w' E' (appV (n :: new) h) ∧ (∀ u, u / 16 ≠ d → Sub E (lookO h) E' (lookO (appV (n :: new) h)) u) ∧ (V = .dead ∨ VR w' E' (lookO (appV (n :: new) h)) V v)) :
    ∃ E' s' h', Rel C E' s' h' (a.put dst v) w' ∧ K s' h' := by
  cases dst with
  | none => exact hp.elim
  | some d =>
    simp only [putN, free] at hp
    split at hp
    · exact hp.elim
    · rename_i e1
      split at hp
      · exact hp.elim
      · rename_i e2
        rw [fv_eq] at hp
        obtain ⟨E', h1, h2, h5⟩ := hg d rfl (fun m hm1 hm2 => noMen_of_ref (by rw [show m / 16 = d by omega]; exact e2)) (fun n m hm => men_of_slRef (by rw [hm]; exact e1) n)
        refine ⟨E', _, _, r.put x h1 hd h5 (fun n u hu => h2 u ?_), hp⟩
        intro e
        rw [men_of_slRef (t := u) (by rw [e]; exact e1) n] at hu; cases hu
end Go.Vm
