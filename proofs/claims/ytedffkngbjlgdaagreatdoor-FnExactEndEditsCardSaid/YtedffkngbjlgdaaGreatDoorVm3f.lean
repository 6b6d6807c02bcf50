/- A verified evaluator for Go code: cuts; structs that are built; functions as values. -/
import Derived.Test.YtedffkngbjlgdaaGreatDoorVm3e
namespace Go.Vm
open Go.RowKit
set_option linter.unusedVariables false
set_option linter.unusedSimpArgs false

/-- A cut of a slice. -/
theorem SlR.cut {w : World} {g : Option (Nat × Nat)} {sz len : Nat} {own : Bool} {cut : Option (Nat × Nat)} {base : Option Addr} {n c x y z : Nat} (h : SlR w g sz len own cut (.slice base n c)) (h1 : x ≤ y) (h2 : y ≤ n) (h3 : y ≤ z) (h4 : z ≤ c) :
    SlR w g sz len own (some (offOf cut x, y - x)) (.slice (if z = x then base else base.map (·.add (x * sz))) (y - x) (z - x)) := by
  cases g with
  | none =>
    obtain ⟨ab, h5, hab, hc⟩ := h
    cases h5
    have : x = 0 ∧ y = 0 ∧ z = 0 := by omega
    obtain ⟨rfl, rfl, rfl⟩ := this
    refine ⟨_, rfl, hab, .inr ?_⟩
    rcases hc with rfl | rfl <;> rfl
  | some p =>
    obtain ⟨b, o⟩ := p
    obtain ⟨off, m, oo, c', g1, g2, g3, g4, g5, g6⟩ := h
    cases g5
    have e1 : offOf cut x = off + x := offOf_eq g1
    rw [e1]
    by_cases e : z = x
    · rw [if_pos e]
      exact ⟨off + x, y - x, oo, z - x, .inr rfl, by omega, by omega, .inl (by omega), rfl, fun j hj => by rw [show z - x = 0 by omega] at hj; simp at hj⟩
    · rw [if_neg e]
      have hoo : oo = o + off * sz := by rcases g4 with g4 | g4 <;> omega
      refine ⟨off + x, y - x, oo + x * sz, z - x, .inr rfl, by omega, by omega, .inr (by rw [hoo, Nat.add_mul]; omega), ?_, fun j hj => ?_⟩
      · simp only [Option.map_some, Addr.add]
        split
        · rename_i h0; rw [h0]; rfl
        · rfl
      · have hj' : x * sz + j < c * sz := by
          have : (z - x) * sz + x * sz = z * sz := by rw [← Nat.add_mul]; congr 1; omega
          have : z * sz ≤ c * sz := Nat.mul_le_mul_right _ h4
          omega
        have := g6 (x * sz + j) hj'
        rwa [← Nat.add_assoc] at this

section
variable {P : Program} {T : Tab} {S : Cons} {C : Ctx} {E : Env} {s : Sl} {h : Hp} {a : Act} {w w' : World} {K : Sl → Hp → Prop} {Q : Exit → Act → World → Prop} {o : Oper} {v : Value}

theorem optV_none {ρ : Operand → V} {l : Option Operand} (h : optV ρ l = none) : l = none := by cases l <;> simp_all [optV]
theorem optV_some {ρ : Operand → V} {l : Option Operand} {v : V} (h : optV ρ l = some v) : ∃ x, l = some x ∧ ρ x = v := by
  cases l with
  | none => simp [optV] at h
  | some x => simp only [optV, Option.some.injEq] at h; exact ⟨x, rfl, h⟩

theorem yl_slice {t : TypeId} {x : Operand} {lo hi mx : Option Operand} (hT : TOk P T) {k : Vm.V → Hp → Prop} (r : Rel C E s h a w) (ho : o.op = .slice t x lo hi mx)
    (hk : rdOp T S (.slice t x lo hi mx) o.dst (val s) (lookO h) k) : Yld P o a w E h k := by
  simp only [rdOp] at hk
  obtain ⟨ti, hti, hk'⟩ := ty_ok hT hk
  clear hk; have hk := hk'; clear hk'
  have hu := hti.und
  have hrun : ∀ u, (Instr.sliceAt t (a.eval x) (lo.map a.eval) (hi.map a.eval) (mx.map a.eval)).run P w = .ok u w → (execOp a.eval o).run P w = .ok (.value u) w := by
    intro u hu; simp only [execOp, ho, Sem.run_bind, hu, Result.andThen_ok]; rfl
  split at hk
  · rename_i ed
    rw [ed] at hu
    split at hk
    · rename_i b e1
      have hx := (r.lf e1).1
      simp only [sliceV] at hk
      split at hk
      · exact hk.elim
      · rename_i em
        obtain rfl := optV_none em
        obtain ⟨p, hk', hlo⟩ := lo_ok r hk
        clear hk; have hk := hk'; clear hk'
        obtain ⟨q, hk', hhi⟩ := lo_ok r hk
        clear hk; have hk := hk'; clear hk'
        obtain ⟨h0, h1, h2, hk⟩ := hk
        refine yl_lf (hrun _ ?_) rfl hk
        unfold Instr.sliceAt Instr.slice
        simp only [Sem.run_bind, run_underlying hu, Result.andThen_ok, hx, Option.map_none]
        simp only [Option.isSome_none, Bool.false_eq_true, if_false, Sem.run_bind, Sem.run_pure, Result.andThen_ok]
        rw [run_bounds2 (len := b.size) hlo hhi h0 h1 h2]; rfl
    · exact hk.elim
  · rename_i e ed
    rw [ed] at hu
    obtain ⟨ei, hei, hk'⟩ := ty_ok hT hk
    clear hk; have hk := hk'; clear hk'
    obtain ⟨inf, z, hinf, hinf2, _⟩ := hei.info
    have hso : (sizeOf e).run P w = .ok ei.size w := run_sizeOf (by rw [hinf]; simp [hinf2]) w
    have hrun2 : ∀ base len cap p q m, a.eval x = .slice base len cap → (Instr.sliceBounds true len cap (lo.map a.eval) (hi.map a.eval) (mx.map a.eval)).run P w = .ok (p, q, m) w →
        (execOp a.eval o).run P w = .ok (.value (.slice (if m = p then base else base.map (·.add (p * ei.size))) (q - p) (m - p))) w := by
      intro base len cap p q m hx hb
      refine hrun _ ?_
      unfold Instr.sliceAt Instr.slice
      simp only [Sem.run_bind, run_underlying hu, Result.andThen_ok, hx, hb, hso, Sem.run_pure]
    split at hk
    · rename_i e1
      have hx := (r.lf e1).1
      simp only [sliceV] at hk
      split at hk
      · exact hk.elim
      · rename_i em
        obtain rfl := optV_none em
        obtain ⟨p, hk', hlo⟩ := lo_ok r hk
        clear hk; have hk := hk'; clear hk'
        obtain ⟨q, hk', hhi⟩ := lo_ok r hk
        clear hk; have hk := hk'; clear hk'
        obtain ⟨rfl, rfl, hk⟩ := hk
        have := hrun2 none 0 0 _ _ _ hx (run_bounds2 (isS := true) (len := 0) (cap := 0) hlo hhi (by omega) (by omega) (by omega))
        exact yl_lf this rfl hk
    · rename_i u cut e1
      have hsl := r.slc e1
      simp only [sliceV] at hk
      obtain ⟨ob, hob, hk'⟩ := lenOf_ok hk
      clear hk; have hk := hk'; clear hk'
      obtain ⟨base, c', hx, hle, hmax, _⟩ := r.hs.slice hob (hsl.2 ob hob)
      split at hk
      · rename_i esz
        have hsz := nbeq_eq esz
        obtain ⟨p, hk', hlo⟩ := lo_ok r hk
        clear hk; have hk := hk'; clear hk'
        obtain ⟨q, hk', hhi⟩ := lo_ok r hk
        clear hk; have hk := hk'; clear hk'
        have hs2 := hsl.2 ob hob
        rw [hx] at hs2
        split at hk
        · rename_i em
          obtain rfl := optV_none em
          obtain ⟨h0, h1, h2, hk⟩ := hk
          have hb := run_bounds2 (P := P) (w := w) (isS := true) (len := cutLen cut ob.len) (cap := c') hlo hhi h0 h1 (by omega)
          have hr := hrun2 _ _ _ _ _ _ hx hb
          refine yl0 (V := .sl u (some (offOf cut p.toNat, (q - p).toNat))) hr (.inr ⟨rfl, fun ob' hob' => ?_⟩) hk
          rw [hob] at hob'; cases hob'
          have := hs2.cut (x := p.toNat) (y := q.toNat) (z := c') (by omega) (by omega) (by omega) (by omega)
          rw [show (q - p).toNat = q.toNat - p.toNat by omega, ← hsz]; exact this
        · rename_i m em
          obtain ⟨mo, rfl, emo⟩ := optV_some em
          cases hi with
          | none => simp only [optV] at hk
          | some ho' =>
            simp only [optV] at hk
            have hk' : bnd (some (val s mo)) 0 fun c => 0 ≤ p ∧ p ≤ q ∧ q ≤ c ∧ c ≤ (cutLen cut ob.len : Int) ∧ k (.sl u (some (offOf cut p.toNat, (q - p).toNat))) [] := by
              rw [emo]; exact hk
            obtain ⟨z', hk2, hz⟩ := lo_ok r (l := some mo) hk'
            clear hk hk'; have hk := hk2; clear hk2
            obtain ⟨h0, h1, h2, h3, hk⟩ := hk
            obtain ⟨k1, hhi⟩ := hhi
            obtain ⟨k2, hz⟩ := hz
            have hb := run_bounds3 (P := P) (w := w) (isS := true) (len := cutLen cut ob.len) (cap := c') hlo hhi hz h0 h1 h2 (by omega)
            have hr := hrun2 _ _ _ _ _ _ hx hb
            refine yl0 (V := .sl u (some (offOf cut p.toNat, (q - p).toNat))) hr (.inr ⟨rfl, fun ob' hob' => ?_⟩) hk
            rw [hob] at hob'; cases hob'
            have := hs2.cut (x := p.toNat) (y := q.toNat) (z := z'.toNat) (by omega) (by omega) (by omega) (by omega)
            rw [show (q - p).toNat = q.toNat - p.toNat by omega, ← hsz]; exact this
      · exact hk.elim
    · exact hk.elim
  · exact hk.elim
theorem op_slice {t : TypeId} {x : Operand} {lo hi mx : Option Operand} (hT : TOk P T) (r : Rel C E s h a w) (hd : ∀ d, o.dst = some d → d < C.nt) (ho : o.op = .slice t x lo hi mx)
    (hk : rdOp T S (.slice t x lo hi mx) o.dst (val s) (lookO h) fun v new => putN o.dst v new s h K) : o.wp P a w (Post C K) Q :=
  (yl_slice hT r ho hk).wp r hd

theorem ptsK_ok (r : Rel C E s h a w) : ∀ (l : List Operand) (K : List V → Prop), ptsK (val s) l K → ∃ cs, K cs ∧ VRs w E (lookO h) cs (l.map a.eval) ∧ ∀ x ∈ l.map a.eval, x.oneCell' = true
  | [], K, hk => ⟨[], hk, rfl, by simp⟩
  | o :: l, K, hk => by
    simp only [ptsK] at hk
    split at hk
    · rename_i u i f e
      obtain ⟨cs, h1, h2, h3⟩ := ptsK_ok r l _ hk
      have hv := r.vr (x := o) (by rw [e]; simp)
      rw [e] at hv
      refine ⟨_, h1, ⟨_, _, rfl, hv, h2⟩, fun x hx => ?_⟩
      cases hx with
      | head => obtain ⟨ad, e2⟩ := hv.1; rw [e2]; rfl
      | tail _ hx => exact h3 x hx
    · exact hk.elim

theorem yl_makeFunc {fn : Fn} {f1 cs : Array Operand} {k : Vm.V → Hp → Prop} (r : Rel C E s h a w) (ho : o.op = .makeFunc fn f1 cs)
    (hk : rdOp T S (.makeFunc fn f1 cs) o.dst (val s) (lookO h) k) : Yld P o a w E h k := by
  simp only [rdOp] at hk
  split at hk
  · rename_i f e
    have hf1 : f1 = #[] := arr_of_list e
    obtain ⟨cs', hk2, h2, h3⟩ := ptsK_ok r _ _ hk
    refine yl0 (V := .fn f cs') (v := .func (.func f) #[] (cs.map a.eval)) ?_ (.inr ⟨_, ?_, h2, h3⟩) hk2
    · simp [execOp, ho, Instr.makeFunc, hf1]
    · rw [← Array.toList_map, Array.toArray_toList]
  · exact hk.elim
theorem op_makeFunc {fn : Fn} {f1 cs : Array Operand} (r : Rel C E s h a w) (hd : ∀ d, o.dst = some d → d < C.nt) (ho : o.op = .makeFunc fn f1 cs)
    (hk : rdOp T S (.makeFunc fn f1 cs) o.dst (val s) (lookO h) fun v new => putN o.dst v new s h K) : o.wp P a w (Post C K) Q :=
  (yl_makeFunc r ho hk).wp r hd

theorem zip_size (off : Nat) : ∀ (l : List Value) (k : Nat) (A : Array Value), ((l.zipIdx k).foldl (fun (cs : Array Value) (x : Value × Nat) => cs.setIfInBounds (off + x.2) x.1) A).size = A.size
  | [], k, A => rfl
  | c :: l, k, A => by simp only [List.zipIdx_cons, List.foldl_cons]; rw [zip_size off l (k + 1)]; simp
theorem zip_get (off : Nat) : ∀ (l : List Value) (k : Nat) (A : Array Value), off + k + l.length ≤ A.size → ∀ j,
    ((l.zipIdx k).foldl (fun (cs : Array Value) (x : Value × Nat) => cs.setIfInBounds (off + x.2) x.1) A)[j]? = if off + k ≤ j ∧ j < off + k + l.length then l[j - (off + k)]? else A[j]?
  | [], k, A, h, j => by rw [if_neg (by simp only [List.length_nil]; omega)]; rfl
  | c :: l, k, A, h, j => by
    simp only [List.zipIdx_cons, List.foldl_cons]
    rw [zip_get off l (k + 1) _ (by simp at h ⊢; omega) j]
    simp only [List.length_cons] at h ⊢
    by_cases e : j = off + k
    · subst e
      rw [if_neg (by omega), if_pos (by omega), Array.getElem?_setIfInBounds_self_of_lt (by omega)]
      simp
    · rw [Array.getElem?_setIfInBounds_ne (by omega)]
      by_cases e2 : off + k ≤ j ∧ j < off + k + (l.length + 1)
      · rw [if_pos (by omega), if_pos e2, show j - (off + k) = (j - (off + (k + 1))) + 1 by omega, List.getElem?_cons_succ]
      · rw [if_neg (by omega), if_neg e2]
theorem zip_fold (off : Nat) (l : List Value) (A : Array Value) (h : off + l.length ≤ A.size) :
    ((l.zipIdx 0).foldl (fun (cs : Array Value) (x : Value × Nat) => cs.setIfInBounds (off + x.2) x.1) A) = (A.toList.take off ++ l ++ A.toList.drop (off + l.length)).toArray := by
  apply Array.ext_getElem?
  intro j
  rw [zip_get off l 0 A (by omega) j]
  have hA : A.toList.length = A.size := by simp
  simp only [List.getElem?_toArray, Nat.add_zero]
  by_cases e1 : j < off
  · rw [if_neg (by omega), List.append_assoc, List.getElem?_append_left (by simp; omega), List.getElem?_take_of_lt e1]; simp
  · by_cases e2 : j < off + l.length
    · rw [if_pos (by omega), List.append_assoc, List.getElem?_append_right (by simp; omega), List.getElem?_append_left (by simp; omega)]
      congr 1; simp; omega
    · rw [if_neg (by omega), List.getElem?_append_right (by simp; omega), List.getElem?_drop]
      simp only [Array.getElem?_toList]
      congr 1; simp; omega

theorem VRs.append {w : World} {E : Env} {g : Nat → Option Ob} : ∀ {cs : List V} {vs : List Value} {ds : List V} {us : List Value}, VRs w E g cs vs → VRs w E g ds us → VRs w E g (cs ++ ds) (vs ++ us)
  | [], vs, ds, us, h1, h2 => by obtain rfl : vs = [] := h1; exact h2
  | c :: cs, vs, ds, us, h1, h2 => by
    obtain ⟨x, xs, rfl, h3, h4⟩ := h1
    exact ⟨x, xs ++ us, rfl, h3, VRs.append h4 h2⟩
theorem VRs.splice {w : World} {E : Env} {g : Nat → Option Ob} {cs : List V} {vs : List Value} {ds : List V} {us : List Value} (h1 : VRs w E g cs vs) (h2 : VRs w E g ds us) (f : Nat) :
    VRs w E g (cs.take f ++ ds ++ cs.drop (f + ds.length)) (vs.take f ++ us ++ vs.drop (f + us.length)) := by
  have e1 := h1.drop 0 f
  have e2 := h1.drop (f + ds.length) (cs.length)
  simp only [List.drop_zero] at e1
  rw [List.take_of_length_le (by simp), List.take_of_length_le (by simp [h1.length])] at e2
  rw [← h2.length]
  exact (e1.append h2).append e2

theorem fill_ok (r : Rel C E s h a w) {fs : List (Nat × Nat × Nat × Bool)} {pl : Nat → Option (Nat × Nat)} (hpl : ∀ j x, fs[j]? = some x → pl j = some (x.2.1, x.2.2.1)) :
    ∀ (ps : List (Nat × Operand)) (cs : List V) (vs : List Value) (K : List V → Prop), VRs w E (lookO h) cs vs → (∀ x ∈ vs, x.oneCell' = true) → fillK fs (partsV (val s) ps) cs K →
      ∃ cs' vs', K cs' ∧ VRs w E (lookO h) cs' vs' ∧ (∀ x ∈ vs', x.oneCell' = true) ∧ Instr.fill pl vs.toArray (ps.map fun (i, x) => (i, a.eval x)) = some vs'.toArray
  | [], cs, vs, K, h1, h2, hk => ⟨cs, vs, hk, h1, h2, rfl⟩
  | (i, x) :: ps, cs, vs, K, h1, h2, hk => by
    simp only [partsV, fillK] at hk
    rw [nth_eq] at hk
    split at hk
    · rename_i ft off n g ef
      have hvd : val s x ≠ .dead := by intro e; rw [e] at hk; exact hk.elim
      obtain ⟨xs, hk2, h3, h4, _⟩ := cells_VR (r.vr hvd) hk
      split at hk2
      · rename_i en
        have hn := nbeq_eq en
        obtain ⟨hk3, hle⟩ := spliceK_ok _ _ _ _ hk2
        have hlen : xs.length = (a.eval x).cells.size := by rw [h3.length]; simp
        have hcl : cs.length = vs.length := h1.length
        have hfold : ((a.eval x).cells.zipIdx.foldl (fun cs (x : Value × Nat) => cs.setIfInBounds (off + x.2) x.1) vs.toArray) = (vs.take off ++ (a.eval x).cells.toList ++ vs.drop (off + xs.length)).toArray := by
          rw [← Array.foldl_toList, Array.toList_zipIdx]
          rw [zip_fold off _ vs.toArray (by simp; omega)]
          simp [hlen]
        have hv := h1.splice h3 off
        rw [← h3.length] at hv
        have ho : ∀ y ∈ vs.take off ++ (a.eval x).cells.toList ++ vs.drop (off + xs.length), y.oneCell' = true := by
          intro y hy
          simp only [List.mem_append] at hy
          rcases hy with (hy | hy) | hy
          · exact h2 y (List.mem_of_mem_take hy)
          · exact h4 y hy
          · exact h2 y (List.mem_of_mem_drop hy)
        obtain ⟨cs', vs', g1, g2, g3, g4⟩ := fill_ok r hpl ps _ _ K hv ho hk3
        refine ⟨cs', vs', g1, g2, g3, ?_⟩
        simp only [List.map_cons, Instr.fill, hpl i _ ef]
        rw [if_neg (by first | (simp; done) | (simp; omega)), hfold]
        exact g4
      · exact hk2.elim
    · exact hk.elim
end
end Go.Vm
