/- A verified evaluator for Go code: clear. -/
import Derived.Test.YtedffkngbjlgdaaGreatDoorVm4c
namespace Go.Vm
open Go.RowKit
set_option linter.unusedVariables false
set_option linter.unusedSimpArgs false

section
variable {P : Program} {T : Tab} {S : Cons} {C : Ctx} {E E1 : Env} {s : Sl} {h h1 : Hp} {a : Act} {w w' : World} {K : Sl → Hp → Prop} {Q : Exit → Act → World → Prop} {o : Oper} {v : Value}

/-- One's own row, some of its cells overwritten with numbers, bools and texts. -/
theorem own_swap {u sz : Nat} {α : Type} {enc : α → List D} {l l2 : List α} {b p : Nat} {V : Vm.V} (r : Rel C E s h a w) (hd : ∀ d, o.dst = some d → d < C.nt) (eo : lookO h u = some (.row .own sz enc l)) (hγ : E.γ u = some (b, p)) (hl : l2.length = l.length)
    (hsh : Shape w w') (hblk : ∀ x, x ≠ b → w'.heap[x]? = w.heap[x]?)
    (hc : ∀ vals, RowC w b p sz l.length vals → ∃ vals2, RowC w' b p sz l.length vals2 ∧ ∀ i f, i < l.length → f < sz → (dat enc l2 i f = .lf (vals2 i f) ∧ isSc (vals2 i f) = true) ∨ (dat enc l2 i f = dat enc l i f ∧ vals2 i f = vals i f))
    (hV : ∀ E' g, VR w' E' g V v) (hk : K (Vm.put o.dst V s) ((u, some (.row .own sz enc l2)) :: h)) : Post C K (a.put o.dst v) w' := by
  have hts : (lookO h u).isSome = true := by rw [eo]; rfl
  obtain ⟨hz, hm, h3⟩ := r.ob u _ eo
  rw [hγ] at h3
  obtain ⟨hb, vals, hv, G, q1, q2, q3, q4, q5⟩ := h3
  have hbF : E.F u b := (q4 b).2 (.inl rfl)
  obtain ⟨vals2, hv2, hdat⟩ := hc vals hv
  obtain ⟨r1, tr1⟩ := r.hs.drop u
  have hB : ∀ x, w'.heap[x]? = w.heap[x]? ∨ ¬ E.R x ∧ ∀ v, (lookO ((u, none) :: h) v).isSome = true → ¬ E.F v x := by
    intro x
    by_cases e : x = b
    · subst e; exact .inr ⟨(r.hs.blk hts hbF).2, (r.hs.blk hts hbF).1⟩
    · exact .inl (hblk x e)
  obtain ⟨harr, hfr, hsub⟩ := back_harr (t := u) r1 tr1 hB
  have hchg : Chg C w w' := ⟨hsh, fun x hx hx0 => hblk x (by
    rintro rfl
    rcases (r.Fin u hts x hbF).2.1 with h1 | h1
    · omega
    · exact hx0 h1)⟩
  have r1' := r1.frame hsh hfr
  have hKb : ∀ x, E.Kp x → w'.heap[x]? = w.heap[x]? := fun x hx => hblk x (by rintro rfl; exact (r.hs.blk hts hbF).2 (r.hs.KR x hx))
  let G' : Nat → Nat → Nat → Prop := fun i f x => vals2 i f = vals i f ∧ dat enc l2 i f = dat enc l i f ∧ G i f x
  let F' : Nat → Prop := fun x => x = b ∨ ∃ i f, i < l.length ∧ f < sz ∧ G' i f x
  have hF' : ∀ x, F' x → E.F u x := by
    rintro x (rfl | ⟨i, f, hi, hf, _, _, hx⟩)
    · exact hbF
    · exact (q4 x).2 (.inr ⟨i, f, hi, hf, hx⟩)
  have hfresh : Fresh C w' E ((u, none) :: (u, none) :: h) F' := by
    intro x hx
    have hx' := hF' x hx
    exact ⟨Nat.lt_of_lt_of_le (r.Fin u hts x hx').1 hsh.size, okW (r.Fin u hts x hx') hsh, (r.hs.blk hts hx').2, fun v hv => (r.hs.blk hts hx').1 v (lookO_drop hv)⟩
  have hob : ObR w' (E.set u (E.γ u) F') (lookO ((u, some (.row .own sz enc l2)) :: (u, none) :: h)) u (.row .own sz enc l2) := by
    refine ⟨hz, by rw [hl]; exact hm, ?_⟩
    rw [Env.set_γ, hγ]
    refine ⟨Nat.lt_of_lt_of_le hb hsh.size, vals2, by rw [hl]; exact hv2, G', fun i f hi hf => ?_, fun i f j g hi hf hj hg hne x hx hx' => ?_, fun i f hi hf hx => ?_, fun x => by rw [Env.set_F, hl], fun j hj => ?_⟩
    · rw [hl] at hi
      rcases hdat i f hi hf with ⟨e1, e2⟩ | ⟨e1, e2⟩
      · by_cases e3 : vals2 i f = vals i f ∧ dat enc l2 i f = dat enc l i f
        · have := q1 i f hi hf
          rw [e3.1, e3.2]
          exact (this.frame (fun x hx => hblk x (by rintro rfl; exact q3 i f hi hf hx)) hKb).congr fun x => ⟨fun h => h.2.2, fun h => ⟨e3.1, e3.2, h⟩⟩
        · rw [e1]; exact .lf e2 fun x hx => e3 ⟨hx.1, hx.2.1⟩
      · have := q1 i f hi hf
        rw [e1, e2]
        exact (this.frame (fun x hx => hblk x (by rintro rfl; exact q3 i f hi hf hx)) hKb).congr fun x => ⟨fun h => h.2.2, fun h => ⟨e2, e1, h⟩⟩
    · rw [hl] at hi hj; exact q2 i f j g hi hf hj hg hne x hx.2.2 hx'.2.2
    · rw [hl] at hi; exact q3 i f hi hf hx.2.2
    · rw [hl] at hj; rw [hsh.fr b _ hb]; exact q5 j hj
  have hs := r.hs.back (o := .row .own sz enc l2) r1' hsh eo rfl (by simp [Ob.len, hl]) id harr hfresh hob
  have hsubA : ∀ m, Sub E (lookO h) (E.set u (E.γ u) F') (lookO ((u, some (.row .own sz enc l2)) :: h)) m := by
    intro m o' ho'
    rw [lookO_cons] at ho'
    split at ho'
    · rename_i e; subst e; cases ho'
      exact ⟨_, eo, rfl, by simp [Ob.len, hl], id, Env.set_γ _ _ _ _⟩
    · rename_i e
      exact ⟨o', ho', rfl, rfl, id, Env.set_γ' _ _ _ (Ne.symm e)⟩
  exact ⟨_, _, _, r.putW hchg (hs.look (lookO_twice u _ none h)) hd (.inr (hV _ _)) (fun n m _ => hsubA m), hk⟩

theorem zeroCells_list {zc : Array Value} {i : TyI} {t : TypeId} (hi : TyOk P t i) (h : zc.toList = i.zero) (n : Nat) : (Builtin.zeroCells zc n).toList = flatV i.size n fun _ f => i.zero.getD f undef := by
  have hzs : zc.size = i.size := by rw [← hi.zl, ← h]; simp
  apply List.ext_getElem?
  intro j
  unfold Builtin.zeroCells flatV
  simp only [Array.toList_map, List.getElem?_map, hzs]
  by_cases hj : j < n * i.size
  · have hp := hi.pos
    have hm : j % i.size < zc.size := by rw [hzs]; exact Nat.mod_lt _ hp
    rw [List.getElem?_range hj]
    simp only [Array.toList_range, List.getElem?_range hj, Option.map_some]
    rw [getElem!_pos zc _ hm, ← h]
    simp [List.getD_eq_getElem?_getD, hm]
  · rw [List.getElem?_eq_none (by simpa using hj), List.getElem?_eq_none (by simpa using hj)]; rfl

/-- Cells overwritten from element q on. -/
theorem setCells_els {b p sz n q k : Nat} {vals new : Nat → Nat → Value} (h : RowC w b p sz n vals) (hq : q + k ≤ n) :
    RowC (w.setCells b (p + q * sz) (flatV sz k new)) b p sz n (fun i f => if q ≤ i ∧ i < q + k then new (i - q) f else vals i f) := by
  intro i f hi hf
  by_cases e : q ≤ i ∧ i < q + k
  · simp only [if_pos e]
    have hlt : (i - q) * sz + f < k * sz := idx_lt (by omega) hf
    have hmul : (i - q) * sz + q * sz = i * sz := by rw [← Nat.add_mul]; congr 1; omega
    have := World.cell?_setCells_in b (flatV sz k new) (p + q * sz) w (fun j hj => by
      rw [flatV_len] at hj
      obtain ⟨i', f', rfl, hi', hf'⟩ := flatV_get' (vals := vals) hj
      have h2 := h (q + i') f' (by omega) hf'
      rw [Nat.add_mul] at h2
      rw [show p + q * sz + (i' * sz + f') = p + (q * sz + i' * sz + f') by omega, h2]; rfl) ((i - q) * sz + f) (by rw [flatV_len]; exact hlt)
    rw [show p + (i * sz + f) = p + q * sz + ((i - q) * sz + f) by omega, this]
    have hg := flatV_get (sz := sz) (n := k) (vals := new) (i := i - q) (f := f) (by omega) hf
    rw [List.getElem?_eq_getElem (by rw [flatV_len]; exact hlt)] at hg
    exact hg
  · simp only [if_neg e]
    rw [World.cell?_setCells_out]
    · exact h i f hi hf
    · intro _ _
      show p + (i * sz + f) < p + q * sz ∨ p + q * sz + (flatV sz k new).length ≤ p + (i * sz + f)
      rw [flatV_len]
      by_cases e1 : i < q
      · have : (i + 1) * sz ≤ q * sz := Nat.mul_le_mul_right _ e1
        rw [Nat.add_mul] at this; omega
      · have : (q + k) * sz ≤ i * sz := Nat.mul_le_mul_right _ (by omega)
        rw [Nat.add_mul] at this; omega

theorem op_clear {c : Call} (hT : TOk P T) (r : Rel C E s h a w) (hd : ∀ d, o.dst = some d → d < C.nt) (ho : o.op = .call c) (hc : c.callee = .builtin .clear)
    (hk : wrClear T o.dst s h K c.args.toList c.argTypes.toList) : o.wp P a w (Post C K) Q := by
  generalize ha : c.args.toList = as at hk
  generalize ht : c.argTypes.toList = ts at hk
  obtain ⟨x, t, rfl, rfl⟩ : ∃ x t, as = [x] ∧ ts = [t] := by
    rcases as with _ | ⟨x, _ | ⟨_, _⟩⟩ <;> rcases ts with _ | ⟨t, _ | ⟨_, _⟩⟩ <;> first | exact hk.elim | exact ⟨_, _, rfl, rfl⟩
  simp only [wrClear] at hk
  obtain ⟨ti, hti, hk'⟩ := ty_ok hT hk
  clear hk; have hk := hk'; clear hk'
  have hu := hti.und
  split at hk
  · rename_i e ed
    rw [ed] at hu
    obtain ⟨ei, hei, hk'⟩ := ty_ok hT hk
    clear hk; have hk := hk'; clear hk'
    split at hk
    · rename_i uu oo nn es
      split at hk
      · rename_i k sz α enc l eo
        split at hk
        · rename_i hsz
          obtain rfl := nbeq_eq hsz
          obtain ⟨z, hz, hk⟩ := hk
          have hk := putK_ok hk
          obtain ⟨_, hsl⟩ := r.slc es
          have hs := hsl _ eo
          simp only [Ob.sz, Ob.len] at hs
          obtain ⟨inf, zv, h1, h2, h3, h4, h5, h6, h7⟩ := hei.info
          obtain ⟨cc, hrb⟩ := run_builtin (P := P) (a := a) (w := w) ho hc
          have hrun : ∀ u w', (Builtin.clear_ #[t] o.type #[a.eval x]).run P w = .ok u w' → (execOp a.eval o).run P w = .ok (.value u) w' := by
            intro u w' hu
            rw [hrb, arr_of_list ht, arr_of_list ha]
            simp only [builtin, List.map_toArray, List.map_cons, List.map_nil, Sem.run_bind, hu, Result.andThen_ok]; rfl
          have hVu : ∀ w E' g, VR w E' g (.tup []) undef := fun w E' g => ⟨[], rfl, rfl⟩
          cases eγ : E.γ uu with
          | none =>
            rw [eγ] at hs
            obtain ⟨ab, hx, hab, hcut⟩ := hs
            obtain rfl : ab = none := hab rfl
            have hnn : oo = 0 ∧ nn = 0 := by rcases hcut with h | h <;> cases h; exact ⟨rfl, rfl⟩
            obtain ⟨rfl, rfl⟩ := hnn
            refine wp_val (hrun undef w ?_) ?_
            · rw [hx]; simp [Builtin.clear_, run_underlying hu]; rfl
            · have e1 : l.take 0 ++ List.replicate 0 z ++ l.drop (0 + 0) = l := by simp
              rw [e1] at hk
              have hsubA : ∀ m, Sub E (lookO h) E (lookO ((uu, some (.row .own ei.size enc l)) :: h)) m := by
                intro m o' ho'
                rw [lookO_cons] at ho'
                split at ho'
                · rename_i e; subst e; cases ho'; exact ⟨_, eo, rfl, rfl, id, rfl⟩
                · exact ⟨o', ho', rfl, rfl, id, rfl⟩
              have hll : lookO h = lookO ((uu, some (.row .own ei.size enc l)) :: h) := by
                funext m; rw [lookO_cons]; split
                · rename_i e; subst e; exact eo
                · rfl
              exact ⟨_, _, _, r.put (Ext.refl w) (r.hs.look hll) hd (.inr (hVu _ _ _)) (fun n m _ => hsubA m), hk⟩
          | some bp =>
            obtain ⟨b, p⟩ := bp
            rw [eγ] at hs
            obtain ⟨off, n, o2, c2, g1, g2, g3, g4, g5, g6⟩ := hs
            have hoff : off = oo ∧ n = nn := by rcases g1 with ⟨g1, _⟩ | g1 <;> cases g1; exact ⟨rfl, rfl⟩
            obtain ⟨rfl, rfl⟩ := hoff
            have hfz := row_frozen (own := true) r.hs eo eγ
            have hlen : (l.take off ++ List.replicate n z ++ l.drop (off + n)).length = l.length := by simp; omega
            let new : Nat → Nat → Value := fun _ f => ei.zero.getD f undef
            have hw' : (Builtin.clear_ #[t] o.type #[a.eval x]).run P w = .ok undef (w.setCells b (p + off * ei.size) (flatV ei.size n new)) := by
              rw [g5]
              rcases Nat.eq_zero_or_pos n with h0 | h0
              · subst h0
                have : flatV ei.size 0 new = [] := by simp [flatV]
                rw [this]; simp [Builtin.clear_, run_underlying hu, World.setCells]; rfl
              · have ho2 : o2 = p + off * ei.size := by rcases g4 with g4 | g4 <;> omega
                have hzz : (zeroValue e).run P w = .ok zv w := by simp [zeroValue, typeInfo, h1, h4]
                have hle : (off + n) * ei.size ≤ l.length * ei.size := Nat.mul_le_mul_right _ g2
                rw [Nat.add_mul] at hle
                have hst := run_storeCells_cells (P := P) b (p + off * ei.size) (flatV ei.size n new) 0 w
                  (fun j hj => by
                    rw [flatV_len] at hj
                    obtain ⟨y, hy⟩ := (hfz.1 (off * ei.size + j) (by omega)).1
                    rw [show p + off * ei.size + 0 + j = p + (off * ei.size + j) by omega, hy]; rfl)
                  (fun j hj => by
                    rw [flatV_len] at hj
                    have := (hfz.1 (off * ei.size + j) (by omega)).2
                    rwa [show p + off * ei.size + 0 + j = p + (off * ei.size + j) by omega])
                  (fun y hy => by
                    unfold flatV at hy
                    simp only [List.mem_map, List.mem_range] at hy
                    obtain ⟨j, hj, rfl⟩ := hy
                    obtain ⟨i, f, rfl, hi, hf⟩ := flatV_get' (vals := new) hj
                    rw [(divmod hf).1, (divmod hf).2]
                    obtain ⟨u, hu1, hu2⟩ := zero_get hei hf
                    simp only [new, List.getD_eq_getElem?_getD, hu1]; exact isSc_one hu2)
                rw [Nat.add_zero] at hst
                have hn0 : n ≠ 0 := by omega
                subst ho2
                rw [← zeroCells_list hei h5] at hst ⊢
                cases n with
                | zero => exact absurd rfl hn0
                | succ n => simp [Builtin.clear_, run_underlying hu, hzz, hst]; rfl
            refine wp_val (hrun _ _ hw') (own_swap r hd eo eγ hlen (setCells_shape _ _ _ _) (fun x hx => setCells_blk _ _ _ hx) (fun vals hv => ⟨_, setCells_els (q := off) (k := n) (new := new) hv g2, fun i f hi hf => ?_⟩) (fun E' g => hVu _ E' g) hk)
            have hzl : (enc z)[f]? = some (.lf (new i f)) ∧ isSc (new i f) = true := by
              obtain ⟨u, hu1, hu2⟩ := zero_get hei hf
              simp only [new, List.getD_eq_getElem?_getD, hu1, hz, List.getElem?_map]
              exact ⟨rfl, hu2⟩
            by_cases e3 : off ≤ i ∧ i < off + n
            · left
              simp only [if_pos e3]
              refine ⟨?_, hzl.2⟩
              unfold dat
              have : (l.take off ++ List.replicate n z ++ l.drop (off + n))[i]? = some z := by
                rw [List.append_assoc, List.getElem?_append_right (by simp; omega), List.getElem?_append_left (by simp; omega)]
                rw [List.getElem?_replicate, if_pos (by simp; omega)]
              rw [this]
              simp only [List.getD_eq_getElem?_getD, hzl.1]; rfl
            · right
              simp only [if_neg e3]
              refine ⟨?_, trivial⟩
              unfold dat
              have : (l.take off ++ List.replicate n z ++ l.drop (off + n))[i]? = l[i]? := by
                by_cases e4 : i < off
                · rw [List.append_assoc, List.getElem?_append_left (by simp; omega), List.getElem?_take_of_lt e4]
                · rw [List.getElem?_append_right (by simp; omega), List.getElem?_drop]
                  congr 1; simp; omega
              rw [this]
        · exact hk.elim
      · exact hk.elim
    · exact hk.elim
  · exact hk.elim
end
end Go.Vm
