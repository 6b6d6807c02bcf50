/- A verified evaluator for Go code: literals of slices. -/
import Derived.Test.YtedffkngbjlgdaaGreatDoorVm3k
namespace Go.Vm
open Go.RowKit
set_option linter.unusedVariables false
set_option linter.unusedSimpArgs false

section
variable {P : Program} {T : Tab} {S : Cons} {C : Ctx} {E : Env} {s : Sl} {h : Hp} {a : Act} {w w' : World} {K : Sl → Hp → Prop} {Q : Exit → Act → World → Prop} {o : Oper} {v : Value}

theorem splice_at {β : Type _} {l m : List β} {d : β} {p j : Nat} (h : p + m.length ≤ l.length) :
    (l.take p ++ m ++ l.drop (p + m.length)).getD j d = if p ≤ j ∧ j < p + m.length then m.getD (j - p) d else l.getD j d := by
  have hl : (l.take p).length = p := by simp; omega
  have hl2 : (l.take p ++ m).length = p + m.length := by rw [List.length_append, hl]
  simp only [List.getD_eq_getElem?_getD]
  by_cases e1 : j < p
  · rw [if_neg (by omega), List.append_assoc, List.getElem?_append_left (by omega), List.getElem?_take_of_lt e1]
  · by_cases e2 : j < p + m.length
    · rw [if_pos (by omega), List.append_assoc, List.getElem?_append_right (by omega), List.getElem?_append_left (by omega), hl]
    · rw [if_neg (by omega), List.getElem?_append_right (by omega), List.getElem?_drop, hl2, show p + m.length + (j - (p + m.length)) = j by omega]

theorem mul_ne {i j sz f : Nat} (h : i ≠ j) (hf : f < sz) : ¬ (i * sz ≤ j * sz + f ∧ j * sz + f < i * sz + sz) := by
  rintro ⟨h1, h2⟩
  have e1 : (j * sz + f) / sz = j := (divmod hf).1
  have e2 : (i * sz + (j * sz + f - i * sz)) / sz = i := (divmod (i := i) (f := j * sz + f - i * sz) (by omega)).1
  rw [show i * sz + (j * sz + f - i * sz) = j * sz + f by omega] at e2
  exact h (e2.symm.trans e1)

def ElsR (w : World) (E : Env) (g : Nat → Option Ob) (sz : Nat) (els : List (List V)) (cells : List Value) : Prop :=
  els.length * sz = cells.length ∧ (∀ e ∈ els, e.length = sz) ∧ ∀ i f, i < els.length → f < sz → VR w E g ((els.getD i []).getD f .dead) (cells.getD (i * sz + f) undef) ∧ (cells.getD (i * sz + f) undef).oneCell' = true

theorem elsMen_set {m : Nat} {xs : List V} : ∀ {els : List (List V)} {i : Nat}, elsMen m els = false → mens m xs = false → elsMen m (els.set i xs) = false
  | [], i, _, _ => rfl
  | e :: els, 0, h1, h2 => by
    simp only [elsMen] at h1
    split at h1
    · cases h1
    · simp only [List.set_cons_zero, elsMen, h2]; exact h1
  | e :: els, i + 1, h1, h2 => by
    simp only [elsMen] at h1
    split at h1
    · cases h1
    · rename_i e1
      simp only [List.set_cons_succ, elsMen, e1]; exact elsMen_set h1 h2

theorem fillEls_ok (r : Rel C E s h a w) {sz : Nat} : ∀ (ps : List (Nat × Operand)) (els : List (List V)) (cells : List Value) (KK : List (List V) → Prop), ElsR w E (lookO h) sz els cells → fillEls sz (partsV (val s) ps) els KK →
    ∃ els' cells', KK els' ∧ ElsR w E (lookO h) sz els' cells' ∧ els'.length = els.length ∧ Instr.fill (fun i => some (i * sz, sz)) cells.toArray (ps.map fun (i, x) => (i, a.eval x)) = some cells'.toArray ∧
      ∀ d, (∀ n m, m / 16 = d → men m (look s n) = false) → ∀ m, m / 16 = d → elsMen m els = false → elsMen m els' = false
  | [], els, cells, KK, hr, hk => ⟨els, cells, hk, hr, rfl, rfl, fun _ _ _ _ h => h⟩
  | (i, x) :: ps, els, cells, KK, hr, hk => by
    simp only [partsV, fillEls] at hk
    have hvd : val s x ≠ .dead := by intro e; rw [e] at hk; exact hk.elim
    obtain ⟨xs, hk2, h3, h4, h5⟩ := cells_VR (r.vr hvd) hk
    split at hk2
    · rename_i en
      have hn := nbeq_eq en
      obtain ⟨hk3, hi⟩ := setK_ok _ _ _ _ (fvs_ok hk2)
      obtain ⟨r1, r2, r3⟩ := hr
      have hlen : (a.eval x).cells.toList.length = sz := by rw [← h3.length, hn]
      have hfit : i * sz + (a.eval x).cells.toList.length ≤ cells.length := by
        rw [hlen, ← r1, show i * sz + sz = (i + 1) * sz by rw [Nat.add_mul]; omega]; exact Nat.mul_le_mul_right _ hi
      have hfold : ((a.eval x).cells.zipIdx.foldl (fun cs (x : Value × Nat) => cs.setIfInBounds (i * sz + x.2) x.1) cells.toArray) = (cells.take (i * sz) ++ (a.eval x).cells.toList ++ cells.drop (i * sz + (a.eval x).cells.toList.length)).toArray := by
        rw [← Array.foldl_toList, Array.toList_zipIdx]
        exact zip_fold (i * sz) _ cells.toArray (by simpa using hfit)
      have hnew : ElsR w E (lookO h) sz (els.set i xs) (cells.take (i * sz) ++ (a.eval x).cells.toList ++ cells.drop (i * sz + (a.eval x).cells.toList.length)) := by
        refine ⟨?_, fun e he => ?_, fun j f hj hf => ?_⟩
        · simp only [List.length_set, List.length_append, List.length_take, List.length_drop]; rw [r1]; omega
        · rcases List.mem_or_eq_of_mem_set he with he | rfl
          · exact r2 e he
          · exact hn
        · rw [List.length_set] at hj
          rw [splice_at hfit, hlen]
          by_cases e : i = j
          · subst e
            rw [if_pos ⟨by omega, by omega⟩, show i * sz + f - i * sz = f by omega]
            obtain ⟨y, hy, hv⟩ := h3.get f (by omega)
            have e1 : (a.eval x).cells.toList.getD f undef = y := by rw [List.getD_eq_getElem?_getD, hy]; rfl
            have e2 : (els.set i xs).getD i [] = xs := by simp [List.getD_eq_getElem?_getD, hi]
            rw [e1, e2]; exact ⟨hv, h4 y (List.mem_of_getElem? hy)⟩
          · rw [if_neg (mul_ne e hf)]
            have e2 : (els.set i xs).getD j [] = els.getD j [] := by simp [List.getD_eq_getElem?_getD, List.getElem?_set, e]
            rw [e2]; exact r3 j f hj hf
      obtain ⟨els', cells', g1, g2, g3, g4, g5⟩ := fillEls_ok r ps _ _ KK hnew hk3
      refine ⟨els', cells', g1, g2, by rw [g3]; simp, ?_, fun d hsl m hm he => g5 d hsl m hm (elsMen_set he (h5 m (men_val (x := x) hsl m hm)))⟩
      simp only [List.map_cons, Instr.fill]
      rw [if_neg (by simp at hlen hfit ⊢; omega), hfold]
      exact g4
    · exact hk2.elim

theorem reps_eq {β : Type _} (n : Nat) (x : β) : reps n x = List.replicate n x := by
  induction n with
  | zero => rfl
  | succ n ih => simp [reps, ih, List.replicate_succ]

theorem elsMen_reps {m n : Nat} {l : List V} (h : mens m l = false) : elsMen m (List.replicate n l) = false := by
  induction n with
  | zero => rfl
  | succ n ih => simp [List.replicate_succ, elsMen, h, ih]

theorem op_buildSlice {t : TypeId} {n : Nat} {ps : Array (Nat × Operand)} (hT : TOk P T) (r : Rel C E s h a w) (hd : ∀ d, o.dst = some d → d < C.nt) (ho : o.op = .buildSlice t n ps)
    (hk : rdOp T S (.buildSlice t n ps) o.dst (val s) (lookO h) fun v new => putN o.dst v new s h K) : o.wp P a w (Post C K) Q := by
  simp only [rdOp] at hk
  obtain ⟨ti, hti, hk'⟩ := ty_ok hT hk
  clear hk; have hk := hk'; clear hk'
  have hu := hti.und
  split at hk
  · rename_i e ed
    rw [ed] at hu
    obtain ⟨ei, hei, hk'⟩ := ty_ok hT hk
    clear hk; have hk := hk'; clear hk'
    split at hk
    · rename_i eb
      have hle := Nat.le_of_ble_eq_true eb
      have hk1 := lfs_ok hk
      rw [reps_eq] at hk1
      obtain ⟨inf, z, h1, h2, h3, h4, h5, h6, h7⟩ := hei.info
      have hzc : z.cells.size = ei.size := by rw [← hei.zl, ← h5]; simp
      have hp := hei.pos
      obtain ⟨hz1, hz2⟩ := zero_VR hei E (lookO h) w
      have h0 : ElsR w E (lookO h) ei.size (List.replicate n (ei.zero.map .lf)) (madeCells z.cells (n * ei.size)).toList := by
        refine ⟨by simp [size_madeCells], fun e he => by rw [List.eq_of_mem_replicate he]; simp [hei.zl], fun i f hi hf => ?_⟩
        simp only [List.length_replicate] at hi
        have e1 : (List.replicate n (ei.zero.map Vm.V.lf)).getD i [] = ei.zero.map .lf := by simp [List.getD_eq_getElem?_getD, hi]
        obtain ⟨y, hy, hv⟩ := hz1.get f (by simp [hei.zl]; exact hf)
        have e2 : (madeCells z.cells (n * ei.size)).toList.getD (i * ei.size + f) undef = y := by
          have h9 : f < z.cells.size := by omega
          have : z.cells[f]? = some y := by rw [← h5] at hy; simpa using hy
          rw [Array.getElem?_eq_getElem h9] at this
          simp only [Option.some.injEq] at this
          simp [madeCells, List.getD_eq_getElem?_getD, idx_lt hi hf, hzc, Nat.mod_eq_of_lt hf]
          rw [getElem!_pos z.cells f h9, this]
        rw [e1, e2]
        exact ⟨hv, hz2 y (List.mem_of_getElem? hy)⟩
      obtain ⟨els, cells, g1, ⟨g2, g3, g4⟩, g5, g6, g7⟩ := fillEls_ok r ps.toList _ _ _ h0 hk1
      rw [List.length_replicate] at g5
      subst g5
      have hcs : ¬ (els.length * ei.size > 16777216) := by omega
      have hrun : (execOp a.eval o).run P w = .ok (.value (.slice (some ⟨w.heap.size, 0, none⟩) els.length els.length)) (w.alloc (.cells cells.toArray e)) := by
        have hso : (sizeOf e).run P w = .ok ei.size w := run_sizeOf (by rw [h1]; simp [h2]) w
        have hf : Instr.fill (fun i => some (i * ei.size, ei.size)) ((Array.range (els.length * ei.size)).map (z.cells[· % z.cells.size]!)) (ps.map fun (i, x) => (i, a.eval x)).toList = some cells.toArray := by
          rw [← g6, Array.toArray_toList, Array.toList_map]; rfl
        simp only [execOp, ho, Instr.buildSlice, Sem.run_bind, run_underlying hu, Result.andThen_ok, hso]
        by_cases hn : els.length * ei.size = 0
        · rw [hn] at hf
          simp only [Array.range_zero', Array.map_empty] at hf
          simp [hn, Go.newRow, Array.range_zero']
          simp at hf
          rw [hf]; simp
        · have hz' : (zeroValue e).run P w = .ok z w := by simp [zeroValue, typeInfo, h1, h4]
          simp [hn, hcs, Go.newRow, hz']
          simp at hf
          rw [hf]; simp
      exact wp_val hrun (finArr r hd g2 g3 (by have := hei.pos; omega) g4 (fun d _ hsl m hm => g7 d hsl m hm (elsMen_reps (mens_lf m _))) (.inr ⟨rfl, rfl⟩) g1)
    · exact hk.elim
  · exact hk.elim
end
end Go.Vm
