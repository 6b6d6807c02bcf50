/- A verified evaluator for Go code: append onto nil; literals of slices; loads. -/
import Derived.Test.YtedffkngbjlgdaaGreatDoorVm3i
namespace Go.Vm
open Go.RowKit
set_option linter.unusedVariables false
set_option linter.unusedSimpArgs false

section
variable {P : Program} {T : Tab} {S : Cons} {C : Ctx} {E : Env} {s : Sl} {h : Hp} {a : Act} {w w' : World} {K : Sl → Hp → Prop} {Q : Exit → Act → World → Prop} {o : Oper} {v : Value}

/-- The kind of what is appended. -/
theorem src_kind {t : TypeId} {i : TyI} (hi : TyOk P t i) (hk : isIntTy i.d = some false) : (∃ e', P.underlying t = some (.slice e')) ∨ P.underlying t = some .string := by
  have hu := hi.und
  revert hk
  unfold isIntTy
  split <;> intro hk
  · cases hk
  · rename_i e ed; rw [ed] at hu; exact .inl ⟨e, hu⟩
  · rename_i ed; rw [ed] at hu; exact .inr hu
  · cases hk

theorem firstCells_nil (sz : Nat) (w : World) : (Builtin.firstCells sz 0 (.slice none 0 0)).run P w = .ok (([] : List Value).toArray) w := run_firstCells_none w sz 0 0 0

/-- What a slice as a source is. -/
theorem elsK_sound' {x : Operand} {tx : TypeId} {ti : TyI} {sz : Nat} {KK : List (List D) → Prop} (r : Rel C E s h a w) (hti : TyOk P tx ti) (hkd : isIntTy ti.d = some false) (hk : elsK (lookO h) (val s x) sz KK) :
    ∃ ds vals, KK ds ∧ Src P sz tx (a.eval x) ds.length (flatV sz ds.length vals) w ∧ (∀ i f, i < ds.length → f < sz → (ds.getD i []).getD f .dead = .lf (vals i f) ∧ isSc (vals i f) = true) := by
  have hvd : val s x ≠ .dead := by intro e; rw [e] at hk; exact hk.elim
  exact elsK_sound r.obs hk (r.vr hvd) (src_kind hti hkd)

theorem app_block {zc : Array Value} {t e : TypeId} {news : List Value} {n cap sz : Nat} {wd : World} (hl : news.length = n * sz) (hzc : zc.size = sz) (hcap : n ≤ cap) (b : Nat) (hb : b = wd.heap.size) :
    (∀ j, j < cap * sz → (∃ x, (wd.alloc (.cells (news.toArray ++ Builtin.zeroCells zc (cap - n)) e)).cell? ⟨b, j, none⟩ = some x) ∧ (wd.alloc (.cells (news.toArray ++ Builtin.zeroCells zc (cap - n)) e)).frozen? ⟨b, j, none⟩ = false) ∧
    ∀ j, j < news.length → (wd.alloc (.cells (news.toArray ++ Builtin.zeroCells zc (cap - n)) e)).cell? ⟨b, j, none⟩ = news[j]? := by
  subst hb
  have hsz : (news.toArray ++ Builtin.zeroCells zc (cap - n)).size = cap * sz := by
    rw [Array.size_append, size_zeroCells, hzc, List.size_toArray, hl, ← Nat.add_mul]; congr 1; omega
  refine ⟨fun j hj => ⟨?_, by rw [World.frozen?_alloc_new]⟩, fun j hj => ?_⟩
  · rw [World.cell?_alloc_new, Array.getElem?_eq_getElem (by omega)]; exact ⟨_, rfl⟩
  · rw [World.cell?_alloc_new, Array.getElem?_append_left (by simpa using hj)]; simp

theorem op_rdApp {c : Call} (hT : TOk P T) (r : Rel C E s h a w) (hd : ∀ d, o.dst = some d → d < C.nt) (ho : o.op = .call c) (hc : c.callee = .builtin .append)
    (hk : rdApp T o.dst (val s) (lookO h) (fun v new => putN o.dst v new s h K) c.args.toList c.argTypes.toList) : o.wp P a w (Post C K) Q := by
  generalize ha : c.args.toList = as at hk
  generalize ht : c.argTypes.toList = ts at hk
  obtain ⟨x, y, tx, tyy, rfl, rfl⟩ : ∃ x y tx tyy, as = [x, y] ∧ ts = [tx, tyy] := by
    rcases as with _ | ⟨x, _ | ⟨y, _ | ⟨_, _⟩⟩⟩ <;> rcases ts with _ | ⟨t, _ | ⟨u, _ | ⟨_, _⟩⟩⟩ <;> first | exact hk.elim | exact ⟨_, _, _, _, rfl, rfl⟩
  simp only [rdApp] at hk
  obtain ⟨ti, hti, hk'⟩ := ty_ok hT hk
  clear hk; have hk := hk'; clear hk'
  have hut := hti.und
  split at hk
  · rename_i e ed
    rw [ed] at hut
    obtain ⟨ei, hei, hk'⟩ := ty_ok hT hk
    clear hk; have hk := hk'; clear hk'
    obtain ⟨yi, hyi, hk'⟩ := ty_ok hT hk
    clear hk; have hk := hk'; clear hk'
    split at hk
    · rename_i e1 e2
      have hx := (r.lf e2).1
      obtain ⟨ds, vals, ⟨α, enc, m, hz, rfl, hlim, hk⟩, hs, hfl⟩ := elsK_sound' r hyi e1 hk
      rw [List.length_map] at hs hfl
      obtain ⟨inf, z, h1, h2, h3, h4, h5, h6, h7⟩ := hei.info
      obtain ⟨cs, hrb⟩ := run_builtin (P := P) (a := a) (w := w) ho hc
      have hlim' : m.length ≤ 4294967296 := hlim
      have hrun : ∀ u w', (Builtin.append_ #[tx, tyy] o.type #[.slice none 0 0, a.eval y]).run P w = .ok u w' → (execOp a.eval o).run P w = .ok (.value u) w' := by
        intro u w' hu
        rw [hrb, arr_of_list ht, arr_of_list ha]
        simp only [builtin, List.map_toArray, List.map_cons, List.map_nil, hx, Sem.run_bind, hu, Result.andThen_ok]; rfl
      have hzc : z.cells.size = ei.size := by rw [← hei.zl, ← h5]; simp
      rcases Nat.eq_zero_or_pos m.length with h0 | h0
      · rw [List.length_eq_zero_iff] at h0; subst h0
        have hr := hrun (.slice none 0 0) w (by
          have hl := hs.len w
          have hcl := hs.cells
          have hk := hs.kind
          simp only [List.length_nil] at hl hcl
          rw [← h2] at hcl
          have e0 : flatV inf.size 0 vals = [] := by simp [flatV]
          rw [h2] at hcl e0
          rw [e0] at hcl
          rcases hk with ⟨e', hk⟩ | hk <;> simp [Builtin.append_, run_underlying hut, run_underlying hk, sizeOf, typeInfo, h1, h2, hl, hcl])
        exact wp_val hr (finRow r (Ext.refl w) hd (F := fun _ => False) (.nil hz fun _ h => h) (fun _ h => h.elim) (fun _ h => h.elim) hk)
      · have hby := hei.by_
        have hr := hrun _ _ (run_append_grow_src (P := P) w tx tyy o.type e inf z hut h1 h4 none 0 0 [] (by rw [h2]; exact firstCells_nil _ _) (a.eval y) m.length (flatV ei.size m.length vals) (by rw [h2]; exact hs) (by omega) (by omega)
          (growslice_fits (by omega) (by
            rw [h3, Nat.zero_add]
            calc m.length * ei.bytes ≤ 4294967296 * 32768 := Nat.mul_le_mul hlim' hby
              _ = 140737488355328 := rfl)))
        simp only [Nat.zero_add, List.nil_append] at hr
        have hge := grownCap_ge w m.length 0 e
        obtain ⟨b1, b2⟩ := app_block (zc := z.cells) (t := e) (e := e) (news := flatV ei.size m.length vals) (n := m.length) (cap := grownCap w m.length 0 e) (sz := ei.size) (wd := w.drew) (flatV_len _ _ _) hzc hge w.heap.size rfl
        have hown := own_new (Kp := E.Kp) (w' := w.drew.alloc (.cells ((flatV ei.size m.length vals).toArray ++ Builtin.zeroCells z.cells (grownCap w m.length 0 e - m.length)) e)) (b := w.heap.size) (cap := grownCap w m.length 0 e) (enc := enc) (l := m) vals hz
          (alloc_lt w.drew _) hge (by omega) b1
          (fun i f hi hf => by rw [Nat.zero_add, b2 _ (by rw [flatV_len]; exact idx_lt hi hf), flatV_get hi hf])
          (fun i f hi hf => by have := hfl i f hi hf; rwa [dat_map] at this)
        exact wp_val hr (finRow r ((Ext.drew w).trans (Ext.alloc _ _)) hd hown (by rintro y rfl; exact Nat.le_refl _) (by rintro y rfl j; exact World.frozen?_alloc_new ..) hk)
    · exact hk.elim
  · exact hk.elim
end
end Go.Vm
