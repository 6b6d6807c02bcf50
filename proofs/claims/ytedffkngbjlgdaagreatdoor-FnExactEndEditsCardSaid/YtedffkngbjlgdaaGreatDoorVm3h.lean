/- A verified evaluator for Go code: slices' elements as they are read; new rows. -/
import Derived.Test.YtedffkngbjlgdaaGreatDoorVm3g
import Derived.Deep.AppendSrc
import Derived.Lib.AppendZerosOnto
import Derived.Laws.MakeOwn
import Derived.Laws.IdiomStrings
namespace Go.Vm
open Go.RowKit
set_option linter.unusedVariables false
set_option linter.unusedSimpArgs false

/-- A slice and its cells. -/
def SlC (w : World) (v : Value) (sz n : Nat) (vals : Nat → Nat → Value) : Prop :=
  ∃ base c, v = .slice base n c ∧ n ≤ c ∧ n ≤ 9223372036854775807 ∧ (base = none → n = 0 ∧ c = 0) ∧ ∀ ad, base = some ad → n = 0 ∨ ∃ b o, ad = ⟨b, o, none⟩ ∧ RowC w b o sz n vals

theorem sl_row {w : World} {E : Env} {g : Nat → Option Ob} (ho : Obs w E g) {t : Nat} {cut : Option (Nat × Nat)} {v : Value} {k : Kind} {sz : Nat} {α : Type} {enc : α → List D} {l : List α}
    (hob : g t = some (.row k sz enc l)) (hv : VR w E g (.sl t cut) v) :
    (∀ a, (enc a).length = sz) ∧ ∃ vals, SlC w v sz (cutL cut l).length vals ∧ ∀ i f, i < (cutL cut l).length → f < sz → Ro w (Rd E g) (vals i f) (dat enc (cutL cut l) i f) := by
  obtain ⟨hz, hm, hr⟩ := (ho.ob t _ hob).rd ho.KR (by simp [hob])
  obtain ⟨_, h2, h3⟩ := Ro.row_inv (ro_slice hz hm hr (hv.2 _ hob))
  refine ⟨hz, ?_⟩
  rcases h3 with ⟨e1, ab, rfl⟩ | ⟨b, o, c, rfl, hc, hcap, hb, hR, vals, hvs, hro⟩
  · refine ⟨fun _ _ => undef, ⟨ab, 0, by rw [e1]; rfl, by rw [e1]; simp, h2, fun _ => by rw [e1]; simp, fun ad h => .inl (by rw [e1]; rfl)⟩, fun i f hi => by rw [e1] at hi; simp at hi⟩
  · exact ⟨vals, ⟨_, c, rfl, hc, h2, (fun h => by cases h), fun ad h => by cases h; exact .inr ⟨b, o, rfl, hvs⟩⟩, hro⟩

theorem sl_arr {w : World} {E : Env} {g : Nat → Option Ob} (ho : Obs w E g) {t : Nat} {cut : Option (Nat × Nat)} {v : Value} {own : Bool} {sz : Nat} {els : List (List V)}
    (hob : g t = some (.arr own sz els)) (hv : VR w E g (.sl t cut) v) :
    (∀ e ∈ cutL cut els, e.length = sz) ∧ ∃ vals, SlC w v sz (cutL cut els).length vals ∧ ∀ i f, i < (cutL cut els).length → f < sz → VR w E g (((cutL cut els).getD i []).getD f .dead) (vals i f) ∧ (vals i f).oneCell' = true := by
  obtain ⟨h0, b, o, vals, e1, hb, hR, hz, hvs, hr⟩ := (ho.ob t _ hob).arr_rd (by simp [hob])
  have hs := hv.2 _ hob
  simp only [Ob.sz, Ob.len, e1] at hs
  obtain ⟨off, m, oo, c, h1, h2, h3, h4, rfl, h6⟩ := hs
  refine ⟨fun e he => hz e (by revert he; cases cut <;> simp [cutL]; intro he; exact List.mem_of_mem_drop (List.mem_of_mem_take he)), fun i f => vals (off + i) f, ?_, fun i f hi hf => ?_⟩
  · rw [cutL_len h1 h2]
    refine ⟨_, c, rfl, h3, by omega, (fun h => by cases h), fun ad h => ?_⟩
    cases h
    refine .inr ⟨b, oo, rfl, fun i f hi hf => ?_⟩
    rcases h4 with rfl | rfl
    · omega
    · have := hvs (off + i) f (by omega) hf
      rw [← this]; congr 2; rw [Nat.add_mul]; omega
  · rw [cutL_len h1 h2] at hi
    have := hr (off + i) f (by omega) hf
    rwa [show (cutL cut els).getD i [] = els.getD (off + i) [] by simp only [List.getD_eq_getElem?_getD]; rw [cutL_get h1 h2 i hi]]

/-- The cells of a row, one behind the other. -/
def flatV (sz n : Nat) (vals : Nat → Nat → Value) : List Value := (List.range (n * sz)).map fun j => vals (j / sz) (j % sz)

theorem flatV_len (sz n : Nat) (vals : Nat → Nat → Value) : (flatV sz n vals).length = n * sz := by simp [flatV]
theorem divmod {sz i f : Nat} (hf : f < sz) : (i * sz + f) / sz = i ∧ (i * sz + f) % sz = f := by
  have hp : 0 < sz := by omega
  constructor
  · rw [Nat.add_comm, Nat.add_mul_div_right _ _ hp, Nat.div_eq_of_lt hf]; omega
  · rw [Nat.add_comm, Nat.add_mul_mod_self_right, Nat.mod_eq_of_lt hf]
theorem idx_lt {sz n i f : Nat} (hi : i < n) (hf : f < sz) : i * sz + f < n * sz := by
  calc i * sz + f < i * sz + sz := by omega
    _ = (i + 1) * sz := by rw [Nat.add_mul]; omega
    _ ≤ n * sz := Nat.mul_le_mul_right _ hi
theorem flatV_get {sz n : Nat} {vals : Nat → Nat → Value} {i f : Nat} (hi : i < n) (hf : f < sz) : (flatV sz n vals)[i * sz + f]? = some (vals i f) := by
  unfold flatV
  rw [List.getElem?_map, List.getElem?_range (idx_lt hi hf)]
  simp [divmod hf]
theorem flatV_get' {sz n : Nat} {vals : Nat → Nat → Value} {j : Nat} (hj : j < n * sz) : ∃ i f, j = i * sz + f ∧ i < n ∧ f < sz := by
  have hp : 0 < sz := by
    rcases Nat.eq_zero_or_pos sz with h | h
    · subst h; simp at hj
    · exact h
  refine ⟨j / sz, j % sz, ?_, (Nat.div_lt_iff_lt_mul hp).2 hj, Nat.mod_lt _ hp⟩
  rw [Nat.mul_comm]; exact (Nat.div_add_mod _ _).symm

section
variable {P : Program} {T : Tab} {S : Cons} {C : Ctx} {E : Env} {s : Sl} {h : Hp} {a : Act} {w w' : World} {K : Sl → Hp → Prop} {Q : Exit → Act → World → Prop} {o : Oper} {v : Value}

theorem SlC.src {tx : TypeId} {sz n : Nat} {vals : Nat → Nat → Value} (hk : (∃ e', P.underlying tx = some (.slice e')) ∨ P.underlying tx = some .string) (hs : SlC w v sz n vals) (h1 : ∀ i f, i < n → f < sz → (vals i f).oneCell' = true) :
    Src P sz tx v n (flatV sz n vals) w := by
  obtain ⟨base, c, rfl, hc, hm, hb, hr⟩ := hs
  cases base with
  | none =>
    obtain ⟨rfl, rfl⟩ := hb rfl
    have : flatV sz 0 vals = [] := by simp [flatV]
    rw [this]
    exact ⟨hk, fun _ => rfl, run_firstCells_none w sz 0 0 0, run_firstCells_none w.drew sz 0 0 0, by simp, fun _ h => by cases h⟩
  | some ad =>
    have hcl : ∀ j u, (flatV sz n vals)[j]? = some u → w.cell? (ad.add j) = some u := by
      intro j u hj
      rcases hr _ rfl with h0 | ⟨b, oo, rfl, hrow⟩
      · subst h0; simp [flatV] at hj
      have hjl : j < n * sz := by
        rw [← flatV_len sz n vals]
        rcases Nat.lt_or_ge j (flatV sz n vals).length with h1 | h1
        · exact h1
        · rw [List.getElem?_eq_none h1] at hj; cases hj
      obtain ⟨i, f, rfl, hi, hf⟩ := flatV_get' (vals := vals) hjl
      rw [flatV_get hi hf] at hj; cases hj
      have := hrow i f hi hf
      rw [← this]
      simp [Addr.add_lit]
    refine ⟨hk, fun _ => rfl, run_firstCells_some w sz n _ n c _ (flatV_len sz n vals) hcl, run_firstCells_some w.drew sz n _ n c _ (flatV_len sz n vals) (by simpa using hcl), flatV_len sz n vals, fun u hu => ?_⟩
    · unfold flatV at hu
      simp only [List.mem_map, List.mem_range] at hu
      obtain ⟨j, hj, rfl⟩ := hu
      obtain ⟨i, f, rfl, hi, hf⟩ := flatV_get' (vals := vals) hj
      rw [(divmod hf).1, (divmod hf).2]; exact h1 i f hi hf

theorem dat_map {α : Type} (enc : α → List D) (l : List α) (i f : Nat) : (((l.map enc).getD i []).getD f .dead) = dat enc l i f := by
  unfold dat
  simp only [List.getD_eq_getElem?_getD, List.getElem?_map]
  cases l[i]? <;> simp

theorem flatL_get : ∀ {l : List D} {f : Nat}, flatL l = true → f < l.length → ∃ u, l.getD f .dead = .lf u
  | [], f, _, hf => by simp at hf
  | .lf u :: l, 0, _, _ => ⟨u, rfl⟩
  | .lf u :: l, f + 1, h, hf => by
    obtain ⟨u', h2⟩ := flatL_get (l := l) (f := f) (by simpa [flatL] using h) (by simpa using hf)
    exact ⟨u', by simpa using h2⟩
  | .dead :: l, f, h, _ => by simp [flatL] at h
  | .row _ _ _ :: l, f, h, _ => by simp [flatL] at h
  | .box _ :: l, f, h, _ => by simp [flatL] at h
  | .fn _ _ :: l, f, h, _ => by simp [flatL] at h

theorem Ro.lf_inv {R : Nat → Prop} {u : Value} (h : Ro w R v (.lf u)) : v = u ∧ isSc u = true := by
  cases h with
  | lf h => exact ⟨rfl, h⟩

/-- A slice's elements as they are read, where they hold no slices. -/
theorem elsK_sound (ho : Obs w E (lookO h)) {tx : TypeId} {V : Vm.V} {sz : Nat} {KK : List (List D) → Prop} (hk : elsK (lookO h) V sz KK) (hv : VR w E (lookO h) V v)
    (htx : (∃ e', P.underlying tx = some (.slice e')) ∨ P.underlying tx = some .string) :
    ∃ ds vals, KK ds ∧ Src P sz tx v ds.length (flatV sz ds.length vals) w ∧ (∀ i f, i < ds.length → f < sz → (ds.getD i []).getD f .dead = .lf (vals i f) ∧ isSc (vals i f) = true) := by
  unfold elsK at hk
  split at hk
  · obtain ⟨rfl, _⟩ := hv
    have e0 : flatV sz 0 (fun _ _ => undef) = [] := by simp [flatV]
    exact ⟨[], fun _ _ => undef, hk, by rw [List.length_nil, e0]; exact ⟨htx, fun _ => rfl, run_firstCells_none w sz 0 0 0, run_firstCells_none w.drew sz 0 0 0, by simp, fun _ h => by cases h⟩, fun i f hi => by simp at hi⟩
  · rename_i b
    obtain ⟨rfl, _⟩ := hv
    split at hk
    · rename_i e1
      obtain rfl := nbeq_eq e1
      have hlen : (b.data.toList.map encB).length = b.size := by simp
      refine ⟨_, fun i _ => .int .u8 ((b.data.toList.getD i 0).toNat : Int), hk, ?_, fun i f hi hf => ?_⟩
      · have : Src P 1 tx (.string b) b.size (byteCells b) w := ⟨htx, fun _ => rfl, firstCells_string b w, firstCells_string b w.drew, by rw [byteCells_length, Nat.mul_one], fun u hu => by
          obtain ⟨_, _, rfl⟩ := List.mem_map.1 hu
          rfl⟩
        rw [hlen]
        have e2 : flatV 1 b.size (fun i _ => Value.int .u8 ((b.data.toList.getD i 0).toNat : Int)) = byteCells b := by
          apply List.ext_getElem?
          intro j
          unfold flatV byteCells
          simp only [List.getElem?_map, Nat.mul_one]
          by_cases hj : j < b.size
          · rw [List.getElem?_range hj]
            have : j < b.data.toList.length := by simpa using hj
            simp [List.getElem?_eq_getElem this, Array.getElem?_eq_getElem (show j < b.data.size by simpa using this)]
          · have h2 : b.data.toList.length ≤ j := by have : b.data.size = b.size := rfl; simp; omega
            rw [List.getElem?_eq_none (by simp; omega), List.getElem?_eq_none h2]
            rfl
        rw [e2]; exact this
      · obtain rfl : f = 0 := by omega
        rw [dat_map]
        have hi' : i < b.data.toList.length := by simpa using hi
        simp [dat, List.getElem?_eq_getElem hi', encB, isSc]
    · exact hk.elim
  · rename_i t cut
    split at hk
    · rename_i k sz' α enc l e1
      split at hk
      · rename_i e2
        obtain rfl := nbeq_eq e2
        obtain ⟨hz, vals, hs, hr⟩ := sl_row ho e1 hv
        have hfl : ∀ i f, i < (cutL cut l).length → f < sz' → dat enc (cutL cut l) i f = .lf (vals i f) ∧ isSc (vals i f) = true := by
          intro i f hi hf
          have h1 := hr i f hi hf
          have : ∃ u, dat enc (cutL cut l) i f = .lf u := by
            unfold dat
            rw [List.getElem?_eq_getElem hi]
            exact flatL_get (hk.1 _) (by rw [hz]; exact hf)
          obtain ⟨u, hu⟩ := this
          rw [hu] at h1
          obtain ⟨h2, h3⟩ := h1.lf_inv
          rw [hu, h2]; exact ⟨rfl, h3⟩
        refine ⟨_, vals, hk.2, ?_, fun i f hi hf => ?_⟩
        · rw [List.length_map]; exact hs.src htx fun i f hi hf => isSc_one (hfl i f hi hf).2
        · rw [dat_map]; exact hfl i f (by simpa using hi) hf
      · exact hk.elim
    · rename_i own sz' els e1
      split at hk
      · rename_i e2
        obtain rfl := nbeq_eq e2
        obtain ⟨hz, vals, hs, hr⟩ := sl_arr ho e1 hv
        obtain ⟨ds, ⟨hk1, hk2⟩, hl, hl3, hro⟩ := rdEls_sound ho 40 sz' (cutL cut els) vals _ hz hr hk
        have hds : ∀ i f, i < ds.length → f < sz' → (ds.getD i []).getD f .dead = .lf (vals i f) ∧ isSc (vals i f) = true := by
          intro i f hi hf
          have h1 := hro i f (by omega) hf
          have hd := hk1 (ds.getD i []) (by simp only [List.getD_eq_getElem?_getD, List.getElem?_eq_getElem hi]; exact List.getElem_mem hi)
          have : ∃ u, (ds.getD i []).getD f .dead = .lf u := flatL_get hd (by
            rw [hl3 (ds.getD i []) (by simp only [List.getD_eq_getElem?_getD, List.getElem?_eq_getElem hi]; exact List.getElem_mem hi)]; exact hf)
          obtain ⟨u, hu⟩ := this
          rw [hu] at h1
          obtain ⟨h2, h3⟩ := h1.lf_inv
          rw [hu, h2]; exact ⟨rfl, h3⟩
        refine ⟨ds, vals, hk2, ?_, hds⟩
        rw [hl]; exact hs.src htx fun i f hi hf => (hr i f hi hf).2
      · exact hk.elim
    · exact hk.elim
  · exact hk.elim
end
end Go.Vm
