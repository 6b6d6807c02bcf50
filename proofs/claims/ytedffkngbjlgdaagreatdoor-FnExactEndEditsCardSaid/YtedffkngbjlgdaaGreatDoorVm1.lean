/- A verified evaluator for Go code: what deep data, values and objects are in the machine's memory. -/
import Derived.Test.YtedffkngbjlgdaaGreatDoorVm0c
import Derived.Below
import Derived.Laws.Rows
namespace Go.Vm
open Go.RowKit
set_option linter.unusedVariables false
set_option linter.unusedSimpArgs false

/-- Cell f of element i. -/
def dat {α : Type} (enc : α → List D) (l : List α) (i f : Nat) : D :=
  match l[i]? with
  | some a => (enc a).getD f .dead
  | none => .dead

theorem nth_eq {β : Type _} (l : List β) (i : Nat) : nth l i = l[i]? := by
  induction l generalizing i with
  | nil => simp [nth]
  | cons x l ih => cases i <;> simp [nth, ih]

/-- What is read alone: every block that is met is one of R. -/
inductive Ro (w : World) (R : Nat → Prop) : Value → D → Prop
  | lf {v : Value} (h : isSc v = true) : Ro w R v (.lf v)
  | dead {v : Value} (h : v.oneCell' = true) : Ro w R v .dead
  | nil {ab : Option Addr} {sz : Nat} {α : Type} {enc : α → List D} (hz : ∀ a, (enc a).length = sz) : Ro w R (.slice ab 0 0) (.row sz enc [])
  | row {b o c n sz : Nat} {α : Type} {enc : α → List D} {l : List α} (vals : Nat → Nat → Value) (hn : n = l.length)
      (hR : R b) (hb : b < w.heap.size) (hc : n ≤ c) (hm : n ≤ 9223372036854775807)
      (hcap : ∀ j, j < c * sz → ∃ x, w.cell? ⟨b, o + j, none⟩ = some x) (hz : ∀ a, (enc a).length = sz)
      (hv : ∀ i f, i < n → f < sz → w.cell? ⟨b, o + (i * sz + f), none⟩ = some (vals i f))
      (hr : ∀ i f, i < n → f < sz → Ro w R (vals i f) (dat enc l i f)) :
      Ro w R (.slice (some ⟨b, o, none⟩) n c) (.row sz enc l)
  | box {b o : Nat} {cs : List D} (vals : Nat → Value) (hR : R b) (hb : b < w.heap.size)
      (hv : ∀ f, f < cs.length → w.cell? ⟨b, o + f, none⟩ = some (vals f))
      (hr : ∀ f, f < cs.length → Ro w R (vals f) (cs.getD f .dead)) : Ro w R (.pointer (some ⟨b, o, none⟩)) (.box cs)
  | fn {f : Nat} {cs : List D} (vs : List Value) (hl : vs.length = cs.length)
      (hr : ∀ i, i < cs.length → Ro w R (vs.getD i undef) (cs.getD i .dead)) : Ro w R (.func (.func f) #[] vs.toArray) (.fn f cs)
  | sh {v : Value} {d : D} (h : Ro w R v d) : Ro w R v (.sh d)

/-- What is one's own: F are its blocks, each met once. -/
inductive Own (w : World) (K : Nat → Prop) : (Nat → Prop) → Value → D → Prop
  | lf {F : Nat → Prop} {v : Value} (h : isSc v = true) (hF : ∀ x, ¬ F x) : Own w K F v (.lf v)
  | dead {F : Nat → Prop} {v : Value} (h : v.oneCell' = true) (hF : ∀ x, ¬ F x) : Own w K F v .dead
  | nil {F : Nat → Prop} {sz : Nat} {α : Type} {enc : α → List D} (hz : ∀ a, (enc a).length = sz) (hF : ∀ x, ¬ F x) : Own w K F (.slice none 0 0) (.row sz enc [])
  | row {F : Nat → Prop} {b o c n sz : Nat} {α : Type} {enc : α → List D} {l : List α} (vals : Nat → Nat → Value) (G : Nat → Nat → Nat → Prop) (hn : n = l.length)
      (hb : b < w.heap.size) (hc : n ≤ c) (hm : n ≤ 9223372036854775807)
      (hcap : ∀ j, j < c * sz → (∃ x, w.cell? ⟨b, o + j, none⟩ = some x) ∧ w.frozen? ⟨b, o + j, none⟩ = false) (hz : ∀ a, (enc a).length = sz)
      (hv : ∀ i f, i < n → f < sz → w.cell? ⟨b, o + (i * sz + f), none⟩ = some (vals i f))
      (hr : ∀ i f, i < n → f < sz → Own w K (G i f) (vals i f) (dat enc l i f))
      (hd : ∀ i f j g, i < n → f < sz → j < n → g < sz → (i ≠ j ∨ f ≠ g) → ∀ x, G i f x → ¬ G j g x)
      (hg : ∀ i f, i < n → f < sz → ¬ G i f b)
      (hF : ∀ x, F x ↔ x = b ∨ ∃ i f, i < n ∧ f < sz ∧ G i f x) :
      Own w K F (.slice (some ⟨b, o, none⟩) n c) (.row sz enc l)
  | box {F : Nat → Prop} {b o : Nat} {cs : List D} (vals : Nat → Value) (G : Nat → Nat → Prop) (hb : b < w.heap.size)
      (hv : ∀ f, f < cs.length → w.cell? ⟨b, o + f, none⟩ = some (vals f)) (hfr : ∀ f, f < cs.length → w.frozen? ⟨b, o + f, none⟩ = false)
      (hr : ∀ f, f < cs.length → Own w K (G f) (vals f) (cs.getD f .dead))
      (hd : ∀ f g, f < cs.length → g < cs.length → f ≠ g → ∀ x, G f x → ¬ G g x)
      (hg : ∀ f, f < cs.length → ¬ G f b)
      (hF : ∀ x, F x ↔ x = b ∨ ∃ f, f < cs.length ∧ G f x) : Own w K F (.pointer (some ⟨b, o, none⟩)) (.box cs)
  | fn {F : Nat → Prop} {f : Nat} (hF : ∀ x, ¬ F x) : Own w K F (.func (.func f) #[] #[]) (.fn f [])
  | sh {F : Nat → Prop} {v : Value} {d : D} (h : Ro w K v d) (hF : ∀ x, ¬ F x) : Own w K F v (.sh d)

section
variable {w w' : World} {R R' F F' K K' : Nat → Prop} {v : Value} {d : D}

theorem cell_eq {b i : Nat} (h : w'.heap[b]? = w.heap[b]?) : w'.cell? ⟨b, i, none⟩ = w.cell? ⟨b, i, none⟩ := World.cell?_of_block (w := w) h
theorem frozen_eq {b i : Nat} (h : w'.heap[b]? = w.heap[b]?) : w'.frozen? ⟨b, i, none⟩ = w.frozen? ⟨b, i, none⟩ := World.frozen?_of_block (w := w) h
theorem lt_eq {b : Nat} (h : w'.heap[b]? = w.heap[b]?) (hb : b < w.heap.size) : b < w'.heap.size := by
  rcases Nat.lt_or_ge b w'.heap.size with h1 | h1
  · exact h1
  · rw [Array.getElem?_eq_none h1, Array.getElem?_eq_getElem hb] at h; cases h

theorem Ro.frame (h : Ro w R v d) (hh : ∀ b, R b → w'.heap[b]? = w.heap[b]?) : Ro w' R v d := by
  induction h with
  | lf h => exact .lf h
  | dead h => exact .dead h
  | nil hz => exact .nil hz
  | row vals hn hR hb hc hm hcap hz hv hr ih =>
    have e := hh _ hR
    exact .row vals hn hR (lt_eq e hb) hc hm (fun j hj => by rw [cell_eq e]; exact hcap j hj) hz (fun i f hi hf => by rw [cell_eq e]; exact hv i f hi hf) ih
  | box vals hR hb hv hr ih =>
    have e := hh _ hR
    exact .box vals hR (lt_eq e hb) (fun f hf => by rw [cell_eq e]; exact hv f hf) ih
  | fn vs hl hr ih => exact .fn vs hl ih
  | sh h ih => exact .sh ih

theorem Ro.mono (h : Ro w R v d) (hh : ∀ b, R b → R' b) : Ro w R' v d := by
  induction h with
  | lf h => exact .lf h
  | dead h => exact .dead h
  | nil hz => exact .nil hz
  | row vals hn hR hb hc hm hcap hz hv hr ih => exact .row vals hn (hh _ hR) hb hc hm hcap hz hv ih
  | box vals hR hb hv hr ih => exact .box vals (hh _ hR) hb hv ih
  | fn vs hl hr ih => exact .fn vs hl ih
  | sh h ih => exact .sh ih

theorem Own.frame (h : Own w K F v d) (hh : ∀ b, F b → w'.heap[b]? = w.heap[b]?) (hK : ∀ b, K b → w'.heap[b]? = w.heap[b]?) : Own w' K F v d := by
  induction h with
  | lf h hF => exact .lf h hF
  | dead h hF => exact .dead h hF
  | nil hz hF => exact .nil hz hF
  | row vals G hn hb hc hm hcap hz hv hr hd hg hF ih =>
    have e := hh _ ((hF _).2 (.inl rfl))
    exact .row vals G hn (lt_eq e hb) hc hm (fun j hj => by rw [cell_eq e, frozen_eq e]; exact hcap j hj) hz (fun i f hi hf => by rw [cell_eq e]; exact hv i f hi hf)
      (fun i f hi hf => ih i f hi hf (fun b hb => hh b ((hF b).2 (.inr ⟨i, f, hi, hf, hb⟩)))) hd hg hF
  | box vals G hb hv hfr hr hd hg hF ih =>
    have e := hh _ ((hF _).2 (.inl rfl))
    exact .box vals G (lt_eq e hb) (fun f hf => by rw [cell_eq e]; exact hv f hf) (fun f hf => by rw [frozen_eq e]; exact hfr f hf)
      (fun f hf => ih f hf (fun b hb => hh b ((hF b).2 (.inr ⟨f, hf, hb⟩)))) hd hg hF
  | fn hF => exact .fn hF
  | sh h hF => exact .sh (h.frame hK) hF

theorem Own.ro (h : Own w K F v d) (hh : ∀ b, F b → R b) (hK : ∀ b, K b → R b) : Ro w R v d := by
  induction h with
  | lf h hF => exact .lf h
  | dead h hF => exact .dead h
  | nil hz hF => exact .nil hz
  | row vals G hn hb hc hm hcap hz hv hr hd hg hF ih =>
    exact .row vals hn (hh _ ((hF _).2 (.inl rfl))) hb hc hm (fun j hj => (hcap j hj).1) hz hv (fun i f hi hf => ih i f hi hf (fun b hb => hh b ((hF b).2 (.inr ⟨i, f, hi, hf, hb⟩))))
  | box vals G hb hv hfr hr hd hg hF ih =>
    exact .box vals (hh _ ((hF _).2 (.inl rfl))) hb hv (fun f hf => ih f hf (fun b hb => hh b ((hF b).2 (.inr ⟨f, hf, hb⟩))))
  | fn hF => exact .fn [] rfl (fun i hi => by simp at hi)
  | sh h hF => exact .sh (h.mono hK)

theorem Own.lt (h : Own w K F v d) : ∀ b, F b → b < w.heap.size := by
  induction h with
  | lf h hF => exact fun b hb => absurd hb (hF b)
  | dead h hF => exact fun b hb => absurd hb (hF b)
  | nil hz hF => exact fun b hb => absurd hb (hF b)
  | row vals G hn hb hc hm hcap hz hv hr hd hg hF ih =>
    intro b hb'
    rcases (hF b).1 hb' with rfl | ⟨i, f, hi, hf, hx⟩
    · exact hb
    · exact ih i f hi hf b hx
  | box vals G hb hv hfr hr hd hg hF ih =>
    intro b hb'
    rcases (hF b).1 hb' with rfl | ⟨f, hf, hx⟩
    · exact hb
    · exact ih f hf b hx
  | fn hF => exact fun b hb => absurd hb (hF b)
  | sh h hF => exact fun b hb => absurd hb (hF b)


theorem isSc_one (h : isSc v = true) : v.oneCell' = true := by
  cases v <;> simp_all [isSc, Value.oneCell']
theorem Ro.one (h : Ro w R v d) : v.oneCell' = true := by
  induction h <;> first | exact isSc_one ‹_› | assumption | rfl
theorem Own.one (h : Own w K F v d) : v.oneCell' = true := by
  cases h <;> first | exact isSc_one ‹_› | assumption | rfl | exact Ro.one ‹_›
theorem Own.mono (h : Own w K F v d) (hh : ∀ b, K b → K' b) : Own w K' F v d := by
  induction h with
  | lf h hF => exact .lf h hF
  | dead h hF => exact .dead h hF
  | nil hz hF => exact .nil hz hF
  | row vals G hn hb hc hm hcap hz hv hr hd hg hF ih => exact .row vals G hn hb hc hm hcap hz hv ih hd hg hF
  | box vals G hb hv hfr hr hd hg hF ih => exact .box vals G hb hv hfr ih hd hg hF
  | fn hF => exact .fn hF
  | sh h hF => exact .sh (h.mono hh) hF
theorem Own.congr (h : Own w K F v d) (e : ∀ x, F' x ↔ F x) : Own w K F' v d := by
  have : F' = F := funext fun x => propext (e x)
  rw [this]; exact h
end

theorem RowKit_block_lt {w : World} {b i : Nat} {x : Value} (h : w.cell? ⟨b, i, none⟩ = some x) : b < w.heap.size := by
  have := block_lt_of_cell h; exact this

/-! ### States -/
def Ob.sz : Ob → Nat
  | .row _ sz _ _ => sz
  | .arr _ sz _ => sz
  | .foc sz _ _ _ _ => sz
def Ob.len : Ob → Nat
  | .row _ _ _ l => l.length
  | .arr _ _ els => els.length
  | .foc _ _ l _ _ => l.length
def Ob.own : Ob → Bool
  | .row .own _ _ _ => true
  | .row .mix _ _ _ => true
  | .row _ _ _ _ => false
  | .arr o _ _ => o
  | .foc _ _ _ _ _ => true

/-- Where the objects lie; whose the blocks are; what is read, what may be kept. -/
structure Env where
  γ : Nat → Option (Nat × Nat)
  F : Nat → Nat → Prop
  R : Nat → Prop
  Kp : Nat → Prop

/-- A slice of an object with len elements at g. -/
def SlR (w : World) (g : Option (Nat × Nat)) (sz len : Nat) (own : Bool) (cut : Option (Nat × Nat)) (v : Value) : Prop :=
  match g with
  | none => ∃ ab, v = .slice ab 0 0 ∧ (own = true → ab = none) ∧ (cut = none ∨ cut = some (0, 0))
  | some (b, o) => ∃ off n oo c, (cut = none ∧ off = 0 ∧ n = len ∨ cut = some (off, n)) ∧ off + n ≤ len ∧ n ≤ c ∧ (c = 0 ∨ oo = o + off * sz) ∧
      v = .slice (some ⟨b, oo, none⟩) n c ∧ ∀ j, j < c * sz → (∃ x, w.cell? ⟨b, oo + j, none⟩ = some x) ∧ (own = true → w.frozen? ⟨b, oo + j, none⟩ = false)

mutual
/-- What a slot's value is in the machine. -/
def VR (w : World) (E : Env) (g : Nat → Option Ob) : V → Value → Prop
  | .lf u, v => v = u ∧ isSc u = true
  | .dead, v => v.oneCell' = true
  | .sl t cut, v => v.oneCell' = true ∧ ∀ o, g t = some o → SlR w (E.γ t) o.sz o.len o.own cut v
  | .pt t i f, v => (∃ ad, v = .pointer (some ad)) ∧ ∀ o, g t = some o → ∃ b p, E.γ t = some (b, p) ∧ v = .pointer (some ⟨b, p + (i * o.sz + f), none⟩)
  | .agg cs, v => ∃ vs : List Value, v = .agg vs.toArray ∧ VRs w E g cs vs ∧ ∀ x ∈ vs, x.oneCell' = true
  | .tup cs, v => ∃ vs : List Value, v = .tuple vs.toArray ∧ VRs w E g cs vs
  | .fn f cs, v => ∃ vs : List Value, v = .func (.func f) #[] vs.toArray ∧ VRs w E g cs vs ∧ ∀ x ∈ vs, x.oneCell' = true
def VRs (w : World) (E : Env) (g : Nat → Option Ob) : List V → List Value → Prop
  | [], vs => vs = []
  | c :: cs, vs => ∃ x xs, vs = x :: xs ∧ VR w E g c x ∧ VRs w E g cs xs
end

def RowC (w : World) (b o sz n : Nat) (vals : Nat → Nat → Value) : Prop :=
  ∀ i f, i < n → f < sz → w.cell? ⟨b, o + (i * sz + f), none⟩ = some (vals i f)

/-- What an object is. -/
def ObR (w : World) (E : Env) (g : Nat → Option Ob) (t : Nat) : Ob → Prop
  | .row k sz (α := α) enc l => (∀ a : α, (enc a).length = sz) ∧ l.length ≤ 9223372036854775807 ∧ match E.γ t with
    | none => l = [] ∧ ∀ x, ¬ E.F t x
    | some (b, o) => b < w.heap.size ∧ ∃ vals, RowC w b o sz l.length vals ∧ match k with
      | .own => ∃ G : Nat → Nat → Nat → Prop, (∀ i f, i < l.length → f < sz → Own w E.Kp (G i f) (vals i f) (dat enc l i f)) ∧
          (∀ i f j g, i < l.length → f < sz → j < l.length → g < sz → (i ≠ j ∨ f ≠ g) → ∀ x, G i f x → ¬ G j g x) ∧
          (∀ i f, i < l.length → f < sz → ¬ G i f b) ∧ (∀ x, E.F t x ↔ x = b ∨ ∃ i f, i < l.length ∧ f < sz ∧ G i f x) ∧ ∀ j, j < l.length * sz → w.frozen? ⟨b, o + j, none⟩ = false
      | .mix => (∀ i f, i < l.length → f < sz → Ro w E.Kp (vals i f) (dat enc l i f)) ∧ (∀ x, E.F t x ↔ x = b) ∧ ∀ j, j < l.length * sz → w.frozen? ⟨b, o + j, none⟩ = false
      | .ro => E.Kp b ∧ (∀ i f, i < l.length → f < sz → Ro w E.Kp (vals i f) (dat enc l i f)) ∧ ∀ x, ¬ E.F t x
      | .lent => E.R b ∧ (∀ i f, i < l.length → f < sz → Ro w E.R (vals i f) (dat enc l i f)) ∧ ∀ x, ¬ E.F t x
  | .arr own sz els => els.length ≤ 9223372036854775807 ∧ ∃ b o, E.γ t = some (b, o) ∧ b < w.heap.size ∧ (∀ e ∈ els, e.length = sz) ∧ (∃ vals, RowC w b o sz els.length vals ∧
      ∀ i f, i < els.length → f < sz → VR w E g ((els.getD i []).getD f .dead) (vals i f) ∧ (vals i f).oneCell' = true) ∧
      match own with
      | true => (∀ x, E.F t x ↔ x = b) ∧ ∀ j, j < els.length * sz → w.frozen? ⟨b, o + j, none⟩ = false
      | false => E.R b ∧ ∀ x, ¬ E.F t x
  | .foc sz enc l q cs => (∀ a, (enc a).length = sz) ∧ l.length ≤ 9223372036854775807 ∧ q < l.length ∧ cs.length = sz ∧ ∃ b o, E.γ t = some (b, o) ∧ b < w.heap.size ∧ ∃ vals, RowC w b o sz l.length vals ∧
      (∀ f, f < sz → VR w E g (cs.getD f .dead) (vals q f) ∧ (vals q f).oneCell' = true) ∧ ∃ G : Nat → Nat → Nat → Prop, (∀ i f, i < l.length → f < sz → i ≠ q → Own w E.Kp (G i f) (vals i f) (dat enc l i f)) ∧
        (∀ i f j g, i < l.length → f < sz → i ≠ q → j < l.length → g < sz → j ≠ q → (i ≠ j ∨ f ≠ g) → ∀ x, G i f x → ¬ G j g x) ∧
        (∀ i f, i < l.length → f < sz → i ≠ q → ¬ G i f b) ∧ (∀ x, E.F t x ↔ x = b ∨ ∃ i f, i < l.length ∧ f < sz ∧ i ≠ q ∧ G i f x) ∧ ∀ j, j < l.length * sz → w.frozen? ⟨b, o + j, none⟩ = false

/-- Cells stay cells; frozen ones stay so and no others come. -/
structure Shape (w w' : World) : Prop where
  os : w'.os = w.os
  tape : w'.tape = w.tape
  output : w'.output = w.output
  size : w.heap.size ≤ w'.heap.size
  cell : ∀ b i, b < w.heap.size → (∃ x, w.cell? ⟨b, i, none⟩ = some x) → ∃ x, w'.cell? ⟨b, i, none⟩ = some x
  fr : ∀ b i, b < w.heap.size → w'.frozen? ⟨b, i, none⟩ = w.frozen? ⟨b, i, none⟩

theorem Shape.refl (w : World) : Shape w w := ⟨rfl, rfl, rfl, Nat.le_refl _, fun _ _ _ h => h, fun _ _ _ => rfl⟩
theorem Shape.trans {a b c : World} (h : Shape a b) (k : Shape b c) : Shape a c :=
  ⟨k.os.trans h.os, k.tape.trans h.tape, k.output.trans h.output, Nat.le_trans h.size k.size,
   fun x i hx hc => k.cell x i (Nat.lt_of_lt_of_le hx h.size) (h.cell x i hx hc), fun x i hx => (k.fr x i (Nat.lt_of_lt_of_le hx h.size)).trans (h.fr x i hx)⟩
theorem Shape.drew (w : World) : Shape w w.drew := ⟨rfl, rfl, rfl, Nat.le_refl _, fun _ _ _ h => h, fun _ _ _ => rfl⟩
theorem Shape.alloc (w : World) (o : Obj) : Shape w (w.alloc o) :=
  ⟨rfl, rfl, rfl, by simp, fun b i hb h => by rw [cell_eq (Below.heap_alloc w o b hb)]; exact h, fun b i hb => frozen_eq (Below.heap_alloc w o b hb)⟩
theorem Shape.setCell (w : World) (a : Addr) (u : Value) : Shape w (w.setCell a u) := by
  refine ⟨rfl, rfl, rfl, by simp, fun b i hb ⟨x, h⟩ => ?_, fun b i hb => World.frozen?_setCell _ _ _ _⟩
  by_cases e : a = ⟨b, i, none⟩
  · subst e; exact ⟨u, World.cell?_setCell_same _ _ _ h⟩
  · exact ⟨x, by rw [World.cell?_setCell_other _ _ _ _ e]; exact h⟩

theorem SlR.mono {w w' : World} {g : Option (Nat × Nat)} {sz len : Nat} {own own' : Bool} {cut : Option (Nat × Nat)} {v : Value} (hs : Shape w w')
    (ho : own' = true → own = true) (h : SlR w g sz len own cut v) : SlR w' g sz len own' cut v := by
  cases g with
  | none =>
    obtain ⟨ab, h1, h2, h3⟩ := h
    exact ⟨ab, h1, fun e => h2 (ho e), h3⟩
  | some p =>
    obtain ⟨b, o⟩ := p
    obtain ⟨off, n, oo, c, h1, h2, h3, h4, h5, h6⟩ := h
    refine ⟨off, n, oo, c, h1, h2, h3, h4, h5, fun j hj => ?_⟩
    obtain ⟨⟨x, hx⟩, hf⟩ := h6 j hj
    have hb := RowKit_block_lt hx
    exact ⟨hs.cell _ _ hb ⟨x, hx⟩, fun e => by rw [hs.fr _ _ hb]; exact hf (ho e)⟩

/-- The objects of g' that V names are of g, as large, at the same place. -/
def Sub (E : Env) (g : Nat → Option Ob) (E' : Env) (g' : Nat → Option Ob) (t : Nat) : Prop :=
  ∀ o', g' t = some o' → ∃ o, g t = some o ∧ o.sz = o'.sz ∧ o.len = o'.len ∧ (o'.own = true → o.own = true) ∧ E'.γ t = E.γ t

mutual
/-- A value names object t. -/
def men (t : Nat) : V → Bool
  | .sl u _ => Nat.beq u t
  | .pt u _ _ => Nat.beq u t
  | .agg cs => mens t cs
  | .tup cs => mens t cs
  | .fn _ cs => mens t cs
  | _ => false
def mens (t : Nat) : List V → Bool
  | [] => false
  | v :: l => match men t v with | true => true | false => mens t l
end
mutual
theorem men_ref (t : Nat) : ∀ v : V, hasRef (t / 16) v = false → men t v = false
  | .lf _, _ => rfl
  | .dead, _ => rfl
  | .sl u _, h => by
    cases e : Nat.beq u t with
    | false => simpa [men] using e
    | true => have := Nat.eq_of_beq_eq_true e; subst this; simp [hasRef] at h
  | .pt u _ _, h => by
    cases e : Nat.beq u t with
    | false => simpa [men] using e
    | true => have := Nat.eq_of_beq_eq_true e; subst this; simp [hasRef] at h
  | .agg cs, h => by simp only [men]; exact mens_ref t cs (by simpa [hasRef] using h)
  | .tup cs, h => by simp only [men]; exact mens_ref t cs (by simpa [hasRef] using h)
  | .fn _ cs, h => by simp only [men]; exact mens_ref t cs (by simpa [hasRef] using h)
theorem mens_ref (t : Nat) : ∀ l : List V, hasRefs (t / 16) l = false → mens t l = false
  | [], _ => rfl
  | v :: l, h => by
    simp only [hasRefs] at h
    split at h
    · cases h
    · rename_i e
      simp only [mens]; rw [men_ref t v e]; exact mens_ref t l h
end

mutual
theorem VR.mono {w w' : World} {E E' : Env} {g g' : Nat → Option Ob} (hs : Shape w w') : ∀ (V : V) (v : Value), (∀ t, men t V = true → Sub E g E' g' t) → VR w E g V v → VR w' E' g' V v
  | .lf u, v, _, h => h
  | .dead, v, _, h => h
  | .sl t cut, v, hr, h => by
    refine ⟨h.1, fun o' ho' => ?_⟩
    obtain ⟨o, ho, e1, e2, e3, e4⟩ := hr t (by simp [men]) o' ho'
    have := h.2 o ho
    rw [e1, e2] at this
    rw [e4]
    exact this.mono hs e3
  | .pt t i f, v, hr, h => by
    refine ⟨h.1, fun o' ho' => ?_⟩
    obtain ⟨o, ho, e1, e2, e3, e4⟩ := hr t (by simp [men]) o' ho'
    obtain ⟨b, p, h1, h2⟩ := h.2 o ho
    exact ⟨b, p, by rw [e4]; exact h1, by rw [← e1]; exact h2⟩
  | .agg cs, v, hr, h => by
    obtain ⟨vs, h1, h2, h3⟩ := h
    exact ⟨vs, h1, VRs.mono hs cs vs (fun t ht => hr t (by simpa [men] using ht)) h2, h3⟩
  | .tup cs, v, hr, h => by
    obtain ⟨vs, h1, h2⟩ := h
    exact ⟨vs, h1, VRs.mono hs cs vs (fun t ht => hr t (by simpa [men] using ht)) h2⟩
  | .fn f cs, v, hr, h => by
    obtain ⟨vs, h1, h2, h3⟩ := h
    exact ⟨vs, h1, VRs.mono hs cs vs (fun t ht => hr t (by simpa [men] using ht)) h2, h3⟩
theorem VRs.mono {w w' : World} {E E' : Env} {g g' : Nat → Option Ob} (hs : Shape w w') : ∀ (cs : List V) (vs : List Value), (∀ t, mens t cs = true → Sub E g E' g' t) → VRs w E g cs vs → VRs w' E' g' cs vs
  | [], vs, _, h => h
  | c :: cs, vs, hr, h => by
    obtain ⟨x, xs, h1, h2, h3⟩ := h
    refine ⟨x, xs, h1, VR.mono hs c x (fun t ht => hr t ?_) h2, VRs.mono hs cs xs (fun t ht => hr t ?_) h3⟩
    · simp only [mens, ht]
    · simp only [mens]; split <;> simp_all
end

theorem Sub.refl (E : Env) (g : Nat → Option Ob) (t : Nat) : Sub E g E g t := fun o h => ⟨o, h, rfl, rfl, id, rfl⟩

theorem VRs.length {w : World} {E : Env} {g : Nat → Option Ob} : ∀ {cs : List V} {vs : List Value}, VRs w E g cs vs → cs.length = vs.length
  | [], vs, h => by simp [VRs] at h; simp [h]
  | c :: cs, vs, h => by
    obtain ⟨x, xs, rfl, _, h3⟩ := h
    simp [VRs.length h3]

theorem VRs.get {w : World} {E : Env} {g : Nat → Option Ob} : ∀ {cs : List V} {vs : List Value}, VRs w E g cs vs → ∀ i, i < cs.length → ∃ x, vs[i]? = some x ∧ VR w E g (cs.getD i .dead) x
  | [], vs, h, i, hi => by simp at hi
  | c :: cs, vs, h, 0, hi => by
    obtain ⟨x, xs, rfl, h2, _⟩ := h
    exact ⟨x, rfl, h2⟩
  | c :: cs, vs, h, i + 1, hi => by
    obtain ⟨x, xs, rfl, _, h3⟩ := h
    simpa using VRs.get h3 i (by simpa using hi)

theorem VRs.mk {w : World} {E : Env} {g : Nat → Option Ob} : ∀ {cs : List V} {vs : List Value}, cs.length = vs.length → (∀ i x, vs[i]? = some x → VR w E g (cs.getD i .dead) x) → VRs w E g cs vs
  | [], [], _, _ => rfl
  | c :: cs, x :: vs, hl, h => ⟨x, vs, rfl, h 0 x rfl, VRs.mk (by simpa using hl) (fun i y hy => by simpa using h (i + 1) y (by simpa using hy))⟩

theorem cells_one {v : Value} (h : v.oneCell' = true) : v.cells = #[v] := by cases v <;> simp_all [Value.cells, Value.oneCell']

/-- The cells of a value. -/
theorem cells_VR {w : World} {E : Env} {g : Nat → Option Ob} {V : V} {v : Value} {K : List Vm.V → Prop} (h : VR w E g V v) (hk : cellsK V K) :
    ∃ cs, K cs ∧ VRs w E g cs v.cells.toList ∧ (∀ x ∈ v.cells.toList, x.oneCell' = true) ∧ ∀ m, men m V = false → mens m cs = false := by
  cases V with
  | lf u =>
    obtain ⟨rfl, hu⟩ := h
    have h1 : v.oneCell' = true := isSc_one hu
    have hc : v.cells = #[v] := by cases v <;> simp_all [isSc, Value.cells]
    exact ⟨[.lf v], hk, by rw [hc]; exact ⟨v, [], rfl, ⟨rfl, hu⟩, rfl⟩, by simp [hc, h1], fun m _ => rfl⟩
  | dead => exact hk.elim
  | sl t cut =>
    have hc := cells_one h.1
    exact ⟨[.sl t cut], hk, by rw [hc]; exact ⟨v, [], rfl, h, rfl⟩, by simp [hc, h.1], fun m hm => by simp only [mens, hm]⟩
  | pt t i f =>
    have h1 : v.oneCell' = true := by obtain ⟨ad, rfl⟩ := h.1; rfl
    have hc := cells_one h1
    exact ⟨[.pt t i f], hk, by rw [hc]; exact ⟨v, [], rfl, h, rfl⟩, by simp [hc, h1], fun m hm => by simp only [mens, hm]⟩
  | agg cs =>
    obtain ⟨vs, rfl, h2, h3⟩ := h
    exact ⟨cs, hk, by simpa [Value.cells] using h2, by simpa [Value.cells] using h3, fun m hm => hm⟩
  | tup cs => exact hk.elim
  | fn f cs =>
    obtain ⟨vs, rfl, h2, h3⟩ := h
    exact ⟨[.fn f cs], hk, ⟨_, [], rfl, ⟨vs, rfl, h2, h3⟩, rfl⟩, by simp [Value.cells, Value.oneCell'], fun m hm => by simp only [mens, hm]⟩

/-- The call's frame: how memory was when it began, which blocks it was given to change, to read, to keep. -/
structure Ctx where
  w0 : World
  own0 : Nat → Prop
  R0 : Nat → Prop
  K0 : Nat → Prop
  nt : Nat
  gh : Nat → Value
  ntle : nt ≤ 1000000

def Ctx.ok (C : Ctx) (x : Nat) : Prop := C.w0.heap.size ≤ x ∨ C.own0 x

/-- What a slot stands for. -/
def Ctx.tv (C : Ctx) (a : Act) (n : Nat) : Value := if 1000000 ≤ n then C.gh n else a.tmps.getD n undef

/-- No cell of a block is frozen, nor is it marked as a text's. -/
def Cl (w : World) (x : Nat) : Prop := ∀ j, w.frozen? ⟨x, j, none⟩ = false
theorem Cl.shape {w w' : World} {x : Nat} (h : Cl w x) (hs : Shape w w') (hx : x < w.heap.size) : Cl w' x := fun j => by rw [hs.fr x j hx]; exact h j
theorem okW {C : Ctx} {w w' : World} {x : Nat} (h : x < w.heap.size ∧ C.ok x ∧ Cl w x) (hs : Shape w w') : C.ok x ∧ Cl w' x := ⟨h.2.1, h.2.2.shape hs h.1⟩
structure Rel (C : Ctx) (E : Env) (s : Sl) (h : Hp) (a : Act) (w : World) : Prop where
  ob : ∀ t o, lookO h t = some o → ObR w E (lookO h) t o
  dis : ∀ t u, t ≠ u → (lookO h t).isSome = true → (lookO h u).isSome = true → ∀ x, E.F t x → ¬ E.F u x
  disR : ∀ t, (lookO h t).isSome = true → ∀ x, E.F t x → ¬ E.R x
  KR : ∀ x, E.Kp x → E.R x
  Rlt : ∀ x, E.R x → x < w.heap.size
  Fin : ∀ t, (lookO h t).isSome = true → ∀ x, E.F t x → x < w.heap.size ∧ C.ok x ∧ Cl w x
  R0 : ∀ x, C.R0 x → E.R x
  K0 : ∀ x, C.K0 x → E.Kp x
  Rin : ∀ x, E.R x → C.R0 x ∨ C.ok x
  Kin : ∀ x, E.Kp x → C.K0 x ∨ C.ok x
  sl : ∀ n, look s n = .dead ∨ VR w E (lookO h) (look s n) (C.tv a n)
  nt : a.tmps.size = C.nt
  shape : Shape C.w0 w
  frame : ∀ b, b < C.w0.heap.size → ¬ C.own0 b → w.heap[b]? = C.w0.heap[b]?
  defers : a.defers = []
end Go.Vm
