/- Lemmas that open an argument whose parts lie on the heap: what the given reader reads of it, the kinds of the print read as well, with the bounds of each part. -/
import Derived.WalkKit
import Derived.ProofKit
import Derived.OpenShut
import Derived.ChangeArms
import Derived.DataReads
import Derived.Test.YtlbeppaimfpchaaCells
import Derived.Test.YtlbeppaimfpchaaWWords
namespace Go.Proofs.Ytlbeppaimfpchaa.DeepOpen
open Go.ChangeShapes Go.WideShapes Go.ChangeAt Go.RowKit Go.Proofs.YtlbeppaimfpchaaW.PrintWords Cells

/-- Whatever the reader makes out at type t, the kind reads it as a value within bounds B. -/
def Opens (P : Program) (w : World) {α : Type} (t : TypeId) (d : Kd α) (B : α → Prop) : Prop :=
  ∀ (H : Type) (enc : TypeId × Value → H) (fuel : Nat) (cs : List Value) (x : DataW H × List MemPlace), DataW.trod enc P w 0 (fun _ => true) true fuel t cs = some x → ∃ a, d.K w a cs ∧ B a
/-- The same for fields in line, from offset o to the end. -/
def OpensF (P : Program) (w : World) {α : Type} (fs : List Field) (o : Nat) (d : Kd α) (B : α → Prop) : Prop :=
  ∀ (H : Type) (enc : TypeId × Value → H) (n : Nat) (cs : List Value), (∀ f ∈ fs, ∃ x, DataW.trod enc P w 0 (fun _ => true) true n f.type ((cs.drop f.offset).take (P.cellsOf f.type)) = some x) →
    cs.length = o + d.sz → ∃ a, d.K w a (cs.drop o) ∧ B a

section
variable {P : Program} {w : World} {t : TypeId}
theorem opens_int (ht : P.underlying t = some (.int .i64)) : Opens P w t (Kd.int .i64) IntOk := by
  intro H enc fuel cs x h
  obtain ⟨n, rfl, _, hw⟩ := DataW.trod_int ht h
  simp only [Lit.wf, Bool.and_eq_true, max_i64, min_i64] at hw
  exact ⟨n, rfl, of_decide_eq_true hw.1, of_decide_eq_true hw.2⟩
theorem opens_string (ht : P.underlying t = some .string) : Opens P w t Kd.string StrOk := by
  intro H enc fuel cs x h
  obtain ⟨s, rfl, _, hw⟩ := DataW.trod_string ht h
  exact ⟨s, rfl, hw⟩
theorem opens_bool (ht : P.underlying t = some .bool) : Opens P w t Kd.bool (fun _ => True) := by
  intro H enc fuel cs x h
  obtain ⟨b, rfl, _⟩ := DataW.trod_bool ht h
  exact ⟨b, rfl, trivial⟩
theorem cells_get {a : Addr} {n : Nat} {cs : List Value} (h : w.cells? 0 a n = some cs) : cs.length = n ∧ ∀ (i : Nat) (u : Value), cs[i]? = some u → w.cell? (a.add i) = some u := by
  unfold World.cells? at h
  rw [if_pos (Nat.zero_le _)] at h
  have hl : cs.length = n := by simpa using mapM_some_length h
  refine ⟨hl, fun i u hu => ?_⟩
  have hi : i < n := by
    have := (List.getElem?_eq_some_iff.mp hu).1
    omega
  have := mapM_some_get h i i (by simp [hi])
  rw [this, hu]
theorem add_add (a : Addr) (i j : Nat) : (a.add i).add j = a.add (i + j) := by
  unfold Addr.add
  by_cases hi : i = 0
  · subst hi
    simp
  · by_cases hj : j = 0
    · subst hj
      simp [hi]
    · rw [if_neg hi, if_neg hj, if_neg (by omega)]
      simp [Nat.add_assoc]
theorem pick {α : Type} {β : Type} (R : α → β → Prop) : ∀ (ys : List β), (∀ y ∈ ys, ∃ a, R a y) → ∃ xs : List α, xs.length = ys.length ∧ ∀ (i : Nat) a y, xs[i]? = some a → ys[i]? = some y → R a y
  | [], _ => ⟨[], rfl, fun i a y h => by simp at h⟩
  | y :: ys, h => by
    obtain ⟨a, ha⟩ := h y (by simp)
    obtain ⟨xs, hl, hx⟩ := pick R ys (fun z hz => h z (by simp [hz]))
    refine ⟨a :: xs, by simp [hl], fun i b z hb hz => ?_⟩
    cases i with
    | zero =>
      simp only [List.getElem?_cons_zero, Option.some.injEq] at hb hz
      subst hb hz
      exact ha
    | succ i => exact hx i b z (by simpa using hb) (by simpa using hz)
theorem opens_slice {α : Type} {e : TypeId} {d : Kd α} {B : α → Prop} (ht : P.underlying t = some (.slice e)) (hc : P.cellsOf e = d.sz) (he : Opens P w e d B) :
    Opens P w t (Kd.slice e d) (fun l => l.length ≤ 9223372036854775807 ∧ ∀ y ∈ l, B y) := by
  intro H enc fuel cs x h
  rcases DataW.trod_slice ht h with ⟨rfl, _⟩ | ⟨a, len, cap, elems, rest, n, _, rfl, _, _, hl, hm, hlen, hel, _, _⟩
  · exact ⟨[], ⟨none, 0, rfl, Nat.le_refl _, rfl, by simp, fun h => by simp at h⟩, by simp, by simp⟩
  · have g : ∀ i ∈ List.range len, ∃ y : α, ∃ c : List Value, c.length = d.sz ∧ d.K w y c ∧ B y ∧ ∀ j u, c[j]? = some u → w.cell? (a.add (i * d.sz + j)) = some u := by
      intro i hi
      have hi' : i < len := by simpa using hi
      have h1 := hel i hi'
      rw [List.getElem?_eq_getElem (by omega)] at h1
      obtain ⟨c, hc1, hc2⟩ := Option.bind_eq_some_iff.mp h1
      obtain ⟨y, hy, hb⟩ := he H enc n c _ hc2
      obtain ⟨hcl, hcg⟩ := cells_get hc1
      refine ⟨y, c, d.K_len hy, hy, hb, fun j u hu => ?_⟩
      have := hcg j u hu
      rwa [add_add, hc] at this
    obtain ⟨xs, hxl, hx⟩ := pick (fun (y : α) (i : Nat) => ∃ c : List Value, c.length = d.sz ∧ d.K w y c ∧ B y ∧ ∀ j u, c[j]? = some u → w.cell? (a.add (i * d.sz + j)) = some u) (List.range len) g
    have hxl' : xs.length = len := by simpa using hxl
    have ml : cap ≤ 9223372036854775807 := hm
    refine ⟨xs, ⟨some a, cap, by rw [hxl'], by omega, rfl, by omega, fun _ => ⟨a, rfl, fun j p hp => ?_⟩⟩, by omega, fun y hy => ?_⟩
    · have hj : j < len := by
        have := (List.getElem?_eq_some_iff.mp hp).1
        omega
      obtain ⟨c, h1, h2, _, h4⟩ := hx j p j hp (by simp [hj])
      exact ⟨c, h1, h2, h4⟩
    · obtain ⟨i, hi, rfl⟩ := List.getElem_of_mem hy
      obtain ⟨c, _, _, hb, _⟩ := hx i xs[i] i (List.getElem?_eq_getElem hi) (List.getElem?_range (by omega))
      exact hb
theorem opensF_one {α : Type} {f : Field} {o : Nat} {d : Kd α} {B : α → Prop} (ho : f.offset = o) (hc : P.cellsOf f.type = d.sz) (he : Opens P w f.type d B) : OpensF P w [f] o d B := by
  intro H enc n cs hf hl
  obtain ⟨x, hx⟩ := hf f (by simp)
  obtain ⟨a, ha, hb⟩ := he H enc n _ x hx
  have hs : (cs.drop o).length ≤ d.sz := by rw [List.length_drop]; omega
  rw [ho, hc, List.take_of_length_le hs] at ha
  exact ⟨a, ha, hb⟩
theorem opensF_cons {α β : Type} {f : Field} {fs : List Field} {o : Nat} {d : Kd α} {e : Kd β} {B : α → Prop} {C : β → Prop} (ho : f.offset = o) (hc : P.cellsOf f.type = d.sz) (he : Opens P w f.type d B)
    (hr : OpensF P w fs (o + d.sz) e C) : OpensF P w (f :: fs) o (Kd.pair d e) (fun x => B x.1 ∧ C x.2) := by
  intro H enc n cs hf hl
  have hl' : cs.length = o + (d.sz + e.sz) := hl
  obtain ⟨x, hx⟩ := hf f (by simp)
  obtain ⟨a, ha, hb⟩ := he H enc n _ x hx
  obtain ⟨b, hb1, hb2⟩ := hr H enc n cs (fun g hg => hf g (by simp [hg])) (by omega)
  rw [ho, hc] at ha
  refine ⟨(a, b), ⟨(cs.drop o).take d.sz, cs.drop (o + d.sz), ?_, ha, hb1⟩, hb, hb2⟩
  rw [← List.drop_drop, List.take_append_drop]
theorem opens_struct {α : Type} {fs : Array Field} {d : Kd α} {B : α → Prop} (ht : P.underlying t = some (.struct fs)) (hc : P.cellsOf t = d.sz) (hf : OpensF P w fs.toList 0 d B) : Opens P w t d B := by
  intro H enc fuel cs x h
  obtain ⟨xs, n, _, _, hl, hx, hg⟩ := DataW.trod_struct ht h
  have := hf H enc n cs (fun f hfm => by
    obtain ⟨i, hi, rfl⟩ := List.getElem_of_mem hfm
    have hi' : i < fs.size := by simpa using hi
    have := hg i fs.toList[i] (by simp [Array.getElem?_eq_getElem hi'])
    rw [List.getElem?_eq_getElem (by omega)] at this
    exact ⟨_, this⟩) (by omega)
  simpa using this
theorem opens_iso {α β : Type} {d : Kd α} {f : β → α} {B : α → Prop} (g : α → β) (hg : ∀ a, f (g a) = a) (h : Opens P w t d B) : Opens P w t (Kd.iso d f) (fun b => B (f b)) := by
  intro H enc fuel cs x hx
  obtain ⟨a, ha, hb⟩ := h H enc fuel cs x hx
  refine ⟨g a, ?_, ?_⟩
  · show d.K w (f (g a)) cs
    rw [hg]
    exact ha
  · show B (f (g a))
    rw [hg]
    exact hb
theorem open_agg {r : Reach} {b : Nat} {fs : Array Field} {v : Value} (hs : P.underlying t = some (.struct fs)) (hv : Value.okWide P w r b t v) : ∃ cs : List Value, v = .agg cs.toArray := by
  unfold Value.okWide at hv
  rw [hs] at hv
  obtain ⟨cs, rfl, _⟩ := hv
  exact ⟨cs.toList, by simp⟩
end
end Go.Proofs.Ytlbeppaimfpchaa.DeepOpen
