/- Lemmas that open a struct argument that comes in by value: each of its cells is a whole number, a text or a bool within its kind's bounds. -/
import Derived.WalkKit
import Derived.ProofKit
import Derived.OpenShut
namespace Go.Proofs.Ytlbeppaimfpchaa.Cells
open Go.ChangeShapes Go.WideShapes Go.ChangeAt Go.RowKit

def IntOk (n : Int) : Prop := -9223372036854775808 ≤ n ∧ n ≤ 9223372036854775807
def StrOk (s : ByteArray) : Prop := s.size ≤ 9223372036854775807

theorem open_cells {P : Program} {w : World} {r : Reach} {b n : Nat} {t : TypeId} {fs : Array Field} {ts : List TypeId} {v : Value}
    (hs : P.underlying t = some (.struct fs)) (hct : P.cellTypes P.depth t = some ts) (hC : P.cellsOf t = n) (hv : Value.okWide P w r b t v) :
    ∃ cs : List Value, v = .agg cs.toArray ∧ cs.length = n ∧ ∀ (i : Nat) (u : TypeId) (x : Value), ts[i]? = some u → cs[i]? = some x → Cell.okWide P w r b u x := by
  unfold Value.okWide at hv
  rw [hs] at hv
  obtain ⟨cs, rfl, hsz, ts', hct', _, hall⟩ := hv
  rw [hct] at hct'
  obtain rfl := Option.some.inj hct'
  refine ⟨cs.toList, by simp, by simp [hsz, hC], fun i u x hu hx => ?_⟩
  obtain ⟨u', hu', hk⟩ := hall i x (by simpa using hx)
  have hi : i < ts.length := (List.getElem?_eq_some_iff.mp hu).1
  rw [Nat.mod_eq_of_lt hi, hu] at hu'
  obtain rfl := Option.some.inj hu'
  exact hk

theorem max_i64 : IntKind.i64.max = 9223372036854775807 := rfl
theorem min_i64 : IntKind.i64.min = -9223372036854775808 := rfl
theorem cell_int {P : Program} {w : World} {r : Reach} {b : Nat} {u : TypeId} {x : Value} (hu : P.underlying u = some (.int .i64)) (h : Cell.okWide P w r b u x) : ∃ n, x = .int .i64 n ∧ IntOk n := by
  have hv : Value.okWide P w r b u x := by simp only [Value.okWide, hu]; exact h
  obtain ⟨n, rfl⟩ := okWide_int hu hv
  simp only [Cell.okWide, hu, Cell.ok, IntKind.has, max_i64, min_i64, true_and] at h
  exact ⟨n, rfl, h⟩
theorem cell_str {P : Program} {w : World} {r : Reach} {b : Nat} {u : TypeId} {x : Value} (hu : P.underlying u = some .string) (h : Cell.okWide P w r b u x) : ∃ s, x = .string s ∧ StrOk s := by
  have hv : Value.okWide P w r b u x := by simp only [Value.okWide, hu]; exact h
  obtain ⟨n, rfl⟩ := okWide_string hu hv
  simp only [Cell.okWide, hu, Cell.ok, max_i64] at h
  exact ⟨n, rfl, by unfold StrOk; omega⟩
theorem cell_bool {P : Program} {w : World} {r : Reach} {b : Nat} {u : TypeId} {x : Value} (hu : P.underlying u = some .bool) (h : Cell.okWide P w r b u x) : ∃ s, x = .bool s := by
  simp only [Cell.okWide, hu] at h
  cases x <;> simp_all [Cell.ok]
theorem val_int {P : Program} {w : World} {r : Reach} {b : Nat} {u : TypeId} {x : Value} (hu : P.underlying u = some (.int .i64)) (h : Value.okWide P w r b u x) : ∃ n, x = .int .i64 n ∧ IntOk n := by
  simp only [Value.okWide, hu] at h
  exact cell_int hu h
theorem val_str {P : Program} {w : World} {r : Reach} {b : Nat} {u : TypeId} {x : Value} (hu : P.underlying u = some .string) (h : Value.okWide P w r b u x) : ∃ s, x = .string s ∧ StrOk s := by
  simp only [Value.okWide, hu] at h
  exact cell_str hu h
theorem val_bool {P : Program} {w : World} {r : Reach} {b : Nat} {u : TypeId} {x : Value} (hu : P.underlying u = some .bool) (h : Value.okWide P w r b u x) : ∃ s, x = .bool s := by
  simp only [Value.okWide, hu] at h
  exact cell_bool hu h

theorem list2 {α : Type} {cs : List α} (h : cs.length = 2) : ∃ a b, cs = [a, b] := by
  match cs, h with
  | [a, b], _ => exact ⟨a, b, rfl⟩
theorem list3 {α : Type} {cs : List α} (h : cs.length = 3) : ∃ a b c, cs = [a, b, c] := by
  match cs, h with
  | [a, b, c], _ => exact ⟨a, b, c, rfl⟩
theorem list5 {α : Type} {cs : List α} (h : cs.length = 5) : ∃ a b c d e, cs = [a, b, c, d, e] := by
  match cs, h with
  | [a, b, c, d, e], _ => exact ⟨a, b, c, d, e, rfl⟩
theorem list7 {α : Type} {cs : List α} (h : cs.length = 7) : ∃ a b c d e f g, cs = [a, b, c, d, e, f, g] := by
  match cs, h with
  | [a, b, c, d, e, f, g], _ => exact ⟨a, b, c, d, e, f, g, rfl⟩
theorem list8 {α : Type} {cs : List α} (h : cs.length = 8) : ∃ a b c d e f g i, cs = [a, b, c, d, e, f, g, i] := by
  match cs, h with
  | [a, b, c, d, e, f, g, i], _ => exact ⟨a, b, c, d, e, f, g, i, rfl⟩

theorem wrap_in {x : Int} (h0 : -9223372036854775808 ≤ x) (h1 : x ≤ 9223372036854775807) : wrap64 x = x := by unfold wrap64; omega

end Go.Proofs.Ytlbeppaimfpchaa.Cells
