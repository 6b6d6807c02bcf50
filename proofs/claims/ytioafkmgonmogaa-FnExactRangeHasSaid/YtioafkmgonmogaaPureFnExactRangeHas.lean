/- The law FnExactRangeHas in plain Lean: over numbers and byte lists alone, what the printed functions compute is true. -/
import Derived.Test.YtioafkmgonmogaaPFnExactRangeHasx1
import Derived.Test.YtioafkmgonmogaaCells
namespace Go.Proofs.Ytioafkmgonmogaa.Pure
open Go.RowKit Go.Proofs.Ytioafkmgonmogaa.PFnExactRangeHas Go.Proofs.YtioafkmgonmogaaW.PrintWords Go.Proofs.YtioafkmgonmogaaW.PrintLast Cells

theorem FnExactRangeHas : ∀ (a0_0 : ByteArray) (a0_1 : ByteArray) (a1 : ByteArray), StrOk a0_0 → StrOk a0_1 → StrOk a1 → laws_FnExactRangeHas.f a0_0 a0_1 a1 = some true := by
  intro a0_0 a0_1 a1 h0 h1 h2
  have e : impl_RangeOk.f a0_0 a0_1 = spec_RangeOk.f a0_0 a0_1 := by
    unfold impl_RangeOk.f spec_RangeOk.f
    repeat' split
    all_goals first | rfl | omega
  have k : impl_KeyOk.f a1 = spec_KeyOk.f a1 := by
    unfold impl_KeyOk.f spec_KeyOk.f impl_within.f
    repeat' split
    all_goals first | (simp_all; done) | (simp_all; omega)
  have s : ∃ b, spec_RangeOk.f a0_0 a0_1 = some b := by
    unfold spec_RangeOk.f
    repeat' split
    all_goals exact ⟨_, rfl⟩
  have sk : ∃ b, spec_KeyOk.f a1 = some b := by
    unfold spec_KeyOk.f
    repeat' split
    all_goals exact ⟨_, rfl⟩
  obtain ⟨b, hb⟩ := s
  obtain ⟨x, hx⟩ := sk
  have e2 : impl_RangeHas.f a0_0 a0_1 a1 = spec_RangeHas.f a0_0 a0_1 a1 := by
    unfold impl_RangeHas.f spec_RangeHas.f impl_Range_has.f
    rw [e, k]
    rw [hb]; simp only [Option.bind_some, Option.bind_fun_some]
  have s2 : ∃ b, spec_RangeHas.f a0_0 a0_1 a1 = some b := by
    unfold spec_RangeHas.f
    rw [hb, hx]
    simp only [Option.bind_some]
    repeat' split
    all_goals exact ⟨_, rfl⟩
  obtain ⟨c, hc⟩ := s2
  have z : ∃ t, laws_szRange.f a0_0 a0_1 1048576 = some t := by
    unfold laws_szRange.f
    repeat' split
    all_goals exact ⟨_, rfl⟩
  obtain ⟨t, ht⟩ := z
  unfold laws_FnExactRangeHas.f
  rw [ht]
  simp [laws_toRange.f, e2, hc]

end Go.Proofs.Ytioafkmgonmogaa.Pure
