/- The law FnExactReachOk in plain Lean: over numbers and byte lists alone, what the printed functions compute is true. -/
import Derived.Test.YtioafkmgonmogaaPFnExactReachOkx1
import Derived.Test.YtioafkmgonmogaaCells
namespace Go.Proofs.Ytioafkmgonmogaa.Pure
open Go.RowKit Go.Proofs.Ytioafkmgonmogaa.PFnExactReachOk Go.Proofs.YtioafkmgonmogaaW.PrintWords Go.Proofs.YtioafkmgonmogaaW.PrintLast Cells

theorem FnExactReachOk : ∀ (a0_0 : ByteArray) (a0_1 : ByteArray), StrOk a0_0 → StrOk a0_1 → laws_FnExactReachOk.f a0_0 a0_1 = some true := by
  intro a0_0 a0_1 h0 h1
  have e : impl_RangeOk.f a0_0 a0_1 = spec_RangeOk.f a0_0 a0_1 := by
    unfold impl_RangeOk.f spec_RangeOk.f
    repeat' split
    all_goals first | rfl | omega
  have s : ∃ b, spec_RangeOk.f a0_0 a0_1 = some b := by
    unfold spec_RangeOk.f
    repeat' split
    all_goals exact ⟨_, rfl⟩
  obtain ⟨b, hb⟩ := s
  have e2 : impl_ReachOk.f a0_0 a0_1 = spec_ReachOk.f a0_0 a0_1 := by
    unfold impl_ReachOk.f spec_ReachOk.f
    rw [e]
  have s2 : ∃ b, spec_ReachOk.f a0_0 a0_1 = some b := by
    unfold spec_ReachOk.f
    rw [hb]
    simp only [Option.bind_some]
    repeat' split
    all_goals exact ⟨_, rfl⟩
  obtain ⟨c, hc⟩ := s2
  have z : ∃ t, laws_szRange.f a0_0 a0_1 1048576 = some t := by
    unfold laws_szRange.f
    repeat' split
    all_goals exact ⟨_, rfl⟩
  obtain ⟨t, ht⟩ := z
  unfold laws_FnExactReachOk.f
  rw [ht]
  simp [laws_toRange.f, e2, hc]

end Go.Proofs.Ytioafkmgonmogaa.Pure
