/- The law FnExactRecOk in plain Lean: over numbers and byte lists alone, what the printed functions compute is true. -/
import Derived.Test.YtioafkmgonmogaaPFnExactRecOkx3
import Derived.Test.YtioafkmgonmogaaCells
namespace Go.Proofs.Ytioafkmgonmogaa.Pure
open Go.RowKit Go.Proofs.Ytioafkmgonmogaa.PFnExactRecOk Go.Proofs.YtioafkmgonmogaaW.PrintWords Go.Proofs.YtioafkmgonmogaaW.PrintLast Cells

theorem FnExactRecOk : ∀ (a0_0 : Int) (a0_1 : ByteArray) (a0_2 : ByteArray) (a0_3 : ByteArray) (a0_4 : ByteArray), IntOk a0_0 → StrOk a0_1 → StrOk a0_2 → StrOk a0_3 → StrOk a0_4 → laws_FnExactRecOk.f a0_0 a0_1 a0_2 a0_3 a0_4 = some true := by
  intro a0_0 a0_1 a0_2 a0_3 a0_4 h0 h1 h2 h3 h4
  have e : impl_RangeOk.f a0_3 a0_4 = spec_RangeOk.f a0_3 a0_4 := by
    unfold impl_RangeOk.f spec_RangeOk.f
    repeat' split
    all_goals first | rfl | omega
  have s : ∃ b, spec_RangeOk.f a0_3 a0_4 = some b := by
    unfold spec_RangeOk.f
    repeat' split
    all_goals exact ⟨_, rfl⟩
  obtain ⟨b, hb⟩ := s
  have e2 : impl_ReachOk.f a0_3 a0_4 = spec_ReachOk.f a0_3 a0_4 := by
    unfold impl_ReachOk.f spec_ReachOk.f
    rw [e]
  have s2 : ∃ b, spec_ReachOk.f a0_3 a0_4 = some b := by
    unfold spec_ReachOk.f
    rw [hb]
    simp only [Option.bind_some]
    repeat' split
    all_goals exact ⟨_, rfl⟩
  obtain ⟨c, hc⟩ := s2
  have u : impl_UserOk.f a0_1 = spec_UserOk.f a0_1 := by
    unfold impl_UserOk.f spec_UserOk.f impl_within.f
    repeat' split
    all_goals simp_all
  have su : ∃ b, spec_UserOk.f a0_1 = some b := by
    unfold spec_UserOk.f
    repeat' split
    all_goals exact ⟨_, rfl⟩
  obtain ⟨d, hd⟩ := su
  have e3 : impl_RecOk.f a0_0 a0_1 a0_2 a0_3 a0_4 = spec_RecOk.f a0_0 a0_1 a0_2 a0_3 a0_4 := by
    unfold impl_RecOk.f spec_RecOk.f
    rw [e2, u]
    rfl
  have s3 : ∃ b, spec_RecOk.f a0_0 a0_1 a0_2 a0_3 a0_4 = some b := by
    unfold spec_RecOk.f spec_UvalOk.f
    rw [hc, hd]
    simp only [Option.bind_some]
    repeat' split
    all_goals exact ⟨_, rfl⟩
  obtain ⟨x, hx⟩ := s3
  have z : ∃ t, laws_szRec.f a0_0 a0_1 a0_2 a0_3 a0_4 1048576 = some t := by
    unfold laws_szRec.f laws_szRange.f
    repeat' split
    all_goals first | exact ⟨_, rfl⟩ | (simp only [Option.bind_some]; split <;> exact ⟨_, rfl⟩)
  obtain ⟨t, ht⟩ := z
  unfold laws_FnExactRecOk.f
  rw [ht]
  simp [laws_toRange.f, laws_toRec.f, e3, hx]

end Go.Proofs.Ytioafkmgonmogaa.Pure
