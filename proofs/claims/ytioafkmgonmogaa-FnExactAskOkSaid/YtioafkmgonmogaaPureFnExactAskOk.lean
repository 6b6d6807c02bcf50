/- The law FnExactAskOk in plain Lean: over numbers and byte lists alone, what the printed functions compute is true. -/
import Derived.Test.YtioafkmgonmogaaPFnExactAskOkx4
import Derived.Test.YtioafkmgonmogaaCells
import Derived.Lib.Strings
namespace Go.Proofs.Ytioafkmgonmogaa.Pure
set_option linter.unusedVariables false
set_option linter.unusedSimpArgs false
open Go.RowKit Go.Proofs.Ytioafkmgonmogaa.PFnExactAskOk Go.Proofs.YtioafkmgonmogaaW.PrintWords Go.Proofs.YtioafkmgonmogaaW.PrintLast Cells

theorem toList_nil_size {s : ByteArray} (h : s.toList = ([] : List UInt8)) : s.size = 0 := by
  rw [Lib.toList_data] at h
  rw [Lib.size_eq, h]
  rfl
theorem range_eq (a b : ByteArray) : impl_RangeOk.f a b = spec_RangeOk.f a b := by
  unfold impl_RangeOk.f spec_RangeOk.f
  repeat' split
  all_goals first | rfl | omega
theorem range_some (a b : ByteArray) : ∃ r, spec_RangeOk.f a b = some r := by
  unfold spec_RangeOk.f
  repeat' split
  all_goals exact ⟨_, rfl⟩
theorem reach_eq (a b : ByteArray) : impl_ReachOk.f a b = spec_ReachOk.f a b := by
  unfold impl_ReachOk.f spec_ReachOk.f
  rw [range_eq]
theorem reach_some (a b : ByteArray) : ∃ r, spec_ReachOk.f a b = some r := by
  obtain ⟨r, hr⟩ := range_some a b
  unfold spec_ReachOk.f
  rw [hr]
  simp only [Option.bind_some]
  repeat' split
  all_goals exact ⟨_, rfl⟩
theorem user_eq (a : ByteArray) : impl_UserOk.f a = spec_UserOk.f a := by
  unfold impl_UserOk.f spec_UserOk.f impl_within.f
  repeat' split
  all_goals simp_all
theorem user_some (a : ByteArray) : ∃ r, spec_UserOk.f a = some r := by
  unfold spec_UserOk.f
  repeat' split
  all_goals exact ⟨_, rfl⟩
theorem ask_some (k : Int) (a b c d : ByteArray) (m : Int) (z : Bool) : ∃ r, spec_AskOk.f 1 k a b c d m z = some r := by
  obtain ⟨r, hr⟩ := reach_some c d
  obtain ⟨u, hu⟩ := user_some a
  unfold spec_AskOk.f
  simp only [spec_AskOk.j0, spec_UvalOk.f, hr, hu, Option.bind_some]
  repeat' split
  all_goals exact ⟨_, rfl⟩
theorem ask_eq (k : Int) (a b c d : ByteArray) (m : Int) (z : Bool) : impl_AskOk.f 1 k a b c d m z = spec_AskOk.f 1 k a b c d m z := by
  obtain ⟨r, hr⟩ := reach_some c d
  obtain ⟨u, hu⟩ := user_some a
  have hn := emp_toList_
  have hw : impl_within.f m 1 8 = some (decide (1 ≤ m ∧ m ≤ 8)) := by
    unfold impl_within.f
    split <;> simp <;> omega
  have hb := @toList_nil_size b
  unfold impl_AskOk.f spec_AskOk.f
  simp only [impl_AskOk.j0, spec_AskOk.j0, impl_UvalOk.f, spec_UvalOk.f, reach_eq, user_eq, hr, hu, Option.bind_some, hn, hw]
  by_cases h1 : k = 1
  · subst h1
    cases u <;> by_cases e2 : b.toList = [] <;> simp [e2] <;> (try (have := hb e2; simp [this])) <;> (by_cases e3 : c.toList = [] <;> by_cases e4 : d.toList = [] <;> by_cases e5 : m = 0 <;> simp [e3, e4, e5])
  · by_cases h2 : k = 2
    · subst h2
      cases u <;> by_cases e2 : b.size ≤ 20 <;> simp [e2] <;> (by_cases e3 : c.toList = [] <;> by_cases e4 : d.toList = [] <;> by_cases e5 : m = 0 <;> simp [e3, e4, e5])
    · by_cases h3 : k = 3
      · subst h3
        cases u <;> by_cases e2 : b.toList = [] <;> simp [e2] <;> (try (have := hb e2; simp [this])) <;> (by_cases e3 : c.toList = [] <;> by_cases e4 : d.toList = [] <;> by_cases e5 : m = 0 <;> simp [e3, e4, e5])
      · by_cases h4 : k = 4
        · subst h4
          cases r <;> by_cases e1 : a.toList = [] <;> by_cases e2 : b.toList = [] <;> by_cases e5 : 1 ≤ m <;> by_cases e6 : m ≤ 8 <;> simp [e1, e2, e5, e6]
        · by_cases e2 : b.toList = [] <;> by_cases e5 : 1 ≤ k <;> by_cases e6 : k ≤ 3 <;> simp [h1, h2, h3, h4, e2, e5, e6] <;> omega

theorem FnExactAskOk : ∀ (a0_0 : Int) (a0_1 : ByteArray) (a0_2 : ByteArray) (a0_3 : ByteArray) (a0_4 : ByteArray) (a0_5 : Int) (a0_6 : Bool), IntOk a0_0 → StrOk a0_1 → StrOk a0_2 → StrOk a0_3 → StrOk a0_4 → IntOk a0_5 → ∃ k, laws_FnExactAskOk.f k a0_0 a0_1 a0_2 a0_3 a0_4 a0_5 a0_6 = some true := by
  intro a0_0 a0_1 a0_2 a0_3 a0_4 a0_5 a0_6 h0 h1 h2 h3 h4 h5
  refine ⟨1, ?_⟩
  obtain ⟨x, hx⟩ := ask_some a0_0 a0_1 a0_2 a0_3 a0_4 a0_5 a0_6
  have z : ∃ t, laws_szAsk.f a0_0 a0_1 a0_2 a0_3 a0_4 a0_5 a0_6 1048576 = some t := by
    unfold laws_szAsk.f laws_szRange.f
    repeat' split
    all_goals first | exact ⟨_, rfl⟩ | (simp only [Option.bind_some]; split <;> exact ⟨_, rfl⟩)
  obtain ⟨t, ht⟩ := z
  unfold laws_FnExactAskOk.f
  rw [ht]
  simp [laws_toRange.f, laws_toAsk.f, ask_eq, hx]

end Go.Proofs.Ytioafkmgonmogaa.Pure
