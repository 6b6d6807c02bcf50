/- The law FnExactTxAfter in plain Lean: over numbers and byte lists alone, what the printed functions compute is true. -/
import Derived.Test.YtioafkmgonmogaaPFnExactTxAfterx2
import Derived.Test.YtioafkmgonmogaaCells
namespace Go.Proofs.Ytioafkmgonmogaa.Pure
open Go.RowKit Go.Proofs.Ytioafkmgonmogaa.PFnExactTxAfter Go.Proofs.YtioafkmgonmogaaW.PrintWords Go.Proofs.YtioafkmgonmogaaW.PrintLast Cells

theorem FnExactTxAfter : ∀ (a0_0 : Int) (a0_1 : Int) (a0_2 : Int) (a1_0 : Int) (a1_1 : Int) (a1_2 : Int), IntOk a0_0 → IntOk a0_1 → IntOk a0_2 → IntOk a1_0 → IntOk a1_1 → IntOk a1_2 → laws_FnExactTxAfter.f a0_0 a0_1 a0_2 a1_0 a1_1 a1_2 = some true := by
  intro a0_0 a0_1 a0_2 a1_0 a1_1 a1_2 h0 h1 h2 h3 h4 h5
  have e (a b c : Int) : impl_TxOk.f a b c = spec_TxOk.f a b c := by
    unfold impl_TxOk.f spec_TxOk.f impl_within.f
    repeat' split
    all_goals first | (simp_all; done) | (simp_all; omega)
  have s (a b c : Int) : ∃ r, spec_TxOk.f a b c = some r := by
    unfold spec_TxOk.f
    repeat' split
    all_goals simp_all
  have e2 : impl_TxAfter.f a0_0 a0_1 a0_2 a1_0 a1_1 a1_2 = spec_TxAfter.f a0_0 a0_1 a0_2 a1_0 a1_1 a1_2 := by
    unfold impl_TxAfter.f spec_TxAfter.f
    rw [e, e]
  have s2 : ∃ b, spec_TxAfter.f a0_0 a0_1 a0_2 a1_0 a1_1 a1_2 = some b := by
    obtain ⟨x, hx⟩ := s a0_0 a0_1 a0_2
    obtain ⟨y, hy⟩ := s a1_0 a1_1 a1_2
    unfold spec_TxAfter.f
    rw [hx, hy]
    simp only [Option.bind_some]
    repeat' split
    all_goals exact ⟨_, rfl⟩
  obtain ⟨b, hb⟩ := s2
  simp [laws_FnExactTxAfter.f, laws_toTx.f, e2, hb]

end Go.Proofs.Ytioafkmgonmogaa.Pure
