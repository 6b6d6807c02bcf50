/- The law FnExactTxOk in plain Lean: over numbers and byte lists alone, what the printed functions compute is true. -/
import Derived.Test.YtioafkmgonmogaaPFnExactTxOkx1
import Derived.Test.YtioafkmgonmogaaCells
namespace Go.Proofs.Ytioafkmgonmogaa.Pure
open Go.RowKit Go.Proofs.Ytioafkmgonmogaa.PFnExactTxOk Go.Proofs.YtioafkmgonmogaaW.PrintWords Go.Proofs.YtioafkmgonmogaaW.PrintLast Cells

theorem FnExactTxOk : ∀ (a0_0 : Int) (a0_1 : Int) (a0_2 : Int), IntOk a0_0 → IntOk a0_1 → IntOk a0_2 → laws_FnExactTxOk.f a0_0 a0_1 a0_2 = some true := by
  intro a0_0 a0_1 a0_2 h0 h1 h2
  have e : impl_TxOk.f a0_0 a0_1 a0_2 = spec_TxOk.f a0_0 a0_1 a0_2 := by
    unfold impl_TxOk.f spec_TxOk.f impl_within.f
    repeat' split
    all_goals first | (simp_all; done) | (simp_all; omega)
  have s : ∃ b, spec_TxOk.f a0_0 a0_1 a0_2 = some b := by
    unfold spec_TxOk.f
    repeat' split
    all_goals simp_all
  obtain ⟨b, hb⟩ := s
  simp [laws_FnExactTxOk.f, laws_toTx.f, e, hb]

end Go.Proofs.Ytioafkmgonmogaa.Pure
