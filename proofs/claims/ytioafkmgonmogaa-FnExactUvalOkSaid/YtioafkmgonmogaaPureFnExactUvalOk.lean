/- The law FnExactUvalOk in plain Lean: for every text the two functions answer alike. No condition beside the printed size bound. -/
import Derived.Test.YtioafkmgonmogaaPFnExactUvalOkx1
namespace Go.Proofs.Ytioafkmgonmogaa.Pure
open Go.RowKit Go.Proofs.Ytioafkmgonmogaa.PFnExactUvalOk Go.Proofs.YtioafkmgonmogaaW.PrintWords Go.Proofs.YtioafkmgonmogaaW.PrintLast

/-- YOURS: ∀ (a0 : ByteArray), a0.size ≤ 140737488351232 → laws_FnExactUvalOk.f a0 = some true
What it reaches (each with k first where it has rounds; `.mono`: more rounds tell the same; `.l0`, ..: its loops, with `.mono_l`): spec_UvalOk.f, impl_UvalOk.f, laws_FnExactUvalOk.f -/
theorem FnExactUvalOk : laws_FnExactUvalOk.Pure := by
  intro a0 h
  unfold laws_FnExactUvalOk.f spec_UvalOk.f impl_UvalOk.f
  split <;> simp

end Go.Proofs.Ytioafkmgonmogaa.Pure
