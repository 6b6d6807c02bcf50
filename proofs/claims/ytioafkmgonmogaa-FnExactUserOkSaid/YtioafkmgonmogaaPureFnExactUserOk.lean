/- The law FnExactUserOk in plain Lean: for every text the two functions answer alike. No condition beside the printed size bound. -/
import Derived.Test.YtioafkmgonmogaaPFnExactUserOkx1
namespace Go.Proofs.Ytioafkmgonmogaa.Pure
open Go.RowKit Go.Proofs.Ytioafkmgonmogaa.PFnExactUserOk Go.Proofs.YtioafkmgonmogaaW.PrintWords Go.Proofs.YtioafkmgonmogaaW.PrintLast

/-- YOURS: ∀ (a0 : ByteArray), a0.size ≤ 140737488351232 → laws_FnExactUserOk.f a0 = some true
What it reaches (each with k first where it has rounds; `.mono`: more rounds tell the same; `.l0`, ..: its loops, with `.mono_l`): spec_UserOk.f, impl_within.f, impl_UserOk.f, laws_FnExactUserOk.f -/
theorem FnExactUserOk : laws_FnExactUserOk.Pure := by
  intro a0 h
  unfold laws_FnExactUserOk.f spec_UserOk.f impl_UserOk.f impl_within.f
  repeat' split
  all_goals simp_all

end Go.Proofs.Ytioafkmgonmogaa.Pure
