/- Printed by a program of this session (a patched copy of the kit's print): for each Go function one Lean function, and the proof that the call comes to just its answer. -/
import Derived.Test.YtioafkmgonmogaaProg
import Derived.Below
import Derived.Deep.Draws
import Derived.Deep.AppendLies
import Derived.Maps.AppendAt
import Derived.OwnWalk
import Derived.Laws.BytesArg
import Derived.Laws.MakeOwn
import Derived.Laws.OwnMore
import Derived.Deep.OwnRows
import Derived.Tactics
import Derived.Lib.ConvBytes
import Derived.Laws.Slices
import Derived.WalkKit
import Derived.KernelRfl
import Derived.RowKit3
import Derived.Deep.LoopGhost
import Derived.Deep.QuietTactic
import Derived.BigQuiet
import Derived.WideLaws
import Derived.Deep.DeepCutAuto
import Derived.Deep.CutBlock
import Derived.Deep.RegionHeld3
import Derived.Laws.Rows
import Derived.Lib.AppendStr
import Derived.ArgAppend
import Derived.Laws.IdiomCopy
import Derived.OrdersHeld
import Derived.Laws.BitsLemmas
import Derived.RowKit
import Derived.Test.YtioafkmgonmogaaWWords
import Derived.Test.YtioafkmgonmogaaWLast
import Derived.Test.YtioafkmgonmogaaWTab
import Derived.Test.YtioafkmgonmogaaWFour
import Derived.Test.YtioafkmgonmogaaWQPut
import Derived.Test.YtioafkmgonmogaaWApart
import Derived.Test.YtioafkmgonmogaaWArr
import Derived.Test.YtioafkmgonmogaaWZeros
import Derived.Test.YtioafkmgonmogaaWFoot
import Derived.Test.YtioafkmgonmogaaWKept
import Derived.Test.YtioafkmgonmogaaWShare
import Derived.Test.YtioafkmgonmogaaWN
import Derived.Test.YtioafkmgonmogaaWFootNe
import Derived.Test.YtioafkmgonmogaaWAt
import Derived.Test.YtioafkmgonmogaaWEqStruct
import Derived.Test.YtioafkmgonmogaaWRepsOne
import Derived.Test.YtioafkmgonmogaaWInv
import Derived.Test.YtioafkmgonmogaaWInvWords
import Derived.Test.YtioafkmgonmogaaWGuard
import Derived.Test.YtioafkmgonmogaaWNEv
import Derived.Test.YtioafkmgonmogaaWMore
namespace Go.Proofs.Ytioafkmgonmogaa.PFnExactCallOk
open Go.RowKit Go.Proofs.YtioafkmgonmogaaW.PrintWords Go.Proofs.YtioafkmgonmogaaW.PrintLast Go.Proofs.YtioafkmgonmogaaW.PrintMore
attribute [local go_sem] max2_int min2_int max_two min_two max_three min_three max_four min_four   -- for this text's walks alone
set_option linter.unusedVariables false
set_option linter.unusedSimpArgs false



def errW : Option Int → Value
  | none => .nilIface
  | some c => .iface 0 (.int .i64 c)
theorem errW_none : errW none = .nilIface := rfl
theorem errW_some (c : Int) : errW (some c) = .iface 0 (.int .i64 c) := rfl

-- the values' own types

theorem bne_nil_ (l : List UInt8) : (l != ([] : List UInt8)) = !l.isEmpty := by cases l <;> rfl
theorem emp_toList_ : (⟨#[]⟩ : ByteArray).toList = ([] : List UInt8) := by rw [ByteArray.toList_eq]
theorem one_size_ (b : UInt8) : (⟨#[b]⟩ : ByteArray).size = 1 := rfl
theorem bl_flip : ∀ a b : List UInt8, (!(Op.bytesLess a b || a == b)) = Op.bytesLess b a
  | [], [] => by simp [Op.bytesLess]
  | [], _ :: _ => by simp [Op.bytesLess]
  | _ :: _, [] => by simp [Op.bytesLess]
  | a :: x, b :: y => by
    have ih := bl_flip x y
    simp only [Op.bytesLess]
    rcases Nat.lt_trichotomy a.toNat b.toNat with h | h | h
    · have h1 : a < b := UInt8.lt_iff_toNat_lt.mpr h
      have h2 : ¬ b < a := fun e => by have := UInt8.lt_iff_toNat_lt.mp e; omega
      have h3 : ¬ b = a := fun e => by subst e; omega
      simp [h1, h2, h3]
    · have h1 : a = b := UInt8.toNat_inj.mp h
      subst h1
      rw [← ih]
      simp
    · have h1 : b < a := UInt8.lt_iff_toNat_lt.mpr h
      have h2 : ¬ a < b := fun e => by have := UInt8.lt_iff_toNat_lt.mp e; omega
      have h3 : ¬ a = b := fun e => by subst e; omega
      simp [h1, h2, h3]
@[go_sem] theorem str_gtr (t : TypeId) (a b : ByteArray) : binOp .gtr t (.string a) (.string b) = pure (.bool (Op.bytesLess b.toList a.toList)) := by
  rw [← bl_flip]
  simp [binOp, Op.stringOp]
@[go_sem] theorem str_leq (t : TypeId) (a b : ByteArray) : binOp .leq t (.string a) (.string b) = pure (.bool !(Op.bytesLess b.toList a.toList)) := by
  rw [← bl_flip]
  simp [binOp, Op.stringOp]
@[go_sem] theorem str_geq (t : TypeId) (a b : ByteArray) : binOp .geq t (.string a) (.string b) = pure (.bool !(Op.bytesLess a.toList b.toList)) := by simp [binOp, Op.stringOp]

end Go.Proofs.Ytioafkmgonmogaa.PFnExactCallOk
