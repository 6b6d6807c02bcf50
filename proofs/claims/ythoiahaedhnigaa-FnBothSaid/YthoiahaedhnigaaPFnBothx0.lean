/- Printed by a program of this session (a patched copy of the kit's print): for each Go function one Lean function, and the proof that the call comes to just its answer. -/
import Derived.Test.YthoiahaedhnigaaProg
import Derived.Below
import Derived.Deep.Draws
import Derived.Deep.AppendLies
import Derived.Maps.AppendAt
import Derived.OwnWalk
import Derived.Laws.BytesArg
import Derived.Laws.MakeOwn
import Derived.Laws.OwnMore
import Derived.Deep.OwnRows
import Derived.Tactics
import Derived.Lib.ConvBytes
import Derived.Laws.Slices
import Derived.WalkKit
import Derived.KernelRfl
import Derived.RowKit3
import Derived.Deep.LoopGhost
import Derived.Deep.QuietTactic
import Derived.BigQuiet
import Derived.WideLaws
import Derived.Deep.DeepCutAuto
import Derived.Deep.CutBlock
import Derived.Deep.RegionHeld3
import Derived.Laws.Rows
import Derived.Lib.AppendStr
import Derived.ArgAppend
import Derived.Laws.IdiomCopy
import Derived.OrdersHeld
import Derived.Laws.BitsLemmas
import Derived.RowKit
import Derived.Test.YthoiahaedhnigaaWWords
import Derived.Test.YthoiahaedhnigaaWLast
import Derived.Test.YthoiahaedhnigaaWTab
import Derived.Test.YthoiahaedhnigaaWFour
import Derived.Test.YthoiahaedhnigaaWQPut
import Derived.Test.YthoiahaedhnigaaWApart
import Derived.Test.YthoiahaedhnigaaWArr
import Derived.Test.YthoiahaedhnigaaWZeros
import Derived.Test.YthoiahaedhnigaaWFoot
import Derived.Test.YthoiahaedhnigaaWKept
import Derived.Test.YthoiahaedhnigaaWShare
import Derived.Test.YthoiahaedhnigaaWN
import Derived.Test.YthoiahaedhnigaaWFootNe
import Derived.Test.YthoiahaedhnigaaWAt
import Derived.Test.YthoiahaedhnigaaWEqStruct
import Derived.Test.YthoiahaedhnigaaWRepsOne
import Derived.Test.YthoiahaedhnigaaWInv
import Derived.Test.YthoiahaedhnigaaWInvWords
import Derived.Test.YthoiahaedhnigaaWGuard
import Derived.Test.YthoiahaedhnigaaWNEv
import Derived.Test.YthoiahaedhnigaaWMore
namespace Go.Proofs.Ythoiahaedhnigaa.PFnBoth
open Go.RowKit Go.Proofs.YthoiahaedhnigaaW.PrintWords Go.Proofs.YthoiahaedhnigaaW.PrintLast Go.Proofs.YthoiahaedhnigaaW.PrintMore
attribute [local go_sem] max2_int min2_int max_two min_two max_three min_three max_four min_four   -- for this text's walks alone
set_option linter.unusedVariables false
set_option linter.unusedSimpArgs false



def errW : Option Int → Value
  | none => .nilIface
  | some c => .iface 0 (.int .i64 c)
theorem errW_none : errW none = .nilIface := rfl
theorem errW_some (c : Int) : errW (some c) = .iface 0 (.int .i64 c) := rfl

theorem info5 : (Try.prog.info? 5).map (fun i => (i.zero, i.size, i.bytes)) = some (some (.int .u8 0), 1, 1) := by kernel_rfl
theorem info9 : (Try.prog.info? 9).map (fun i => (i.zero, i.size, i.bytes)) = some (some (.string ⟨#[]⟩), 1, 16) := by kernel_rfl
-- the values' own types

theorem bne_nil_ (l : List UInt8) : (l != ([] : List UInt8)) = !l.isEmpty := by cases l <;> rfl
theorem emp_toList_ : (⟨#[]⟩ : ByteArray).toList = ([] : List UInt8) := by rw [ByteArray.toList_eq]
theorem one_size_ (b : UInt8) : (⟨#[b]⟩ : ByteArray).size = 1 := rfl
theorem bl_flip : ∀ a b : List UInt8, (!(Op.bytesLess a b || a == b)) = Op.bytesLess b a
  | [], [] => by simp [Op.bytesLess]
  | [], _ :: _ => by simp [Op.bytesLess]
  | _ :: _, [] => by simp [Op.bytesLess]
  | a :: x, b :: y => by
    have ih := bl_flip x y
    simp only [Op.bytesLess]
    rcases Nat.lt_trichotomy a.toNat b.toNat with h | h | h
    · have h1 : a < b := UInt8.lt_iff_toNat_lt.mpr h
      have h2 : ¬ b < a := fun e => by have := UInt8.lt_iff_toNat_lt.mp e; omega
      have h3 : ¬ b = a := fun e => by subst e; omega
      simp [h1, h2, h3]
    · have h1 : a = b := UInt8.toNat_inj.mp h
      subst h1
      rw [← ih]
      simp
    · have h1 : b < a := UInt8.lt_iff_toNat_lt.mpr h
      have h2 : ¬ a < b := fun e => by have := UInt8.lt_iff_toNat_lt.mp e; omega
      have h3 : ¬ a = b := fun e => by subst e; omega
      simp [h1, h2, h3]
@[go_sem] theorem str_gtr (t : TypeId) (a b : ByteArray) : binOp .gtr t (.string a) (.string b) = pure (.bool (Op.bytesLess b.toList a.toList)) := by
  rw [← bl_flip]
  simp [binOp, Op.stringOp]
@[go_sem] theorem str_leq (t : TypeId) (a b : ByteArray) : binOp .leq t (.string a) (.string b) = pure (.bool !(Op.bytesLess b.toList a.toList)) := by
  rw [← bl_flip]
  simp [binOp, Op.stringOp]
@[go_sem] theorem str_geq (t : TypeId) (a b : ByteArray) : binOp .geq t (.string a) (.string b) = pure (.bool !(Op.bytesLess a.toList b.toList)) := by simp [binOp, Op.stringOp]

/-- max of two texts. -/
def smx (a b : ByteArray) : ByteArray := if Op.bytesLess a.toList b.toList = true then b else a
@[go_sem] theorem max2_str (x y : ByteArray) : Builtin.max2 (.string x) (.string y) = pure (.string (smx x y)) := by
  have e := bl_flip x.toList y.toList
  cases h : Op.bytesLess x.toList y.toList with
  | true =>
    have h2 : Op.bytesLess y.toList x.toList = false := by rw [← e, h]; rfl
    simp [Builtin.max2, Op.stringOp, asBool, smx, h, h2]
  | false => cases g : (x.toList == y.toList) <;> simp [Builtin.max2, Op.stringOp, asBool, smx, h, g]

end Go.Proofs.Ythoiahaedhnigaa.PFnBoth
