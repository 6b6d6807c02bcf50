/- The table of the types that this seat's functions use, checked by computing. -/
import Derived.Test.YtedffkngbjlgdaaDoorVm9a
import Derived.Test.YtedffkngbjlgdaaDoorRows
import Derived.KernelRfl
namespace Go.Vm
/-- The types. -/
def tab : Tab := [(3, ⟨1, 8, false, [.int .i64 0], .int .i64, true, []⟩),
  (9, ⟨1, 16, false, [.string ⟨#[]⟩], .string, true, []⟩),
  (55, ⟨2, 32, true, [.string ⟨#[]⟩, .string ⟨#[]⟩], .struct [(9, 0, 1, false), (9, 1, 1, false)], true, [.string, .string]⟩),
  (63, ⟨3, 72, true, [.slice none 0 0, .slice none 0 0, .slice none 0 0], .struct [(44, 0, 1, false), (49, 1, 1, false), (50, 2, 1, false)], false, []⟩),
  (76, ⟨3, 56, true, [.bool false, .slice none 0 0, .slice none 0 0], .struct [(4, 0, 1, false), (44, 1, 1, false), (74, 2, 1, false)], false, []⟩),
  (27, ⟨3, 24, true, [.int .i64 0, .int .i64 0, .int .i64 0], .struct [(3, 0, 1, false), (3, 1, 1, false), (3, 2, 1, false)], true, [.int .i64, .int .i64, .int .i64]⟩),
  (44, ⟨1, 24, false, [.slice none 0 0], .slice 55, false, []⟩),
  (5, ⟨1, 1, false, [.int .u8 0], .int .u8, true, []⟩),
  (49, ⟨1, 24, false, [.slice none 0 0], .slice 9, false, []⟩),
  (50, ⟨1, 24, false, [.slice none 0 0], .slice 3, false, []⟩),
  (29, ⟨1, 24, false, [.slice none 0 0], .slice 63, false, []⟩),
  (31, ⟨1, 24, true, [.slice none 0 0], .struct [(29, 0, 1, false)], false, []⟩),
  (74, ⟨1, 24, false, [.slice none 0 0], .slice 76, false, []⟩),
  (21, ⟨1, 4, false, [.int .i32 0], .int .i32, true, []⟩),
  (52, ⟨3, 72, true, [.slice none 0 0, .slice none 0 0, .slice none 0 0], .struct [(48, 0, 1, false), (49, 1, 1, false), (50, 2, 1, false)], false, []⟩),
  (94, ⟨2, 32, true, [.string ⟨#[]⟩, .string ⟨#[]⟩], .struct [(9, 0, 1, false), (9, 1, 1, false)], true, [.string, .string]⟩),
  (123, ⟨1, 4, false, [.int .u32 0], .int .u32, true, []⟩),
  (65, ⟨1, 8, false, [.pointer none], .pointer 105, false, []⟩),
  (103, ⟨1, 24, false, [.slice none 0 0], .slice 65, false, []⟩),
  (105, ⟨2, 48, true, [.slice none 0 0, .slice none 0 0], .struct [(44, 0, 1, false), (103, 1, 1, false)], false, []⟩),
  (24, ⟨1, 24, true, [.slice none 0 0], .struct [(22, 0, 1, false)], false, []⟩),
  (22, ⟨1, 24, false, [.slice none 0 0], .slice 52, false, []⟩),
  (57, ⟨1, 24, false, [.slice none 0 0], .slice 5, false, []⟩),
  (48, ⟨1, 24, false, [.slice none 0 0], .slice 94, false, []⟩),
  (121, ⟨2, 2, true, [.int .u8 0, .int .u8 0], .struct [(5, 0, 1, false), (5, 1, 1, false)], true, [.int .u8, .int .u8]⟩),
  (4, ⟨1, 1, false, [.bool false], .bool, true, []⟩)]
theorem tab_ok : TOk Proofs.Tryd.prog tab := tabB_ok (by kernel_rfl)
theorem mixed : Proofs.Tryd.prog.follows .mixedOrders = true := by kernel_rfl
end Go.Vm
