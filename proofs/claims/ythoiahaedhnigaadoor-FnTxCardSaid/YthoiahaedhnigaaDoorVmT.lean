/- The table of the types that this seat's functions use, checked by computing. -/
import Derived.Test.YthoiahaedhnigaaDoorVm9a
import Derived.Test.YthoiahaedhnigaaDoorRows
import Derived.KernelRfl
namespace Go.Vm
/-- The types. -/
def tab : Tab := [(3, ⟨1, 8, false, [.int .i64 0], .int .i64, true, []⟩),
  (23, ⟨3, 24, true, [.int .i64 0, .int .i64 0, .int .i64 0], .struct [(3, 0, 1, false), (3, 1, 1, false), (3, 2, 1, false)], true, [.int .i64, .int .i64, .int .i64]⟩),
  (9, ⟨1, 16, false, [.string ⟨#[]⟩], .string, true, []⟩),
  (5, ⟨1, 1, false, [.int .u8 0], .int .u8, true, []⟩),
  (21, ⟨1, 4, false, [.int .i32 0], .int .i32, true, []⟩),
  (35, ⟨1, 24, false, [.slice none 0 0], .slice 9, false, []⟩),
  (28, ⟨1, 24, false, [.slice none 0 0], .slice 5, false, []⟩),
  (63, ⟨1, 4, false, [.int .u32 0], .int .u32, true, []⟩),
  (34, ⟨1, 24, false, [.slice none 0 0], .slice 3, false, []⟩),
  (49, ⟨3, 40, true, [.slice none 0 0, .int .i64 0, .int .i64 0], .struct [(28, 0, 1, false), (3, 1, 1, false), (3, 2, 1, false)], false, []⟩),
  (4, ⟨1, 1, false, [.bool false], .bool, true, []⟩),
  (61, ⟨2, 2, true, [.int .u8 0, .int .u8 0], .struct [(5, 0, 1, false), (5, 1, 1, false)], true, [.int .u8, .int .u8]⟩)]
theorem tab_ok : TOk Proofs.Tryd.prog tab := tabB_ok (by kernel_rfl)
theorem mixed : Proofs.Tryd.prog.follows .mixedOrders = true := by kernel_rfl
end Go.Vm
