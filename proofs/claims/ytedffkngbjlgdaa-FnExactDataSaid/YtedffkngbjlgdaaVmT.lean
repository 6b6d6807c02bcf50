/- The table of the types that this seat's functions use, checked by computing. -/
import Derived.Test.YtedffkngbjlgdaaVm9a
import Derived.Test.YtedffkngbjlgdaaRows
import Derived.KernelRfl
namespace Go.Vm
/-- The types. -/
def tab : Tab := [(3, ⟨1, 8, false, [.int .i64 0], .int .i64, true, []⟩),
  (57, ⟨2, 32, true, [.string ⟨#[]⟩, .string ⟨#[]⟩], .struct [(9, 0, 1, false), (9, 1, 1, false)], true, [.string, .string]⟩),
  (52, ⟨3, 56, true, [.bool false, .slice none 0 0, .slice none 0 0], .struct [(4, 0, 1, false), (37, 1, 1, false), (50, 2, 1, false)], false, []⟩),
  (37, ⟨1, 24, false, [.slice none 0 0], .slice 57, false, []⟩),
  (9, ⟨1, 16, false, [.string ⟨#[]⟩], .string, true, []⟩),
  (28, ⟨1, 24, true, [.slice none 0 0], .struct [(26, 0, 1, false)], false, []⟩),
  (95, ⟨3, 72, true, [.slice none 0 0, .slice none 0 0, .slice none 0 0], .struct [(37, 0, 1, false), (85, 1, 1, false), (86, 2, 1, false)], false, []⟩),
  (61, ⟨1, 8, false, [.pointer none], .pointer 107, false, []⟩),
  (105, ⟨1, 24, false, [.slice none 0 0], .slice 61, false, []⟩),
  (73, ⟨3, 40, true, [.string ⟨#[]⟩, .string ⟨#[]⟩, .bool false], .struct [(9, 0, 1, false), (9, 1, 1, false), (4, 2, 1, false)], true, [.string, .string, .bool]⟩),
  (50, ⟨1, 24, false, [.slice none 0 0], .slice 52, false, []⟩),
  (107, ⟨2, 48, true, [.slice none 0 0, .slice none 0 0], .struct [(37, 0, 1, false), (105, 1, 1, false)], false, []⟩),
  (26, ⟨1, 24, false, [.slice none 0 0], .slice 95, false, []⟩),
  (86, ⟨1, 24, false, [.slice none 0 0], .slice 3, false, []⟩),
  (85, ⟨1, 24, false, [.slice none 0 0], .slice 9, false, []⟩),
  (4, ⟨1, 1, false, [.bool false], .bool, true, []⟩),
  (39, ⟨1, 24, false, [.slice none 0 0], .slice 73, false, []⟩),
  (24, ⟨1, 24, true, [.slice none 0 0], .struct [(22, 0, 1, false)], false, []⟩),
  (88, ⟨3, 72, true, [.slice none 0 0, .slice none 0 0, .slice none 0 0], .struct [(84, 0, 1, false), (85, 1, 1, false), (86, 2, 1, false)], false, []⟩),
  (140, ⟨2, 32, true, [.string ⟨#[]⟩, .string ⟨#[]⟩], .struct [(9, 0, 1, false), (9, 1, 1, false)], true, [.string, .string]⟩),
  (71, ⟨3, 40, true, [.string ⟨#[]⟩, .string ⟨#[]⟩, .bool false], .struct [(9, 0, 1, false), (9, 1, 1, false), (4, 2, 1, false)], true, [.string, .string, .bool]⟩),
  (22, ⟨1, 24, false, [.slice none 0 0], .slice 88, false, []⟩),
  (84, ⟨1, 24, false, [.slice none 0 0], .slice 140, false, []⟩),
  (35, ⟨1, 24, false, [.slice none 0 0], .slice 71, false, []⟩),
  (5, ⟨1, 1, false, [.int .u8 0], .int .u8, true, []⟩),
  (146, ⟨1, 8, false, [.int .u64 0], .int .u64, true, []⟩),
  (116, ⟨1, 24, false, [.slice none 0 0], .slice 5, false, []⟩)]
theorem tab_ok : TOk Proofs.Try.prog tab := tabB_ok (by kernel_rfl)
theorem mixed : Proofs.Try.prog.follows .mixedOrders = true := by kernel_rfl
end Go.Vm
