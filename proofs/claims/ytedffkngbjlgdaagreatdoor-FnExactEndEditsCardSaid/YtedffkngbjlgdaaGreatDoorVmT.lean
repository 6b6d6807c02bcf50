/- The table of the types that this seat's functions use, checked by computing. -/
import Derived.Test.YtedffkngbjlgdaaGreatDoorVm9a
import Derived.Test.YtedffkngbjlgdaaGreatDoorRows
import Derived.KernelRfl
namespace Go.Vm
/-- The types. -/
def tab : Tab := [(3, ⟨1, 8, false, [.int .i64 0], .int .i64, true, []⟩),
  (9, ⟨1, 16, false, [.string ⟨#[]⟩], .string, true, []⟩),
  (69, ⟨2, 32, true, [.string ⟨#[]⟩, .string ⟨#[]⟩], .struct [(9, 0, 1, false), (9, 1, 1, false)], true, [.string, .string]⟩),
  (115, ⟨3, 56, true, [.bool false, .slice none 0 0, .slice none 0 0], .struct [(4, 0, 1, false), (57, 1, 1, false), (113, 2, 1, false)], false, []⟩),
  (57, ⟨1, 24, false, [.slice none 0 0], .slice 69, false, []⟩),
  (64, ⟨5, 72, true, [.int .i64 0, .string ⟨#[]⟩, .string ⟨#[]⟩, .string ⟨#[]⟩, .string ⟨#[]⟩], .struct [(3, 0, 1, false), (9, 1, 1, false), (9, 2, 1, false), (62, 3, 2, true)], true, [.int .i64, .string, .string, .string, .string]⟩),
  (34, ⟨3, 24, true, [.int .i64 0, .int .i64 0, .int .i64 0], .struct [(3, 0, 1, false), (3, 1, 1, false), (3, 2, 1, false)], true, [.int .i64, .int .i64, .int .i64]⟩),
  (5, ⟨1, 1, false, [.int .u8 0], .int .u8, true, []⟩),
  (32, ⟨1, 24, true, [.slice none 0 0], .struct [(30, 0, 1, false)], false, []⟩),
  (49, ⟨4, 48, true, [.int .i64 0, .int .i64 0, .int .i64 0, .slice none 0 0], .struct [(34, 0, 3, true), (47, 3, 1, false)], false, []⟩),
  (66, ⟨3, 40, true, [.string ⟨#[]⟩, .string ⟨#[]⟩, .bool false], .struct [(9, 0, 1, false), (9, 1, 1, false), (4, 2, 1, false)], true, [.string, .string, .bool]⟩),
  (127, ⟨3, 72, true, [.slice none 0 0, .slice none 0 0, .slice none 0 0], .struct [(57, 0, 1, false), (109, 1, 1, false), (110, 2, 1, false)], false, []⟩),
  (92, ⟨1, 8, false, [.pointer none], .pointer 158, false, []⟩),
  (156, ⟨1, 24, false, [.slice none 0 0], .slice 92, false, []⟩),
  (113, ⟨1, 24, false, [.slice none 0 0], .slice 115, false, []⟩),
  (79, ⟨10, 120, true, [.string ⟨#[]⟩, .int .i64 0, .int .i64 0, .int .i64 0, .int .i64 0, .int .i64 0, .string ⟨#[]⟩, .string ⟨#[]⟩, .string ⟨#[]⟩, .string ⟨#[]⟩], .struct [(9, 0, 1, false), (34, 1, 3, true), (3, 4, 1, false), (64, 5, 5, true)], true, [.string, .int .i64, .int .i64, .int .i64, .int .i64, .int .i64, .string, .string, .string, .string]⟩),
  (109, ⟨1, 24, false, [.slice none 0 0], .slice 9, false, []⟩),
  (62, ⟨2, 32, true, [.string ⟨#[]⟩, .string ⟨#[]⟩], .struct [(9, 0, 1, false), (9, 1, 1, false)], true, [.string, .string]⟩),
  (46, ⟨1, 24, false, [.slice none 0 0], .slice 5, false, []⟩),
  (47, ⟨1, 24, false, [.slice none 0 0], .slice 64, false, []⟩),
  (158, ⟨2, 48, true, [.slice none 0 0, .slice none 0 0], .struct [(57, 0, 1, false), (156, 1, 1, false)], false, []⟩),
  (30, ⟨1, 24, false, [.slice none 0 0], .slice 127, false, []⟩),
  (110, ⟨1, 24, false, [.slice none 0 0], .slice 3, false, []⟩),
  (28, ⟨1, 24, false, [.slice none 0 0], .slice 66, false, []⟩),
  (41, ⟨1, 24, false, [.slice none 0 0], .slice 49, false, []⟩),
  (76, ⟨1, 24, false, [.slice none 0 0], .slice 79, false, []⟩),
  (230, ⟨1, 4, false, [.int .u32 0], .int .u32, true, []⟩),
  (21, ⟨1, 4, false, [.int .i32 0], .int .i32, true, []⟩),
  (4, ⟨1, 1, false, [.bool false], .bool, true, []⟩),
  (112, ⟨3, 72, true, [.slice none 0 0, .slice none 0 0, .slice none 0 0], .struct [(108, 0, 1, false), (109, 1, 1, false), (110, 2, 1, false)], false, []⟩),
  (24, ⟨1, 24, true, [.slice none 0 0], .struct [(22, 0, 1, false)], false, []⟩),
  (205, ⟨2, 32, true, [.string ⟨#[]⟩, .string ⟨#[]⟩], .struct [(9, 0, 1, false), (9, 1, 1, false)], true, [.string, .string]⟩),
  (219, ⟨1, 8, false, [.int .u64 0], .int .u64, true, []⟩),
  (144, ⟨3, 40, true, [.slice none 0 0, .int .i64 0, .int .i64 0], .struct [(46, 0, 1, false), (3, 1, 1, false), (3, 2, 1, false)], false, []⟩),
  (26, ⟨3, 24, true, [.int .i64 0, .int .i64 0, .int .i64 0], .struct [(3, 0, 1, false), (3, 1, 1, false), (3, 2, 1, false)], true, [.int .i64, .int .i64, .int .i64]⟩),
  (22, ⟨1, 24, false, [.slice none 0 0], .slice 112, false, []⟩),
  (108, ⟨1, 24, false, [.slice none 0 0], .slice 205, false, []⟩),
  (216, ⟨3, 40, true, [.slice none 0 0, .int .i64 0, .bool false], .struct [(46, 0, 1, false), (3, 1, 1, false), (4, 2, 1, false)], false, []⟩),
  (243, ⟨2, 2, true, [.int .u8 0, .int .u8 0], .struct [(5, 0, 1, false), (5, 1, 1, false)], true, [.int .u8, .int .u8]⟩)]
theorem tab_ok : TOk Proofs.Tryz.prog tab := tabB_ok (by kernel_rfl)
theorem mixed : Proofs.Tryz.prog.follows .mixedOrders = true := by kernel_rfl
end Go.Vm
