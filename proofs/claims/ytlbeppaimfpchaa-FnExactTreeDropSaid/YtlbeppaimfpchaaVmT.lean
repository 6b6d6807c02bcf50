/- The table of the types that this seat's functions use, checked by computing. -/
import Derived.Test.YtlbeppaimfpchaaVm9a
import Derived.Test.YtlbeppaimfpchaaRows
import Derived.KernelRfl
namespace Go.Vm
/-- The types. -/
def tab : Tab := [(3, ⟨1, 8, false, [.int .i64 0], .int .i64, true, []⟩),
  (88, ⟨2, 32, true, [.string ⟨#[]⟩, .string ⟨#[]⟩], .struct [(9, 0, 1, false), (9, 1, 1, false)], true, [.string, .string]⟩),
  (9, ⟨1, 16, false, [.string ⟨#[]⟩], .string, true, []⟩),
  (54, ⟨1, 24, false, [.slice none 0 0], .slice 88, false, []⟩),
  (56, ⟨17, 184, true, [.int .i64 0, .int .i64 0, .int .i64 0, .int .i64 0, .int .i64 0, .int .i64 0, .int .i64 0, .int .i64 0, .string ⟨#[]⟩, .string ⟨#[]⟩, .string ⟨#[]⟩, .string ⟨#[]⟩, .int .i64 0, .bool false, .int .i64 0, .slice none 0 0, .bool false], .struct [(3, 0, 1, false), (30, 1, 3, true), (3, 4, 1, false), (3, 5, 1, false), (3, 6, 1, false), (53, 7, 7, true), (3, 14, 1, false), (54, 15, 1, false), (4, 16, 1, false)], false, []⟩),
  (77, ⟨1, 24, true, [.slice none 0 0], .struct [(75, 0, 1, false)], false, []⟩),
  (170, ⟨3, 56, true, [.bool false, .slice none 0 0, .slice none 0 0], .struct [(4, 0, 1, false), (54, 1, 1, false), (168, 2, 1, false)], false, []⟩),
  (181, ⟨3, 72, true, [.slice none 0 0, .slice none 0 0, .slice none 0 0], .struct [(54, 0, 1, false), (129, 1, 1, false), (127, 2, 1, false)], false, []⟩),
  (51, ⟨2, 32, true, [.string ⟨#[]⟩, .string ⟨#[]⟩], .struct [(9, 0, 1, false), (9, 1, 1, false)], true, [.string, .string]⟩),
  (164, ⟨1, 8, false, [.pointer none], .pointer 221, false, []⟩),
  (53, ⟨7, 88, true, [.int .i64 0, .string ⟨#[]⟩, .string ⟨#[]⟩, .string ⟨#[]⟩, .string ⟨#[]⟩, .int .i64 0, .bool false], .struct [(3, 0, 1, false), (9, 1, 1, false), (9, 2, 1, false), (51, 3, 2, true), (3, 5, 1, false), (4, 6, 1, false)], true, [.int .i64, .string, .string, .string, .string, .int .i64, .bool]⟩),
  (5, ⟨1, 1, false, [.int .u8 0], .int .u8, true, []⟩),
  (113, ⟨5, 72, true, [.int .i64 0, .string ⟨#[]⟩, .string ⟨#[]⟩, .string ⟨#[]⟩, .string ⟨#[]⟩], .struct [(3, 0, 1, false), (9, 1, 1, false), (9, 2, 1, false), (51, 3, 2, true)], true, [.int .i64, .string, .string, .string, .string]⟩),
  (219, ⟨1, 24, false, [.slice none 0 0], .slice 164, false, []⟩),
  (127, ⟨1, 24, false, [.slice none 0 0], .slice 3, false, []⟩),
  (75, ⟨1, 24, false, [.slice none 0 0], .slice 181, false, []⟩),
  (48, ⟨1, 24, false, [.slice none 0 0], .slice 5, false, []⟩),
  (168, ⟨1, 24, false, [.slice none 0 0], .slice 170, false, []⟩),
  (30, ⟨3, 24, true, [.int .i64 0, .int .i64 0, .int .i64 0], .struct [(3, 0, 1, false), (3, 1, 1, false), (3, 2, 1, false)], true, [.int .i64, .int .i64, .int .i64]⟩),
  (129, ⟨1, 24, false, [.slice none 0 0], .slice 9, false, []⟩),
  (4, ⟨1, 1, false, [.bool false], .bool, true, []⟩),
  (221, ⟨2, 48, true, [.slice none 0 0, .slice none 0 0], .struct [(54, 0, 1, false), (219, 1, 1, false)], false, []⟩),
  (117, ⟨3, 40, true, [.string ⟨#[]⟩, .string ⟨#[]⟩, .bool false], .struct [(9, 0, 1, false), (9, 1, 1, false), (4, 2, 1, false)], true, [.string, .string, .bool]⟩),
  (33, ⟨4, 48, true, [.int .i64 0, .int .i64 0, .int .i64 0, .slice none 0 0], .struct [(30, 0, 3, true), (31, 3, 1, false)], false, []⟩),
  (31, ⟨1, 24, false, [.slice none 0 0], .slice 113, false, []⟩),
  (28, ⟨1, 24, false, [.slice none 0 0], .slice 117, false, []⟩),
  (46, ⟨17, 184, true, [.int .i64 0, .int .i64 0, .int .i64 0, .int .i64 0, .int .i64 0, .int .i64 0, .int .i64 0, .int .i64 0, .string ⟨#[]⟩, .string ⟨#[]⟩, .string ⟨#[]⟩, .string ⟨#[]⟩, .int .i64 0, .bool false, .int .i64 0, .slice none 0 0, .bool false], .struct [(3, 0, 1, false), (23, 1, 3, true), (3, 4, 1, false), (3, 5, 1, false), (3, 6, 1, false), (43, 7, 7, true), (3, 14, 1, false), (44, 15, 1, false), (4, 16, 1, false)], false, []⟩),
  (195, ⟨5, 72, true, [.int .i64 0, .string ⟨#[]⟩, .string ⟨#[]⟩, .string ⟨#[]⟩, .string ⟨#[]⟩], .struct [(3, 0, 1, false), (9, 1, 1, false), (9, 2, 1, false), (41, 3, 2, true)], true, [.int .i64, .string, .string, .string, .string]⟩),
  (188, ⟨2, 32, true, [.string ⟨#[]⟩, .string ⟨#[]⟩], .struct [(9, 0, 1, false), (9, 1, 1, false)], true, [.string, .string]⟩),
  (208, ⟨3, 72, true, [.slice none 0 0, .slice none 0 0, .slice none 0 0], .struct [(44, 0, 1, false), (129, 1, 1, false), (127, 2, 1, false)], false, []⟩),
  (71, ⟨1, 24, true, [.slice none 0 0], .struct [(69, 0, 1, false)], false, []⟩),
  (41, ⟨2, 32, true, [.string ⟨#[]⟩, .string ⟨#[]⟩], .struct [(9, 0, 1, false), (9, 1, 1, false)], true, [.string, .string]⟩),
  (142, ⟨3, 40, true, [.slice none 0 0, .int .i64 0, .bool false], .struct [(48, 0, 1, false), (3, 1, 1, false), (4, 2, 1, false)], false, []⟩),
  (43, ⟨7, 88, true, [.int .i64 0, .string ⟨#[]⟩, .string ⟨#[]⟩, .string ⟨#[]⟩, .string ⟨#[]⟩, .int .i64 0, .bool false], .struct [(3, 0, 1, false), (9, 1, 1, false), (9, 2, 1, false), (41, 3, 2, true), (3, 5, 1, false), (4, 6, 1, false)], true, [.int .i64, .string, .string, .string, .string, .int .i64, .bool]⟩),
  (203, ⟨3, 40, true, [.slice none 0 0, .int .i64 0, .int .i64 0], .struct [(48, 0, 1, false), (3, 1, 1, false), (3, 2, 1, false)], false, []⟩),
  (26, ⟨4, 48, true, [.int .i64 0, .int .i64 0, .int .i64 0, .slice none 0 0], .struct [(23, 0, 3, true), (24, 3, 1, false)], false, []⟩),
  (44, ⟨1, 24, false, [.slice none 0 0], .slice 188, false, []⟩),
  (24, ⟨1, 24, false, [.slice none 0 0], .slice 195, false, []⟩),
  (69, ⟨1, 24, false, [.slice none 0 0], .slice 208, false, []⟩),
  (23, ⟨3, 24, true, [.int .i64 0, .int .i64 0, .int .i64 0], .struct [(3, 0, 1, false), (3, 1, 1, false), (3, 2, 1, false)], true, [.int .i64, .int .i64, .int .i64]⟩)]
theorem tab_ok : TOk Proofs.Try.prog tab := tabB_ok (by kernel_rfl)
theorem mixed : Proofs.Try.prog.follows .mixedOrders = true := by kernel_rfl
end Go.Vm
