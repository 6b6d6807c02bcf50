/- The table of the types that this seat's functions use, checked by computing. -/
import Derived.Test.YthoiahaedhnigaaVm9a
import Derived.Test.YthoiahaedhnigaaRows
import Derived.KernelRfl
namespace Go.Vm
/-- The types. -/
def tab : Tab := [(3, ⟨1, 8, false, [.int .i64 0], .int .i64, true, []⟩),
  (110, ⟨6, 64, true, [.int .i64 0, .int .i64 0, .int .i64 0, .string ⟨#[]⟩, .string ⟨#[]⟩, .bool false], .struct [(41, 0, 3, true), (24, 3, 2, true), (4, 5, 1, false)], true, [.int .i64, .int .i64, .int .i64, .string, .string, .bool]⟩),
  (9, ⟨1, 16, false, [.string ⟨#[]⟩], .string, true, []⟩),
  (59, ⟨1, 24, false, [.slice none 0 0], .slice 110, false, []⟩),
  (61, ⟨2, 48, true, [.slice none 0 0, .slice none 0 0], .struct [(59, 0, 1, false), (59, 1, 1, false)], false, []⟩),
  (24, ⟨2, 32, true, [.string ⟨#[]⟩, .string ⟨#[]⟩], .struct [(9, 0, 1, false), (9, 1, 1, false)], true, [.string, .string]⟩),
  (97, ⟨17, 184, true, [.int .i64 0, .int .i64 0, .int .i64 0, .int .i64 0, .int .i64 0, .int .i64 0, .int .i64 0, .int .i64 0, .string ⟨#[]⟩, .string ⟨#[]⟩, .string ⟨#[]⟩, .string ⟨#[]⟩, .int .i64 0, .bool false, .int .i64 0, .slice none 0 0, .bool false], .struct [(3, 0, 1, false), (41, 1, 3, true), (3, 4, 1, false), (3, 5, 1, false), (3, 6, 1, false), (94, 7, 7, true), (3, 14, 1, false), (95, 15, 1, false), (4, 16, 1, false)], false, []⟩),
  (49, ⟨5, 72, true, [.int .i64 0, .string ⟨#[]⟩, .string ⟨#[]⟩, .string ⟨#[]⟩, .string ⟨#[]⟩], .struct [(3, 0, 1, false), (9, 1, 1, false), (9, 2, 1, false), (24, 3, 2, true)], true, [.int .i64, .string, .string, .string, .string]⟩),
  (41, ⟨3, 24, true, [.int .i64 0, .int .i64 0, .int .i64 0], .struct [(3, 0, 1, false), (3, 1, 1, false), (3, 2, 1, false)], true, [.int .i64, .int .i64, .int .i64]⟩),
  (5, ⟨1, 1, false, [.int .u8 0], .int .u8, true, []⟩),
  (94, ⟨7, 88, true, [.int .i64 0, .string ⟨#[]⟩, .string ⟨#[]⟩, .string ⟨#[]⟩, .string ⟨#[]⟩, .int .i64 0, .bool false], .struct [(3, 0, 1, false), (9, 1, 1, false), (9, 2, 1, false), (24, 3, 2, true), (3, 5, 1, false), (4, 6, 1, false)], true, [.int .i64, .string, .string, .string, .string, .int .i64, .bool]⟩),
  (22, ⟨1, 24, false, [.slice none 0 0], .slice 5, false, []⟩),
  (144, ⟨2, 32, true, [.string ⟨#[]⟩, .string ⟨#[]⟩], .struct [(9, 0, 1, false), (9, 1, 1, false)], true, [.string, .string]⟩),
  (4, ⟨1, 1, false, [.bool false], .bool, true, []⟩),
  (95, ⟨1, 24, false, [.slice none 0 0], .slice 144, false, []⟩),
  (56, ⟨2, 48, true, [.slice none 0 0, .slice none 0 0], .struct [(54, 0, 1, false), (54, 1, 1, false)], false, []⟩),
  (90, ⟨17, 184, true, [.int .i64 0, .int .i64 0, .int .i64 0, .int .i64 0, .int .i64 0, .int .i64 0, .int .i64 0, .int .i64 0, .string ⟨#[]⟩, .string ⟨#[]⟩, .string ⟨#[]⟩, .string ⟨#[]⟩, .int .i64 0, .bool false, .int .i64 0, .slice none 0 0, .bool false], .struct [(3, 0, 1, false), (35, 1, 3, true), (3, 4, 1, false), (3, 5, 1, false), (3, 6, 1, false), (87, 7, 7, true), (3, 14, 1, false), (88, 15, 1, false), (4, 16, 1, false)], false, []⟩),
  (169, ⟨6, 64, true, [.int .i64 0, .int .i64 0, .int .i64 0, .string ⟨#[]⟩, .string ⟨#[]⟩, .bool false], .struct [(35, 0, 3, true), (77, 3, 2, true), (4, 5, 1, false)], true, [.int .i64, .int .i64, .int .i64, .string, .string, .bool]⟩),
  (177, ⟨2, 32, true, [.string ⟨#[]⟩, .string ⟨#[]⟩], .struct [(9, 0, 1, false), (9, 1, 1, false)], true, [.string, .string]⟩),
  (77, ⟨2, 32, true, [.string ⟨#[]⟩, .string ⟨#[]⟩], .struct [(9, 0, 1, false), (9, 1, 1, false)], true, [.string, .string]⟩),
  (35, ⟨3, 24, true, [.int .i64 0, .int .i64 0, .int .i64 0], .struct [(3, 0, 1, false), (3, 1, 1, false), (3, 2, 1, false)], true, [.int .i64, .int .i64, .int .i64]⟩),
  (87, ⟨7, 88, true, [.int .i64 0, .string ⟨#[]⟩, .string ⟨#[]⟩, .string ⟨#[]⟩, .string ⟨#[]⟩, .int .i64 0, .bool false], .struct [(3, 0, 1, false), (9, 1, 1, false), (9, 2, 1, false), (77, 3, 2, true), (3, 5, 1, false), (4, 6, 1, false)], true, [.int .i64, .string, .string, .string, .string, .int .i64, .bool]⟩),
  (157, ⟨3, 40, true, [.slice none 0 0, .int .i64 0, .int .i64 0], .struct [(22, 0, 1, false), (3, 1, 1, false), (3, 2, 1, false)], false, []⟩),
  (65, ⟨1, 24, false, [.slice none 0 0], .slice 9, false, []⟩),
  (54, ⟨1, 24, false, [.slice none 0 0], .slice 169, false, []⟩),
  (126, ⟨3, 40, true, [.slice none 0 0, .int .i64 0, .bool false], .struct [(22, 0, 1, false), (3, 1, 1, false), (4, 2, 1, false)], false, []⟩),
  (88, ⟨1, 24, false, [.slice none 0 0], .slice 177, false, []⟩),
  (187, ⟨1, 24, false, [.slice none 0 0], .slice 3, false, []⟩),
  (171, ⟨1, 24, false, [.slice none 0 0], .slice 59, false, []⟩)]
theorem tab_ok : TOk Proofs.Try.prog tab := tabB_ok (by kernel_rfl)
theorem mixed : Proofs.Try.prog.follows .mixedOrders = true := by kernel_rfl
end Go.Vm
