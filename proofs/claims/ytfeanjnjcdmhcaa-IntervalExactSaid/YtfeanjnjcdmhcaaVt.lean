/- The types that the program uses, as a table. Definitions alone; no conditions. -/
import Derived.Test.YtfeanjnjcdmhcaaVy
import Derived.Test.YtfeanjnjcdmhcaaRows
import Derived.KernelRfl
set_option linter.unusedVariables false
namespace Go.Proofs.Ytfeanjnjcdmhcaa.VC
open Go
def tab : List (Nat × Option TI) := [
  (1, some ⟨.func, 1, 8, .nilFunc, none⟩),
  (2, some ⟨(.int .i64), 1, 8, (.int .i64 0), (some (.int .i64))⟩),
  (3, some ⟨(.int .i64), 1, 8, (.int .i64 0), (some (.int .i64))⟩),
  (4, some ⟨.bool, 1, 1, (.bool false), (some .bool)⟩),
  (5, some ⟨(.int .u8), 1, 1, (.int .u8 0), (some (.int .u8))⟩),
  (6, some ⟨(.int .u8), 1, 1, (.int .u8 0), (some (.int .u8))⟩),
  (7, some ⟨(.struct [(2, 0), (3, 1), (4, 2), (6, 3)]), 4, 24, (.agg #[(.int .i64 0), (.int .i64 0), (.bool false), (.int .u8 0)]), (some (.pair (.int .i64) (.pair (.int .i64) (.pair .bool (.int .u8)))))⟩),
  (8, some ⟨(.struct [(2, 0), (3, 1), (4, 2), (6, 3)]), 4, 24, (.agg #[(.int .i64 0), (.int .i64 0), (.bool false), (.int .u8 0)]), (some (.pair (.int .i64) (.pair (.int .i64) (.pair .bool (.int .u8)))))⟩),
  (12, some ⟨(.int .u64), 1, 8, (.int .u64 0), (some (.int .u64))⟩),
  (15, some ⟨(.ptr 69), 1, 8, (.pointer none), none⟩),
  (16, some ⟨(.ptr 72), 1, 8, (.pointer none), none⟩),
  (17, some ⟨(.ptr 82), 1, 8, (.pointer none), none⟩),
  (18, some ⟨(.struct [(17, 0)]), 1, 8, (.agg #[(.pointer none)]), none⟩),
  (19, some ⟨(.struct [(17, 0)]), 1, 8, (.agg #[(.pointer none)]), none⟩),
  (21, some ⟨(.int .i32), 1, 4, (.int .i32 0), (some (.int .i32))⟩),
  (22, some ⟨.func, 1, 8, .nilFunc, none⟩),
  (23, some ⟨(.slice 28), 1, 24, (.slice none 0 0), (some (.slice (.pair (.int .i64) (.pair (.int .i64) (.pair (.int .i64) (.pair (.slice (.int .i64)) (.pair (.pair (.int .i64) (.int .i64)) (.pair (.int .i64) (.int .i64)))))))))⟩),
  (24, some ⟨(.slice 2), 1, 24, (.slice none 0 0), (some (.slice (.int .i64)))⟩),
  (25, some ⟨(.struct [(2, 0), (2, 1)]), 2, 16, (.agg #[(.int .i64 0), (.int .i64 0)]), (some (.pair (.int .i64) (.int .i64)))⟩),
  (26, some ⟨(.struct [(2, 0), (2, 1)]), 2, 16, (.agg #[(.int .i64 0), (.int .i64 0)]), (some (.pair (.int .i64) (.int .i64)))⟩),
  (27, some ⟨(.struct [(3, 0), (2, 1), (2, 2), (24, 3), (26, 4), (26, 6)]), 8, 80, (.agg #[(.int .i64 0), (.int .i64 0), (.int .i64 0), (.slice none 0 0), (.int .i64 0), (.int .i64 0), (.int .i64 0), (.int .i64 0)]), (some (.pair (.int .i64) (.pair (.int .i64) (.pair (.int .i64) (.pair (.slice (.int .i64)) (.pair (.pair (.int .i64) (.int .i64)) (.pair (.int .i64) (.int .i64))))))))⟩),
  (28, some ⟨(.struct [(3, 0), (2, 1), (2, 2), (24, 3), (26, 4), (26, 6)]), 8, 80, (.agg #[(.int .i64 0), (.int .i64 0), (.int .i64 0), (.slice none 0 0), (.int .i64 0), (.int .i64 0), (.int .i64 0), (.int .i64 0)]), (some (.pair (.int .i64) (.pair (.int .i64) (.pair (.int .i64) (.pair (.slice (.int .i64)) (.pair (.pair (.int .i64) (.int .i64)) (.pair (.int .i64) (.int .i64))))))))⟩),
  (29, some ⟨.func, 1, 8, .nilFunc, none⟩),
  (30, some ⟨.func, 1, 8, .nilFunc, none⟩),
  (31, some ⟨.func, 1, 8, .nilFunc, none⟩),
  (32, some ⟨(.int .i64), 1, 8, (.int .i64 0), (some (.int .i64))⟩),
  (34, some ⟨.func, 1, 8, .nilFunc, none⟩),
  (35, some ⟨.func, 1, 8, .nilFunc, none⟩),
  (36, some ⟨.func, 1, 8, .nilFunc, none⟩),
  (37, some ⟨.func, 1, 8, .nilFunc, none⟩),
  (38, some ⟨.func, 1, 8, .nilFunc, none⟩),
  (39, some ⟨.func, 1, 8, .nilFunc, none⟩),
  (40, some ⟨.func, 1, 8, .nilFunc, none⟩),
  (42, some ⟨.func, 1, 8, .nilFunc, none⟩),
  (43, some ⟨.func, 1, 8, .nilFunc, none⟩),
  (44, some ⟨(.int .u64), 1, 8, (.int .u64 0), (some (.int .u64))⟩),
  (45, some ⟨(.int .u64), 1, 8, (.int .u64 0), (some (.int .u64))⟩),
  (46, some ⟨.func, 1, 8, .nilFunc, none⟩),
  (47, some ⟨.func, 1, 8, .nilFunc, none⟩),
  (48, some ⟨.func, 1, 8, .nilFunc, none⟩),
  (49, some ⟨.func, 1, 8, .nilFunc, none⟩),
  (50, some ⟨.func, 1, 8, .nilFunc, none⟩),
  (52, some ⟨.func, 1, 8, .nilFunc, none⟩),
  (53, some ⟨.func, 1, 8, .nilFunc, none⟩),
  (54, some ⟨.func, 1, 8, .nilFunc, none⟩),
  (55, some ⟨.func, 1, 8, .nilFunc, none⟩),
  (56, some ⟨(.struct [(2, 0), (44, 1)]), 2, 16, (.agg #[(.int .i64 0), (.int .u64 0)]), (some (.pair (.int .i64) (.int .u64)))⟩),
  (57, some ⟨(.struct [(2, 0), (44, 1)]), 2, 16, (.agg #[(.int .i64 0), (.int .u64 0)]), (some (.pair (.int .i64) (.int .u64)))⟩),
  (58, some ⟨.func, 1, 8, .nilFunc, none⟩),
  (59, some ⟨.func, 1, 8, .nilFunc, none⟩),
  (60, some ⟨.func, 1, 8, .nilFunc, none⟩),
  (61, some ⟨.func, 1, 8, .nilFunc, none⟩),
  (63, some ⟨.func, 1, 8, .nilFunc, none⟩),
  (65, some ⟨.func, 1, 8, .nilFunc, none⟩),
  (66, some ⟨.func, 1, 8, .nilFunc, none⟩),
  (67, some ⟨.func, 1, 8, .nilFunc, none⟩),
  (70, some ⟨(.array 0 16), 0, 0, (.agg #[]), none⟩),
  (71, some ⟨(.struct [(70, 0)]), 0, 0, (.agg #[]), none⟩),
  (72, some ⟨(.struct [(70, 0)]), 0, 0, (.agg #[]), none⟩),
  (73, some ⟨.func, 1, 8, .nilFunc, none⟩),
  (74, some ⟨(.int .u32), 1, 4, (.int .u32 0), (some (.int .u32))⟩),
  (75, some ⟨(.int .u8), 1, 1, (.int .u8 0), (some (.int .u8))⟩),
  (76, some ⟨(.int .u8), 1, 1, (.int .u8 0), (some (.int .u8))⟩),
  (77, some ⟨.func, 1, 8, .nilFunc, none⟩),
  (78, some ⟨(.ptr 5), 1, 8, (.pointer none), none⟩),
  (79, some ⟨(.int .i32), 1, 4, (.int .i32 0), (some (.int .i32))⟩),
  (80, some ⟨(.int .i32), 1, 4, (.int .i32 0), (some (.int .i32))⟩),
  (81, some ⟨(.struct [(12, 0), (12, 1), (74, 2), (75, 3), (5, 4), (5, 5), (76, 6), (77, 7), (78, 8), (79, 9), (80, 10)]), 11, 48, (.agg #[(.int .u64 0), (.int .u64 0), (.int .u32 0), (.int .u8 0), (.int .u8 0), (.int .u8 0), (.int .u8 0), .nilFunc, (.pointer none), (.int .i32 0), (.int .i32 0)]), none⟩),
  (82, some ⟨(.struct [(12, 0), (12, 1), (74, 2), (75, 3), (5, 4), (5, 5), (76, 6), (77, 7), (78, 8), (79, 9), (80, 10)]), 11, 48, (.agg #[(.int .u64 0), (.int .u64 0), (.int .u32 0), (.int .u8 0), (.int .u8 0), (.int .u8 0), (.int .u8 0), .nilFunc, (.pointer none), (.int .i32 0), (.int .i32 0)]), none⟩)]
def eqs : List (Nat × Option (List EF)) := [
  (8, some [.int .i64, .int .i64, .bool, .int .u8]),
  (26, some [.int .i64, .int .i64]),
  (57, some [.int .i64, .int .u64])]
def TT : TypeId → Option TI := look none tab
def EQ : TypeId → Option (List EF) := look none eqs
set_option maxRecDepth 100000 in
theorem tabOk : TabOk Try.prog TT EQ := tab_ok (by kernel_rfl) (by kernel_rfl) (by kernel_rfl)
theorem mixed : Try.prog.follows .mixedOrders = true := by kernel_rfl
end Go.Proofs.Ytfeanjnjcdmhcaa.VC
