/- The table of the seat's types: sizes, zero rows, fields. Printed by tab.py. -/
import Derived.Test.YtddfcajdelfikaaDoorVm33
import Derived.Test.YtddfcajdelfikaaDoorChecked
set_option maxRecDepth 100000
namespace Go.Proofs.YtddfcajdelfikaaDoor.Vm
open Go

def T : Tab := [
  (2, ⟨1, 8, .int .i64, [.int .i64 0], false⟩),
  (3, ⟨1, 8, .int .i64, [.int .i64 0], false⟩),
  (4, ⟨1, 1, .bool, [.bool false], false⟩),
  (5, ⟨1, 1, .int .u8, [.int .u8 0], false⟩),
  (6, ⟨1, 1, .int .u8, [.int .u8 0], false⟩),
  (7, ⟨4, 24, .struct [(0, 2), (1, 3), (2, 4), (3, 6)], [.int .i64 0, .int .i64 0, .bool false, .int .u8 0], false⟩),
  (8, ⟨4, 24, .struct [(0, 2), (1, 3), (2, 4), (3, 6)], [.int .i64 0, .int .i64 0, .bool false, .int .u8 0], false⟩),
  (9, ⟨1, 16, .str, [.str []], false⟩),
  (10, ⟨1, 16, .str, [.str []], false⟩),
  (11, ⟨1, 16, .str, [.str []], false⟩),
  (12, ⟨1, 8, .int .u64, [.int .u64 0], false⟩),
  (13, ⟨2, 24, .struct [(0, 9), (1, 12)], [.str [], .int .u64 0], false⟩),
  (14, ⟨2, 24, .struct [(0, 9), (1, 12)], [.str [], .int .u64 0], false⟩),
  (21, ⟨1, 4, .int .i32, [.int .i32 0], false⟩),
  (22, ⟨1, 24, .slice 3, [.sl true 1 0 []], false⟩),
  (23, ⟨2, 32, .struct [(0, 9), (1, 9)], [.str [], .str []], true⟩),
  (24, ⟨2, 32, .struct [(0, 9), (1, 9)], [.str [], .str []], true⟩),
  (25, ⟨7, 88, .struct [(0, 3), (1, 9), (2, 9), (3, 24), (5, 3), (6, 4)], [.int .i64 0, .str [], .str [], .str [], .str [], .int .i64 0, .bool false], true⟩),
  (26, ⟨7, 88, .struct [(0, 3), (1, 9), (2, 9), (3, 24), (5, 3), (6, 4)], [.int .i64 0, .str [], .str [], .str [], .str [], .int .i64 0, .bool false], true⟩),
  (27, ⟨8, 96, .struct [(0, 3), (1, 26)], [.int .i64 0, .int .i64 0, .str [], .str [], .str [], .str [], .int .i64 0, .bool false], true⟩),
  (28, ⟨8, 96, .struct [(0, 3), (1, 26)], [.int .i64 0, .int .i64 0, .str [], .str [], .str [], .str [], .int .i64 0, .bool false], true⟩),
  (29, ⟨12, 144, .struct [(0, 3), (1, 3), (2, 3), (3, 22), (4, 28)], [.int .i64 0, .int .i64 0, .int .i64 0, .sl true 1 0 [], .int .i64 0, .int .i64 0, .str [], .str [], .str [], .str [], .int .i64 0, .bool false], false⟩),
  (30, ⟨12, 144, .struct [(0, 3), (1, 3), (2, 3), (3, 22), (4, 28)], [.int .i64 0, .int .i64 0, .int .i64 0, .sl true 1 0 [], .int .i64 0, .int .i64 0, .str [], .str [], .str [], .str [], .int .i64 0, .bool false], false⟩),
  (36, ⟨1, 24, .slice 30, [.sl true 12 0 []], false⟩),
  (41, ⟨1, 24, .slice 9, [.sl true 1 0 []], false⟩),
  (66, ⟨1, 24, .slice 5, [.sl true 1 0 []], false⟩),
  (92, ⟨1, 8, .int .u64, [.int .u64 0], false⟩),
  (97, ⟨2, 2, .struct [(0, 5), (1, 5)], [.int .u8 0, .int .u8 0], true⟩),
  (98, ⟨2, 2, .struct [(0, 5), (1, 5)], [.int .u8 0, .int .u8 0], true⟩),
  (100, ⟨1, 4, .int .u32, [.int .u32 0], false⟩),
  (109, ⟨1, 1, .int .u8, [.int .u8 0], false⟩),
  (110, ⟨1, 1, .int .u8, [.int .u8 0], false⟩),
  (112, ⟨1, 4, .int .i32, [.int .i32 0], false⟩),
  (113, ⟨1, 4, .int .i32, [.int .i32 0], false⟩)]

theorem tabOk : TabOk Tryd.prog T := tabOk_of_chk (by kernel_rfl)

@[go_sem] theorem T_get2 : T.get 2 = some ⟨1, 8, .int .i64, [.int .i64 0], false⟩ := rfl
@[go_sem] theorem T_get3 : T.get 3 = some ⟨1, 8, .int .i64, [.int .i64 0], false⟩ := rfl
@[go_sem] theorem T_get4 : T.get 4 = some ⟨1, 1, .bool, [.bool false], false⟩ := rfl
@[go_sem] theorem T_get5 : T.get 5 = some ⟨1, 1, .int .u8, [.int .u8 0], false⟩ := rfl
@[go_sem] theorem T_get6 : T.get 6 = some ⟨1, 1, .int .u8, [.int .u8 0], false⟩ := rfl
@[go_sem] theorem T_get7 : T.get 7 = some ⟨4, 24, .struct [(0, 2), (1, 3), (2, 4), (3, 6)], [.int .i64 0, .int .i64 0, .bool false, .int .u8 0], false⟩ := rfl
@[go_sem] theorem T_get8 : T.get 8 = some ⟨4, 24, .struct [(0, 2), (1, 3), (2, 4), (3, 6)], [.int .i64 0, .int .i64 0, .bool false, .int .u8 0], false⟩ := rfl
@[go_sem] theorem T_get9 : T.get 9 = some ⟨1, 16, .str, [.str []], false⟩ := rfl
@[go_sem] theorem T_get10 : T.get 10 = some ⟨1, 16, .str, [.str []], false⟩ := rfl
@[go_sem] theorem T_get11 : T.get 11 = some ⟨1, 16, .str, [.str []], false⟩ := rfl
@[go_sem] theorem T_get12 : T.get 12 = some ⟨1, 8, .int .u64, [.int .u64 0], false⟩ := rfl
@[go_sem] theorem T_get13 : T.get 13 = some ⟨2, 24, .struct [(0, 9), (1, 12)], [.str [], .int .u64 0], false⟩ := rfl
@[go_sem] theorem T_get14 : T.get 14 = some ⟨2, 24, .struct [(0, 9), (1, 12)], [.str [], .int .u64 0], false⟩ := rfl
@[go_sem] theorem T_get21 : T.get 21 = some ⟨1, 4, .int .i32, [.int .i32 0], false⟩ := rfl
@[go_sem] theorem T_get22 : T.get 22 = some ⟨1, 24, .slice 3, [.sl true 1 0 []], false⟩ := rfl
@[go_sem] theorem T_get23 : T.get 23 = some ⟨2, 32, .struct [(0, 9), (1, 9)], [.str [], .str []], true⟩ := rfl
@[go_sem] theorem T_get24 : T.get 24 = some ⟨2, 32, .struct [(0, 9), (1, 9)], [.str [], .str []], true⟩ := rfl
@[go_sem] theorem T_get25 : T.get 25 = some ⟨7, 88, .struct [(0, 3), (1, 9), (2, 9), (3, 24), (5, 3), (6, 4)], [.int .i64 0, .str [], .str [], .str [], .str [], .int .i64 0, .bool false], true⟩ := rfl
@[go_sem] theorem T_get26 : T.get 26 = some ⟨7, 88, .struct [(0, 3), (1, 9), (2, 9), (3, 24), (5, 3), (6, 4)], [.int .i64 0, .str [], .str [], .str [], .str [], .int .i64 0, .bool false], true⟩ := rfl
@[go_sem] theorem T_get27 : T.get 27 = some ⟨8, 96, .struct [(0, 3), (1, 26)], [.int .i64 0, .int .i64 0, .str [], .str [], .str [], .str [], .int .i64 0, .bool false], true⟩ := rfl
@[go_sem] theorem T_get28 : T.get 28 = some ⟨8, 96, .struct [(0, 3), (1, 26)], [.int .i64 0, .int .i64 0, .str [], .str [], .str [], .str [], .int .i64 0, .bool false], true⟩ := rfl
@[go_sem] theorem T_get29 : T.get 29 = some ⟨12, 144, .struct [(0, 3), (1, 3), (2, 3), (3, 22), (4, 28)], [.int .i64 0, .int .i64 0, .int .i64 0, .sl true 1 0 [], .int .i64 0, .int .i64 0, .str [], .str [], .str [], .str [], .int .i64 0, .bool false], false⟩ := rfl
@[go_sem] theorem T_get30 : T.get 30 = some ⟨12, 144, .struct [(0, 3), (1, 3), (2, 3), (3, 22), (4, 28)], [.int .i64 0, .int .i64 0, .int .i64 0, .sl true 1 0 [], .int .i64 0, .int .i64 0, .str [], .str [], .str [], .str [], .int .i64 0, .bool false], false⟩ := rfl
@[go_sem] theorem T_get36 : T.get 36 = some ⟨1, 24, .slice 30, [.sl true 12 0 []], false⟩ := rfl
@[go_sem] theorem T_get41 : T.get 41 = some ⟨1, 24, .slice 9, [.sl true 1 0 []], false⟩ := rfl
@[go_sem] theorem T_get66 : T.get 66 = some ⟨1, 24, .slice 5, [.sl true 1 0 []], false⟩ := rfl
@[go_sem] theorem T_get92 : T.get 92 = some ⟨1, 8, .int .u64, [.int .u64 0], false⟩ := rfl
@[go_sem] theorem T_get97 : T.get 97 = some ⟨2, 2, .struct [(0, 5), (1, 5)], [.int .u8 0, .int .u8 0], true⟩ := rfl
@[go_sem] theorem T_get98 : T.get 98 = some ⟨2, 2, .struct [(0, 5), (1, 5)], [.int .u8 0, .int .u8 0], true⟩ := rfl
@[go_sem] theorem T_get100 : T.get 100 = some ⟨1, 4, .int .u32, [.int .u32 0], false⟩ := rfl
@[go_sem] theorem T_get109 : T.get 109 = some ⟨1, 1, .int .u8, [.int .u8 0], false⟩ := rfl
@[go_sem] theorem T_get110 : T.get 110 = some ⟨1, 1, .int .u8, [.int .u8 0], false⟩ := rfl
@[go_sem] theorem T_get112 : T.get 112 = some ⟨1, 4, .int .i32, [.int .i32 0], false⟩ := rfl
@[go_sem] theorem T_get113 : T.get 113 = some ⟨1, 4, .int .i32, [.int .i32 0], false⟩ := rfl
@[go_sem] theorem T_el22 : T.el 22 = some ⟨1, 8, .int .i64, [.int .i64 0], false⟩ := rfl
@[go_sem] theorem T_el36 : T.el 36 = some ⟨12, 144, .struct [(0, 3), (1, 3), (2, 3), (3, 22), (4, 28)], [.int .i64 0, .int .i64 0, .int .i64 0, .sl true 1 0 [], .int .i64 0, .int .i64 0, .str [], .str [], .str [], .str [], .int .i64 0, .bool false], false⟩ := rfl
@[go_sem] theorem T_el41 : T.el 41 = some ⟨1, 16, .str, [.str []], false⟩ := rfl
@[go_sem] theorem T_el66 : T.el 66 = some ⟨1, 1, .int .u8, [.int .u8 0], false⟩ := rfl
@[go_sem] theorem T_fld7_0 : T.fld 7 0 = some (0, ⟨1, 8, .int .i64, [.int .i64 0], false⟩) := rfl
@[go_sem] theorem T_fld7_1 : T.fld 7 1 = some (1, ⟨1, 8, .int .i64, [.int .i64 0], false⟩) := rfl
@[go_sem] theorem T_fld7_2 : T.fld 7 2 = some (2, ⟨1, 1, .bool, [.bool false], false⟩) := rfl
@[go_sem] theorem T_fld7_3 : T.fld 7 3 = some (3, ⟨1, 1, .int .u8, [.int .u8 0], false⟩) := rfl
@[go_sem] theorem T_fld8_0 : T.fld 8 0 = some (0, ⟨1, 8, .int .i64, [.int .i64 0], false⟩) := rfl
@[go_sem] theorem T_fld8_1 : T.fld 8 1 = some (1, ⟨1, 8, .int .i64, [.int .i64 0], false⟩) := rfl
@[go_sem] theorem T_fld8_2 : T.fld 8 2 = some (2, ⟨1, 1, .bool, [.bool false], false⟩) := rfl
@[go_sem] theorem T_fld8_3 : T.fld 8 3 = some (3, ⟨1, 1, .int .u8, [.int .u8 0], false⟩) := rfl
@[go_sem] theorem T_fld13_0 : T.fld 13 0 = some (0, ⟨1, 16, .str, [.str []], false⟩) := rfl
@[go_sem] theorem T_fld13_1 : T.fld 13 1 = some (1, ⟨1, 8, .int .u64, [.int .u64 0], false⟩) := rfl
@[go_sem] theorem T_fld14_0 : T.fld 14 0 = some (0, ⟨1, 16, .str, [.str []], false⟩) := rfl
@[go_sem] theorem T_fld14_1 : T.fld 14 1 = some (1, ⟨1, 8, .int .u64, [.int .u64 0], false⟩) := rfl
@[go_sem] theorem T_fld23_0 : T.fld 23 0 = some (0, ⟨1, 16, .str, [.str []], false⟩) := rfl
@[go_sem] theorem T_fld23_1 : T.fld 23 1 = some (1, ⟨1, 16, .str, [.str []], false⟩) := rfl
@[go_sem] theorem T_fld24_0 : T.fld 24 0 = some (0, ⟨1, 16, .str, [.str []], false⟩) := rfl
@[go_sem] theorem T_fld24_1 : T.fld 24 1 = some (1, ⟨1, 16, .str, [.str []], false⟩) := rfl
@[go_sem] theorem T_fld25_0 : T.fld 25 0 = some (0, ⟨1, 8, .int .i64, [.int .i64 0], false⟩) := rfl
@[go_sem] theorem T_fld25_1 : T.fld 25 1 = some (1, ⟨1, 16, .str, [.str []], false⟩) := rfl
@[go_sem] theorem T_fld25_2 : T.fld 25 2 = some (2, ⟨1, 16, .str, [.str []], false⟩) := rfl
@[go_sem] theorem T_fld25_3 : T.fld 25 3 = some (3, ⟨2, 32, .struct [(0, 9), (1, 9)], [.str [], .str []], true⟩) := rfl
@[go_sem] theorem T_fld25_4 : T.fld 25 4 = some (5, ⟨1, 8, .int .i64, [.int .i64 0], false⟩) := rfl
@[go_sem] theorem T_fld25_5 : T.fld 25 5 = some (6, ⟨1, 1, .bool, [.bool false], false⟩) := rfl
@[go_sem] theorem T_fld26_0 : T.fld 26 0 = some (0, ⟨1, 8, .int .i64, [.int .i64 0], false⟩) := rfl
@[go_sem] theorem T_fld26_1 : T.fld 26 1 = some (1, ⟨1, 16, .str, [.str []], false⟩) := rfl
@[go_sem] theorem T_fld26_2 : T.fld 26 2 = some (2, ⟨1, 16, .str, [.str []], false⟩) := rfl
@[go_sem] theorem T_fld26_3 : T.fld 26 3 = some (3, ⟨2, 32, .struct [(0, 9), (1, 9)], [.str [], .str []], true⟩) := rfl
@[go_sem] theorem T_fld26_4 : T.fld 26 4 = some (5, ⟨1, 8, .int .i64, [.int .i64 0], false⟩) := rfl
@[go_sem] theorem T_fld26_5 : T.fld 26 5 = some (6, ⟨1, 1, .bool, [.bool false], false⟩) := rfl
@[go_sem] theorem T_fld27_0 : T.fld 27 0 = some (0, ⟨1, 8, .int .i64, [.int .i64 0], false⟩) := rfl
@[go_sem] theorem T_fld27_1 : T.fld 27 1 = some (1, ⟨7, 88, .struct [(0, 3), (1, 9), (2, 9), (3, 24), (5, 3), (6, 4)], [.int .i64 0, .str [], .str [], .str [], .str [], .int .i64 0, .bool false], true⟩) := rfl
@[go_sem] theorem T_fld28_0 : T.fld 28 0 = some (0, ⟨1, 8, .int .i64, [.int .i64 0], false⟩) := rfl
@[go_sem] theorem T_fld28_1 : T.fld 28 1 = some (1, ⟨7, 88, .struct [(0, 3), (1, 9), (2, 9), (3, 24), (5, 3), (6, 4)], [.int .i64 0, .str [], .str [], .str [], .str [], .int .i64 0, .bool false], true⟩) := rfl
@[go_sem] theorem T_fld29_0 : T.fld 29 0 = some (0, ⟨1, 8, .int .i64, [.int .i64 0], false⟩) := rfl
@[go_sem] theorem T_fld29_1 : T.fld 29 1 = some (1, ⟨1, 8, .int .i64, [.int .i64 0], false⟩) := rfl
@[go_sem] theorem T_fld29_2 : T.fld 29 2 = some (2, ⟨1, 8, .int .i64, [.int .i64 0], false⟩) := rfl
@[go_sem] theorem T_fld29_3 : T.fld 29 3 = some (3, ⟨1, 24, .slice 3, [.sl true 1 0 []], false⟩) := rfl
@[go_sem] theorem T_fld29_4 : T.fld 29 4 = some (4, ⟨8, 96, .struct [(0, 3), (1, 26)], [.int .i64 0, .int .i64 0, .str [], .str [], .str [], .str [], .int .i64 0, .bool false], true⟩) := rfl
@[go_sem] theorem T_fld30_0 : T.fld 30 0 = some (0, ⟨1, 8, .int .i64, [.int .i64 0], false⟩) := rfl
@[go_sem] theorem T_fld30_1 : T.fld 30 1 = some (1, ⟨1, 8, .int .i64, [.int .i64 0], false⟩) := rfl
@[go_sem] theorem T_fld30_2 : T.fld 30 2 = some (2, ⟨1, 8, .int .i64, [.int .i64 0], false⟩) := rfl
@[go_sem] theorem T_fld30_3 : T.fld 30 3 = some (3, ⟨1, 24, .slice 3, [.sl true 1 0 []], false⟩) := rfl
@[go_sem] theorem T_fld30_4 : T.fld 30 4 = some (4, ⟨8, 96, .struct [(0, 3), (1, 26)], [.int .i64 0, .int .i64 0, .str [], .str [], .str [], .str [], .int .i64 0, .bool false], true⟩) := rfl
@[go_sem] theorem T_fld97_0 : T.fld 97 0 = some (0, ⟨1, 1, .int .u8, [.int .u8 0], false⟩) := rfl
@[go_sem] theorem T_fld97_1 : T.fld 97 1 = some (1, ⟨1, 1, .int .u8, [.int .u8 0], false⟩) := rfl
@[go_sem] theorem T_fld98_0 : T.fld 98 0 = some (0, ⟨1, 1, .int .u8, [.int .u8 0], false⟩) := rfl
@[go_sem] theorem T_fld98_1 : T.fld 98 1 = some (1, ⟨1, 1, .int .u8, [.int .u8 0], false⟩) := rfl

end Go.Proofs.YtddfcajdelfikaaDoor.Vm
