import Derived.Test.YtfgllkflnkolhaaDoorProg
import Derived.Test.YtfgllkflnkolhaaDoorMevs
import Derived.KernelRfl
set_option linter.unusedVariables false
namespace Go.Wk.YtfgllkflnkolhaaDoor
open Go Go.Wk Go.Proofs
/-- the types of this seat's program, as far as straight code asks of them -/
def tab : Tab := [
  (2, .int .i64, 1),
  (3, .int .i64, 1),
  (4, .bool, 1),
  (5, .int .u8, 1),
  (6, .int .u8, 1),
  (7, .struct [(0, 1, false), (1, 1, false), (2, 1, false), (3, 1, false)], 4),
  (8, .struct [(0, 1, false), (1, 1, false), (2, 1, false), (3, 1, false)], 4),
  (9, .str, 1),
  (10, .str, 1),
  (11, .str, 1),
  (12, .int .u64, 1),
  (13, .struct [(0, 1, false), (1, 1, false)], 2),
  (14, .struct [(0, 1, false), (1, 1, false)], 2),
  (15, .ptr 194, 1),
  (16, .ptr 197, 1),
  (17, .ptr 206, 1),
  (18, .struct [(0, 1, false)], 1),
  (19, .struct [(0, 1, false)], 1),
  (21, .int .i32, 1),
  (22, .struct [(0, 1, false), (1, 1, false), (2, 1, false), (3, 1, false), (4, 1, false), (5, 1, false)], 6),
  (23, .struct [(0, 1, false), (1, 1, false), (2, 1, false), (3, 1, false), (4, 1, false), (5, 1, false)], 6),
  (25, .int .i64, 1),
  (30, .struct [(0, 1, false), (1, 1, false), (2, 1, false), (3, 1, false), (4, 1, false), (5, 1, false)], 6),
  (36, .slice 9 1, 1),
  (37, .slice 123 3, 1),
  (38, .struct [(0, 1, false), (1, 1, false)], 2),
  (39, .struct [(0, 1, false), (1, 1, false)], 2),
  (40, .slice 56 1, 1),
  (41, .slice 109 17, 1),
  (42, .struct [(0, 6, true), (6, 2, true), (8, 1, false), (9, 1, false), (10, 1, false), (11, 1, false), (12, 1, false), (13, 1, false), (14, 1, false), (15, 1, false), (16, 1, false)], 17),
  (43, .struct [(0, 6, true), (6, 2, true), (8, 1, false), (9, 1, false), (10, 1, false), (11, 1, false), (12, 1, false), (13, 1, false), (14, 1, false), (15, 1, false), (16, 1, false)], 17),
  (46, .slice 114 3, 1),
  (47, .struct [(0, 1, false), (1, 1, false)], 2),
  (48, .struct [(0, 1, false), (1, 1, false)], 2),
  (49, .slice 60 17, 1),
  (50, .struct [(0, 6, true), (6, 2, true), (8, 1, false), (9, 1, false), (10, 1, false), (11, 1, false), (12, 1, false), (13, 1, false), (14, 1, false), (15, 1, false), (16, 1, false)], 17),
  (51, .struct [(0, 6, true), (6, 2, true), (8, 1, false), (9, 1, false), (10, 1, false), (11, 1, false), (12, 1, false), (13, 1, false), (14, 1, false), (15, 1, false), (16, 1, false)], 17),
  (56, .int .i8, 1),
  (57, .struct [(0, 1, false), (1, 1, false), (2, 1, false), (3, 1, false), (4, 1, false), (5, 1, false)], 6),
  (58, .struct [(0, 1, false), (1, 1, false), (2, 1, false), (3, 1, false), (4, 1, false), (5, 1, false)], 6),
  (59, .struct [(0, 1, false), (1, 1, false), (2, 1, false), (3, 1, false), (4, 1, false), (5, 1, false), (6, 1, false), (7, 1, false), (8, 1, false), (9, 1, false), (10, 1, false), (11, 6, true)], 17),
  (60, .struct [(0, 1, false), (1, 1, false), (2, 1, false), (3, 1, false), (4, 1, false), (5, 1, false), (6, 1, false), (7, 1, false), (8, 1, false), (9, 1, false), (10, 1, false), (11, 6, true)], 17),
  (62, .struct [(0, 1, false), (1, 1, false)], 2),
  (63, .struct [(0, 1, false), (1, 1, false)], 2),
  (68, .slice 2 1, 1),
  (75, .ptr 60, 1),
  (77, .struct [(0, 1, false), (1, 1, false), (2, 1, false), (3, 1, false)], 4),
  (78, .struct [(0, 1, false), (1, 1, false), (2, 1, false), (3, 1, false)], 4),
  (81, .struct [(0, 1, false), (1, 1, false), (2, 1, false), (3, 1, false)], 4),
  (104, .int .u64, 1),
  (107, .struct [(0, 1, false), (1, 1, false), (2, 1, false), (3, 1, false), (4, 1, false), (5, 1, false)], 6),
  (108, .struct [(0, 1, false), (1, 1, false), (2, 1, false), (3, 1, false), (4, 1, false), (5, 1, false), (6, 1, false), (7, 1, false), (8, 1, false), (9, 1, false), (10, 1, false), (11, 6, true)], 17),
  (109, .struct [(0, 1, false), (1, 1, false), (2, 1, false), (3, 1, false), (4, 1, false), (5, 1, false), (6, 1, false), (7, 1, false), (8, 1, false), (9, 1, false), (10, 1, false), (11, 6, true)], 17),
  (110, .int .u64, 1),
  (112, .slice 5 1, 1),
  (113, .struct [(0, 1, false), (1, 1, false), (2, 1, false)], 3),
  (114, .struct [(0, 1, false), (1, 1, false), (2, 1, false)], 3),
  (123, .struct [(0, 1, false), (1, 1, false), (2, 1, false)], 3),
  (128, .arr 2 40 1 false, 2),
  (129, .slice 128 2, 1),
  (133, .int .u64, 1),
  (136, .map 3 135, 1),
  (138, .ptr 110, 1),
  (144, .slice 40 1, 1),
  (148, .slice 149 1, 1),
  (149, .ptr 40, 1),
  (156, .arr 65 56 1 false, 65),
  (158, .map 9 3, 1),
  (160, .map 161 3, 1),
  (161, .arr 2 3 1 false, 2),
  (164, .slice 3 1, 1),
  (176, .int .u32, 1),
  (190, .arr 4 2 1 false, 4),
  (193, .struct [(0, 1, false), (1, 1, false), (2, 1, false), (3, 1, false)], 4),
  (194, .struct [(0, 1, false), (1, 1, false), (2, 1, false), (3, 1, false)], 4),
  (195, .arr 0 16 1 false, 0),
  (196, .struct [(0, 0, true)], 0),
  (197, .struct [(0, 0, true)], 0),
  (199, .int .u8, 1),
  (200, .int .u8, 1),
  (202, .ptr 5, 1),
  (203, .int .i32, 1),
  (204, .int .i32, 1),
  (205, .struct [(0, 1, false), (1, 1, false), (2, 1, false), (3, 1, false), (4, 1, false), (5, 1, false), (6, 1, false), (7, 1, false), (8, 1, false), (9, 1, false), (10, 1, false)], 11),
  (206, .struct [(0, 1, false), (1, 1, false), (2, 1, false), (3, 1, false), (4, 1, false), (5, 1, false), (6, 1, false), (7, 1, false), (8, 1, false), (9, 1, false), (10, 1, false)], 11)]
theorem tabOk : TabOk Tryd.prog tab := tabOk_of (by kernel_rfl)
theorem agg0 : aggOf Tryd.prog 0 = some false := by kernel_rfl
theorem siz0 : sizeIf Tryd.prog 0 = some 1 := by kernel_rfl
theorem agg1 : aggOf Tryd.prog 1 = some false := by kernel_rfl
theorem siz1 : sizeIf Tryd.prog 1 = some 1 := by kernel_rfl
theorem inf1 : Inf Tryd.prog 1 .nilFunc 1 8 := inf_of (by kernel_rfl)
theorem agg2 : aggOf Tryd.prog 2 = some false := by kernel_rfl
theorem siz2 : sizeIf Tryd.prog 2 = some 1 := by kernel_rfl
theorem inf2 : Inf Tryd.prog 2 (.int .i64 0) 1 8 := inf_of (by kernel_rfl)
theorem agg3 : aggOf Tryd.prog 3 = some false := by kernel_rfl
theorem siz3 : sizeIf Tryd.prog 3 = some 1 := by kernel_rfl
theorem inf3 : Inf Tryd.prog 3 (.int .i64 0) 1 8 := inf_of (by kernel_rfl)
theorem agg4 : aggOf Tryd.prog 4 = some false := by kernel_rfl
theorem siz4 : sizeIf Tryd.prog 4 = some 1 := by kernel_rfl
theorem inf4 : Inf Tryd.prog 4 (.bool false) 1 1 := inf_of (by kernel_rfl)
theorem agg5 : aggOf Tryd.prog 5 = some false := by kernel_rfl
theorem siz5 : sizeIf Tryd.prog 5 = some 1 := by kernel_rfl
theorem inf5 : Inf Tryd.prog 5 (.int .u8 0) 1 1 := inf_of (by kernel_rfl)
theorem agg6 : aggOf Tryd.prog 6 = some false := by kernel_rfl
theorem siz6 : sizeIf Tryd.prog 6 = some 1 := by kernel_rfl
theorem inf6 : Inf Tryd.prog 6 (.int .u8 0) 1 1 := inf_of (by kernel_rfl)
theorem agg7 : aggOf Tryd.prog 7 = some true := by kernel_rfl
theorem siz7 : sizeIf Tryd.prog 7 = some 4 := by kernel_rfl
theorem inf7 : Inf Tryd.prog 7 (.agg #[(.int .i64 0), (.int .i64 0), (.bool false), (.int .u8 0)]) 4 24 := inf_of (by kernel_rfl)
theorem agg8 : aggOf Tryd.prog 8 = some true := by kernel_rfl
theorem siz8 : sizeIf Tryd.prog 8 = some 4 := by kernel_rfl
theorem inf8 : Inf Tryd.prog 8 (.agg #[(.int .i64 0), (.int .i64 0), (.bool false), (.int .u8 0)]) 4 24 := inf_of (by kernel_rfl)
theorem agg9 : aggOf Tryd.prog 9 = some false := by kernel_rfl
theorem siz9 : sizeIf Tryd.prog 9 = some 1 := by kernel_rfl
theorem inf9 : Inf Tryd.prog 9 (.string ⟨#[]⟩) 1 16 := inf_of (by kernel_rfl)
theorem agg10 : aggOf Tryd.prog 10 = some false := by kernel_rfl
theorem siz10 : sizeIf Tryd.prog 10 = some 1 := by kernel_rfl
theorem inf10 : Inf Tryd.prog 10 (.string ⟨#[]⟩) 1 16 := inf_of (by kernel_rfl)
theorem agg11 : aggOf Tryd.prog 11 = some false := by kernel_rfl
theorem siz11 : sizeIf Tryd.prog 11 = some 1 := by kernel_rfl
theorem inf11 : Inf Tryd.prog 11 (.string ⟨#[]⟩) 1 16 := inf_of (by kernel_rfl)
theorem agg12 : aggOf Tryd.prog 12 = some false := by kernel_rfl
theorem siz12 : sizeIf Tryd.prog 12 = some 1 := by kernel_rfl
theorem inf12 : Inf Tryd.prog 12 (.int .u64 0) 1 8 := inf_of (by kernel_rfl)
theorem agg13 : aggOf Tryd.prog 13 = some true := by kernel_rfl
theorem siz13 : sizeIf Tryd.prog 13 = some 2 := by kernel_rfl
theorem inf13 : Inf Tryd.prog 13 (.agg #[(.string ⟨#[]⟩), (.int .u64 0)]) 2 24 := inf_of (by kernel_rfl)
theorem agg14 : aggOf Tryd.prog 14 = some true := by kernel_rfl
theorem siz14 : sizeIf Tryd.prog 14 = some 2 := by kernel_rfl
theorem inf14 : Inf Tryd.prog 14 (.agg #[(.string ⟨#[]⟩), (.int .u64 0)]) 2 24 := inf_of (by kernel_rfl)
theorem agg15 : aggOf Tryd.prog 15 = some false := by kernel_rfl
theorem siz15 : sizeIf Tryd.prog 15 = some 1 := by kernel_rfl
theorem inf15 : Inf Tryd.prog 15 (.pointer none) 1 8 := inf_of (by kernel_rfl)
theorem agg16 : aggOf Tryd.prog 16 = some false := by kernel_rfl
theorem siz16 : sizeIf Tryd.prog 16 = some 1 := by kernel_rfl
theorem inf16 : Inf Tryd.prog 16 (.pointer none) 1 8 := inf_of (by kernel_rfl)
theorem agg17 : aggOf Tryd.prog 17 = some false := by kernel_rfl
theorem siz17 : sizeIf Tryd.prog 17 = some 1 := by kernel_rfl
theorem inf17 : Inf Tryd.prog 17 (.pointer none) 1 8 := inf_of (by kernel_rfl)
theorem agg18 : aggOf Tryd.prog 18 = some true := by kernel_rfl
theorem siz18 : sizeIf Tryd.prog 18 = some 1 := by kernel_rfl
theorem inf18 : Inf Tryd.prog 18 (.agg #[(.pointer none)]) 1 8 := inf_of (by kernel_rfl)
theorem agg19 : aggOf Tryd.prog 19 = some true := by kernel_rfl
theorem siz19 : sizeIf Tryd.prog 19 = some 1 := by kernel_rfl
theorem inf19 : Inf Tryd.prog 19 (.agg #[(.pointer none)]) 1 8 := inf_of (by kernel_rfl)
theorem agg20 : aggOf Tryd.prog 20 = some false := by kernel_rfl
theorem siz20 : sizeIf Tryd.prog 20 = some 1 := by kernel_rfl
theorem inf20 : Inf Tryd.prog 20 .nilIface 1 16 := inf_of (by kernel_rfl)
theorem agg21 : aggOf Tryd.prog 21 = some false := by kernel_rfl
theorem siz21 : sizeIf Tryd.prog 21 = some 1 := by kernel_rfl
theorem inf21 : Inf Tryd.prog 21 (.int .i32 0) 1 4 := inf_of (by kernel_rfl)
theorem agg22 : aggOf Tryd.prog 22 = some true := by kernel_rfl
theorem siz22 : sizeIf Tryd.prog 22 = some 6 := by kernel_rfl
theorem inf22 : Inf Tryd.prog 22 (.agg #[(.int .i64 0), (.int .i64 0), (.int .i64 0), (.int .i64 0), (.int .i64 0), (.int .i64 0)]) 6 48 := inf_of (by kernel_rfl)
theorem agg23 : aggOf Tryd.prog 23 = some true := by kernel_rfl
theorem siz23 : sizeIf Tryd.prog 23 = some 6 := by kernel_rfl
theorem inf23 : Inf Tryd.prog 23 (.agg #[(.int .i64 0), (.int .i64 0), (.int .i64 0), (.int .i64 0), (.int .i64 0), (.int .i64 0)]) 6 48 := inf_of (by kernel_rfl)
theorem agg24 : aggOf Tryd.prog 24 = some false := by kernel_rfl
theorem siz24 : sizeIf Tryd.prog 24 = some 1 := by kernel_rfl
theorem inf24 : Inf Tryd.prog 24 .nilFunc 1 8 := inf_of (by kernel_rfl)
theorem agg25 : aggOf Tryd.prog 25 = some false := by kernel_rfl
theorem siz25 : sizeIf Tryd.prog 25 = some 1 := by kernel_rfl
theorem inf25 : Inf Tryd.prog 25 (.int .i64 0) 1 8 := inf_of (by kernel_rfl)
theorem agg26 : aggOf Tryd.prog 26 = some false := by kernel_rfl
theorem siz26 : sizeIf Tryd.prog 26 = some 1 := by kernel_rfl
theorem agg27 : aggOf Tryd.prog 27 = some false := by kernel_rfl
theorem siz27 : sizeIf Tryd.prog 27 = some 1 := by kernel_rfl
theorem inf27 : Inf Tryd.prog 27 .nilFunc 1 8 := inf_of (by kernel_rfl)
theorem agg28 : aggOf Tryd.prog 28 = some false := by kernel_rfl
theorem siz28 : sizeIf Tryd.prog 28 = some 1 := by kernel_rfl
theorem agg29 : aggOf Tryd.prog 29 = some false := by kernel_rfl
theorem siz29 : sizeIf Tryd.prog 29 = some 1 := by kernel_rfl
theorem inf29 : Inf Tryd.prog 29 .nilFunc 1 8 := inf_of (by kernel_rfl)
theorem agg30 : aggOf Tryd.prog 30 = some true := by kernel_rfl
theorem siz30 : sizeIf Tryd.prog 30 = some 6 := by kernel_rfl
theorem inf30 : Inf Tryd.prog 30 (.agg #[(.int .i64 0), (.int .i64 0), (.int .i64 0), (.int .i64 0), (.int .i64 0), (.int .i64 0)]) 6 48 := inf_of (by kernel_rfl)
theorem agg31 : aggOf Tryd.prog 31 = some false := by kernel_rfl
theorem siz31 : sizeIf Tryd.prog 31 = some 1 := by kernel_rfl
theorem inf31 : Inf Tryd.prog 31 .nilFunc 1 8 := inf_of (by kernel_rfl)
theorem agg32 : aggOf Tryd.prog 32 = some false := by kernel_rfl
theorem siz32 : sizeIf Tryd.prog 32 = some 1 := by kernel_rfl
theorem inf32 : Inf Tryd.prog 32 .nilFunc 1 8 := inf_of (by kernel_rfl)
theorem agg33 : aggOf Tryd.prog 33 = some false := by kernel_rfl
theorem siz33 : sizeIf Tryd.prog 33 = some 1 := by kernel_rfl
theorem inf33 : Inf Tryd.prog 33 .nilFunc 1 8 := inf_of (by kernel_rfl)
theorem agg34 : aggOf Tryd.prog 34 = some false := by kernel_rfl
theorem siz34 : sizeIf Tryd.prog 34 = some 1 := by kernel_rfl
theorem inf34 : Inf Tryd.prog 34 .nilFunc 1 8 := inf_of (by kernel_rfl)
theorem agg35 : aggOf Tryd.prog 35 = some false := by kernel_rfl
theorem siz35 : sizeIf Tryd.prog 35 = some 1 := by kernel_rfl
theorem inf35 : Inf Tryd.prog 35 .nilFunc 1 8 := inf_of (by kernel_rfl)
theorem agg36 : aggOf Tryd.prog 36 = some false := by kernel_rfl
theorem siz36 : sizeIf Tryd.prog 36 = some 1 := by kernel_rfl
theorem inf36 : Inf Tryd.prog 36 (.slice none 0 0) 1 24 := inf_of (by kernel_rfl)
theorem agg37 : aggOf Tryd.prog 37 = some false := by kernel_rfl
theorem siz37 : sizeIf Tryd.prog 37 = some 1 := by kernel_rfl
theorem inf37 : Inf Tryd.prog 37 (.slice none 0 0) 1 24 := inf_of (by kernel_rfl)
theorem agg38 : aggOf Tryd.prog 38 = some true := by kernel_rfl
theorem siz38 : sizeIf Tryd.prog 38 = some 2 := by kernel_rfl
theorem inf38 : Inf Tryd.prog 38 (.agg #[(.slice none 0 0), (.slice none 0 0)]) 2 48 := inf_of (by kernel_rfl)
theorem agg39 : aggOf Tryd.prog 39 = some true := by kernel_rfl
theorem siz39 : sizeIf Tryd.prog 39 = some 2 := by kernel_rfl
theorem inf39 : Inf Tryd.prog 39 (.agg #[(.slice none 0 0), (.slice none 0 0)]) 2 48 := inf_of (by kernel_rfl)
theorem agg40 : aggOf Tryd.prog 40 = some false := by kernel_rfl
theorem siz40 : sizeIf Tryd.prog 40 = some 1 := by kernel_rfl
theorem inf40 : Inf Tryd.prog 40 (.slice none 0 0) 1 24 := inf_of (by kernel_rfl)
theorem agg41 : aggOf Tryd.prog 41 = some false := by kernel_rfl
theorem siz41 : sizeIf Tryd.prog 41 = some 1 := by kernel_rfl
theorem inf41 : Inf Tryd.prog 41 (.slice none 0 0) 1 24 := inf_of (by kernel_rfl)
theorem agg42 : aggOf Tryd.prog 42 = some true := by kernel_rfl
theorem siz42 : sizeIf Tryd.prog 42 = some 17 := by kernel_rfl
theorem inf42 : Inf Tryd.prog 42 (.agg #[(.int .i64 0), (.int .i64 0), (.int .i64 0), (.int .i64 0), (.int .i64 0), (.int .i64 0), (.slice none 0 0), (.slice none 0 0), (.slice none 0 0), (.int .i64 0), (.slice none 0 0), (.slice none 0 0), (.slice none 0 0), (.slice none 0 0), (.slice none 0 0), (.slice none 0 0), (.int .i64 0)]) 17 280 := inf_of (by kernel_rfl)
theorem agg43 : aggOf Tryd.prog 43 = some true := by kernel_rfl
theorem siz43 : sizeIf Tryd.prog 43 = some 17 := by kernel_rfl
theorem inf43 : Inf Tryd.prog 43 (.agg #[(.int .i64 0), (.int .i64 0), (.int .i64 0), (.int .i64 0), (.int .i64 0), (.int .i64 0), (.slice none 0 0), (.slice none 0 0), (.slice none 0 0), (.int .i64 0), (.slice none 0 0), (.slice none 0 0), (.slice none 0 0), (.slice none 0 0), (.slice none 0 0), (.slice none 0 0), (.int .i64 0)]) 17 280 := inf_of (by kernel_rfl)
theorem agg44 : aggOf Tryd.prog 44 = some false := by kernel_rfl
theorem siz44 : sizeIf Tryd.prog 44 = some 1 := by kernel_rfl
theorem agg45 : aggOf Tryd.prog 45 = some false := by kernel_rfl
theorem siz45 : sizeIf Tryd.prog 45 = some 1 := by kernel_rfl
theorem inf45 : Inf Tryd.prog 45 .nilFunc 1 8 := inf_of (by kernel_rfl)
theorem agg46 : aggOf Tryd.prog 46 = some false := by kernel_rfl
theorem siz46 : sizeIf Tryd.prog 46 = some 1 := by kernel_rfl
theorem inf46 : Inf Tryd.prog 46 (.slice none 0 0) 1 24 := inf_of (by kernel_rfl)
theorem agg47 : aggOf Tryd.prog 47 = some true := by kernel_rfl
theorem siz47 : sizeIf Tryd.prog 47 = some 2 := by kernel_rfl
theorem inf47 : Inf Tryd.prog 47 (.agg #[(.slice none 0 0), (.slice none 0 0)]) 2 48 := inf_of (by kernel_rfl)
theorem agg48 : aggOf Tryd.prog 48 = some true := by kernel_rfl
theorem siz48 : sizeIf Tryd.prog 48 = some 2 := by kernel_rfl
theorem inf48 : Inf Tryd.prog 48 (.agg #[(.slice none 0 0), (.slice none 0 0)]) 2 48 := inf_of (by kernel_rfl)
theorem agg49 : aggOf Tryd.prog 49 = some false := by kernel_rfl
theorem siz49 : sizeIf Tryd.prog 49 = some 1 := by kernel_rfl
theorem inf49 : Inf Tryd.prog 49 (.slice none 0 0) 1 24 := inf_of (by kernel_rfl)
theorem agg50 : aggOf Tryd.prog 50 = some true := by kernel_rfl
theorem siz50 : sizeIf Tryd.prog 50 = some 17 := by kernel_rfl
theorem inf50 : Inf Tryd.prog 50 (.agg #[(.int .i64 0), (.int .i64 0), (.int .i64 0), (.int .i64 0), (.int .i64 0), (.int .i64 0), (.slice none 0 0), (.slice none 0 0), (.slice none 0 0), (.int .i64 0), (.slice none 0 0), (.slice none 0 0), (.slice none 0 0), (.slice none 0 0), (.slice none 0 0), (.slice none 0 0), (.int .i64 0)]) 17 280 := inf_of (by kernel_rfl)
theorem agg51 : aggOf Tryd.prog 51 = some true := by kernel_rfl
theorem siz51 : sizeIf Tryd.prog 51 = some 17 := by kernel_rfl
theorem inf51 : Inf Tryd.prog 51 (.agg #[(.int .i64 0), (.int .i64 0), (.int .i64 0), (.int .i64 0), (.int .i64 0), (.int .i64 0), (.slice none 0 0), (.slice none 0 0), (.slice none 0 0), (.int .i64 0), (.slice none 0 0), (.slice none 0 0), (.slice none 0 0), (.slice none 0 0), (.slice none 0 0), (.slice none 0 0), (.int .i64 0)]) 17 280 := inf_of (by kernel_rfl)
theorem agg52 : aggOf Tryd.prog 52 = some false := by kernel_rfl
theorem siz52 : sizeIf Tryd.prog 52 = some 1 := by kernel_rfl
theorem agg53 : aggOf Tryd.prog 53 = some false := by kernel_rfl
theorem siz53 : sizeIf Tryd.prog 53 = some 1 := by kernel_rfl
theorem inf53 : Inf Tryd.prog 53 .nilFunc 1 8 := inf_of (by kernel_rfl)
theorem agg54 : aggOf Tryd.prog 54 = some false := by kernel_rfl
theorem siz54 : sizeIf Tryd.prog 54 = some 1 := by kernel_rfl
theorem inf54 : Inf Tryd.prog 54 .nilFunc 1 8 := inf_of (by kernel_rfl)
theorem agg55 : aggOf Tryd.prog 55 = some false := by kernel_rfl
theorem siz55 : sizeIf Tryd.prog 55 = some 1 := by kernel_rfl
theorem inf55 : Inf Tryd.prog 55 .nilFunc 1 8 := inf_of (by kernel_rfl)
theorem agg56 : aggOf Tryd.prog 56 = some false := by kernel_rfl
theorem siz56 : sizeIf Tryd.prog 56 = some 1 := by kernel_rfl
theorem inf56 : Inf Tryd.prog 56 (.int .i8 0) 1 1 := inf_of (by kernel_rfl)
theorem agg57 : aggOf Tryd.prog 57 = some true := by kernel_rfl
theorem siz57 : sizeIf Tryd.prog 57 = some 6 := by kernel_rfl
theorem inf57 : Inf Tryd.prog 57 (.agg #[(.slice none 0 0), (.slice none 0 0), (.slice none 0 0), (.int .i64 0), (.int .i64 0), (.int .i64 0)]) 6 96 := inf_of (by kernel_rfl)
theorem agg58 : aggOf Tryd.prog 58 = some true := by kernel_rfl
theorem siz58 : sizeIf Tryd.prog 58 = some 6 := by kernel_rfl
theorem inf58 : Inf Tryd.prog 58 (.agg #[(.slice none 0 0), (.slice none 0 0), (.slice none 0 0), (.int .i64 0), (.int .i64 0), (.int .i64 0)]) 6 96 := inf_of (by kernel_rfl)
theorem agg59 : aggOf Tryd.prog 59 = some true := by kernel_rfl
theorem siz59 : sizeIf Tryd.prog 59 = some 17 := by kernel_rfl
theorem inf59 : Inf Tryd.prog 59 (.agg #[(.slice none 0 0), (.slice none 0 0), (.slice none 0 0), (.slice none 0 0), (.slice none 0 0), (.slice none 0 0), (.int .i64 0), (.int .i64 0), (.int .i64 0), (.int .i64 0), (.int .i64 0), (.slice none 0 0), (.slice none 0 0), (.slice none 0 0), (.int .i64 0), (.int .i64 0), (.int .i64 0)]) 17 280 := inf_of (by kernel_rfl)
theorem agg60 : aggOf Tryd.prog 60 = some true := by kernel_rfl
theorem siz60 : sizeIf Tryd.prog 60 = some 17 := by kernel_rfl
theorem inf60 : Inf Tryd.prog 60 (.agg #[(.slice none 0 0), (.slice none 0 0), (.slice none 0 0), (.slice none 0 0), (.slice none 0 0), (.slice none 0 0), (.int .i64 0), (.int .i64 0), (.int .i64 0), (.int .i64 0), (.int .i64 0), (.slice none 0 0), (.slice none 0 0), (.slice none 0 0), (.int .i64 0), (.int .i64 0), (.int .i64 0)]) 17 280 := inf_of (by kernel_rfl)
theorem agg61 : aggOf Tryd.prog 61 = some false := by kernel_rfl
theorem siz61 : sizeIf Tryd.prog 61 = some 1 := by kernel_rfl
theorem inf61 : Inf Tryd.prog 61 .nilFunc 1 8 := inf_of (by kernel_rfl)
theorem agg62 : aggOf Tryd.prog 62 = some true := by kernel_rfl
theorem siz62 : sizeIf Tryd.prog 62 = some 2 := by kernel_rfl
theorem inf62 : Inf Tryd.prog 62 (.agg #[(.int .i64 0), (.int .i64 0)]) 2 16 := inf_of (by kernel_rfl)
theorem agg63 : aggOf Tryd.prog 63 = some true := by kernel_rfl
theorem siz63 : sizeIf Tryd.prog 63 = some 2 := by kernel_rfl
theorem inf63 : Inf Tryd.prog 63 (.agg #[(.int .i64 0), (.int .i64 0)]) 2 16 := inf_of (by kernel_rfl)
theorem agg64 : aggOf Tryd.prog 64 = some false := by kernel_rfl
theorem siz64 : sizeIf Tryd.prog 64 = some 1 := by kernel_rfl
theorem agg65 : aggOf Tryd.prog 65 = some false := by kernel_rfl
theorem siz65 : sizeIf Tryd.prog 65 = some 1 := by kernel_rfl
theorem inf65 : Inf Tryd.prog 65 .nilFunc 1 8 := inf_of (by kernel_rfl)
theorem agg66 : aggOf Tryd.prog 66 = some false := by kernel_rfl
theorem siz66 : sizeIf Tryd.prog 66 = some 1 := by kernel_rfl
theorem agg67 : aggOf Tryd.prog 67 = some false := by kernel_rfl
theorem siz67 : sizeIf Tryd.prog 67 = some 1 := by kernel_rfl
theorem inf67 : Inf Tryd.prog 67 .nilFunc 1 8 := inf_of (by kernel_rfl)
theorem agg68 : aggOf Tryd.prog 68 = some false := by kernel_rfl
theorem siz68 : sizeIf Tryd.prog 68 = some 1 := by kernel_rfl
theorem inf68 : Inf Tryd.prog 68 (.slice none 0 0) 1 24 := inf_of (by kernel_rfl)
theorem agg69 : aggOf Tryd.prog 69 = some false := by kernel_rfl
theorem siz69 : sizeIf Tryd.prog 69 = some 1 := by kernel_rfl
theorem agg70 : aggOf Tryd.prog 70 = some false := by kernel_rfl
theorem siz70 : sizeIf Tryd.prog 70 = some 1 := by kernel_rfl
theorem inf70 : Inf Tryd.prog 70 .nilFunc 1 8 := inf_of (by kernel_rfl)
theorem agg71 : aggOf Tryd.prog 71 = some false := by kernel_rfl
theorem siz71 : sizeIf Tryd.prog 71 = some 1 := by kernel_rfl
theorem agg72 : aggOf Tryd.prog 72 = some false := by kernel_rfl
theorem siz72 : sizeIf Tryd.prog 72 = some 1 := by kernel_rfl
theorem inf72 : Inf Tryd.prog 72 .nilFunc 1 8 := inf_of (by kernel_rfl)
theorem agg73 : aggOf Tryd.prog 73 = some false := by kernel_rfl
theorem siz73 : sizeIf Tryd.prog 73 = some 1 := by kernel_rfl
theorem inf73 : Inf Tryd.prog 73 .nilFunc 1 8 := inf_of (by kernel_rfl)
theorem agg74 : aggOf Tryd.prog 74 = some false := by kernel_rfl
theorem siz74 : sizeIf Tryd.prog 74 = some 1 := by kernel_rfl
theorem inf74 : Inf Tryd.prog 74 .nilFunc 1 8 := inf_of (by kernel_rfl)
theorem agg75 : aggOf Tryd.prog 75 = some false := by kernel_rfl
theorem siz75 : sizeIf Tryd.prog 75 = some 1 := by kernel_rfl
theorem inf75 : Inf Tryd.prog 75 (.pointer none) 1 8 := inf_of (by kernel_rfl)
theorem agg76 : aggOf Tryd.prog 76 = some false := by kernel_rfl
theorem siz76 : sizeIf Tryd.prog 76 = some 1 := by kernel_rfl
theorem inf76 : Inf Tryd.prog 76 .nilFunc 1 8 := inf_of (by kernel_rfl)
theorem agg77 : aggOf Tryd.prog 77 = some true := by kernel_rfl
theorem siz77 : sizeIf Tryd.prog 77 = some 4 := by kernel_rfl
theorem inf77 : Inf Tryd.prog 77 (.agg #[(.int .i64 0), (.int .i64 0), (.int .i64 0), (.int .i64 0)]) 4 32 := inf_of (by kernel_rfl)
theorem agg78 : aggOf Tryd.prog 78 = some true := by kernel_rfl
theorem siz78 : sizeIf Tryd.prog 78 = some 4 := by kernel_rfl
theorem inf78 : Inf Tryd.prog 78 (.agg #[(.int .i64 0), (.int .i64 0), (.int .i64 0), (.int .i64 0)]) 4 32 := inf_of (by kernel_rfl)
theorem agg79 : aggOf Tryd.prog 79 = some false := by kernel_rfl
theorem siz79 : sizeIf Tryd.prog 79 = some 1 := by kernel_rfl
theorem agg80 : aggOf Tryd.prog 80 = some false := by kernel_rfl
theorem siz80 : sizeIf Tryd.prog 80 = some 1 := by kernel_rfl
theorem inf80 : Inf Tryd.prog 80 .nilFunc 1 8 := inf_of (by kernel_rfl)
theorem agg81 : aggOf Tryd.prog 81 = some true := by kernel_rfl
theorem siz81 : sizeIf Tryd.prog 81 = some 4 := by kernel_rfl
theorem inf81 : Inf Tryd.prog 81 (.agg #[(.int .i64 0), (.int .i64 0), (.int .i64 0), (.int .i64 0)]) 4 32 := inf_of (by kernel_rfl)
theorem agg82 : aggOf Tryd.prog 82 = some false := by kernel_rfl
theorem siz82 : sizeIf Tryd.prog 82 = some 1 := by kernel_rfl
theorem agg83 : aggOf Tryd.prog 83 = some false := by kernel_rfl
theorem siz83 : sizeIf Tryd.prog 83 = some 1 := by kernel_rfl
theorem inf83 : Inf Tryd.prog 83 .nilFunc 1 8 := inf_of (by kernel_rfl)
theorem agg84 : aggOf Tryd.prog 84 = some false := by kernel_rfl
theorem siz84 : sizeIf Tryd.prog 84 = some 1 := by kernel_rfl
theorem agg85 : aggOf Tryd.prog 85 = some false := by kernel_rfl
theorem siz85 : sizeIf Tryd.prog 85 = some 1 := by kernel_rfl
theorem inf85 : Inf Tryd.prog 85 .nilFunc 1 8 := inf_of (by kernel_rfl)
theorem agg86 : aggOf Tryd.prog 86 = some false := by kernel_rfl
theorem siz86 : sizeIf Tryd.prog 86 = some 1 := by kernel_rfl
theorem agg87 : aggOf Tryd.prog 87 = some false := by kernel_rfl
theorem siz87 : sizeIf Tryd.prog 87 = some 1 := by kernel_rfl
theorem inf87 : Inf Tryd.prog 87 .nilFunc 1 8 := inf_of (by kernel_rfl)
theorem agg88 : aggOf Tryd.prog 88 = some false := by kernel_rfl
theorem siz88 : sizeIf Tryd.prog 88 = some 1 := by kernel_rfl
theorem inf88 : Inf Tryd.prog 88 .nilFunc 1 8 := inf_of (by kernel_rfl)
theorem agg89 : aggOf Tryd.prog 89 = some false := by kernel_rfl
theorem siz89 : sizeIf Tryd.prog 89 = some 1 := by kernel_rfl
theorem inf89 : Inf Tryd.prog 89 .nilFunc 1 8 := inf_of (by kernel_rfl)
theorem agg90 : aggOf Tryd.prog 90 = some false := by kernel_rfl
theorem siz90 : sizeIf Tryd.prog 90 = some 1 := by kernel_rfl
theorem inf90 : Inf Tryd.prog 90 .nilFunc 1 8 := inf_of (by kernel_rfl)
theorem agg91 : aggOf Tryd.prog 91 = some false := by kernel_rfl
theorem siz91 : sizeIf Tryd.prog 91 = some 1 := by kernel_rfl
theorem inf91 : Inf Tryd.prog 91 .nilFunc 1 8 := inf_of (by kernel_rfl)
theorem agg92 : aggOf Tryd.prog 92 = some false := by kernel_rfl
theorem siz92 : sizeIf Tryd.prog 92 = some 1 := by kernel_rfl
theorem inf92 : Inf Tryd.prog 92 .nilFunc 1 8 := inf_of (by kernel_rfl)
theorem agg93 : aggOf Tryd.prog 93 = some false := by kernel_rfl
theorem siz93 : sizeIf Tryd.prog 93 = some 1 := by kernel_rfl
theorem inf93 : Inf Tryd.prog 93 .nilFunc 1 8 := inf_of (by kernel_rfl)
theorem agg94 : aggOf Tryd.prog 94 = some false := by kernel_rfl
theorem siz94 : sizeIf Tryd.prog 94 = some 1 := by kernel_rfl
theorem inf94 : Inf Tryd.prog 94 .nilFunc 1 8 := inf_of (by kernel_rfl)
theorem agg95 : aggOf Tryd.prog 95 = some false := by kernel_rfl
theorem siz95 : sizeIf Tryd.prog 95 = some 1 := by kernel_rfl
theorem inf95 : Inf Tryd.prog 95 .nilFunc 1 8 := inf_of (by kernel_rfl)
theorem agg96 : aggOf Tryd.prog 96 = some false := by kernel_rfl
theorem siz96 : sizeIf Tryd.prog 96 = some 1 := by kernel_rfl
theorem inf96 : Inf Tryd.prog 96 .nilFunc 1 8 := inf_of (by kernel_rfl)
theorem agg97 : aggOf Tryd.prog 97 = some false := by kernel_rfl
theorem siz97 : sizeIf Tryd.prog 97 = some 1 := by kernel_rfl
theorem inf97 : Inf Tryd.prog 97 .nilFunc 1 8 := inf_of (by kernel_rfl)
theorem agg98 : aggOf Tryd.prog 98 = some false := by kernel_rfl
theorem siz98 : sizeIf Tryd.prog 98 = some 1 := by kernel_rfl
theorem inf98 : Inf Tryd.prog 98 .nilFunc 1 8 := inf_of (by kernel_rfl)
theorem agg99 : aggOf Tryd.prog 99 = some false := by kernel_rfl
theorem siz99 : sizeIf Tryd.prog 99 = some 1 := by kernel_rfl
theorem inf99 : Inf Tryd.prog 99 .nilFunc 1 8 := inf_of (by kernel_rfl)
theorem agg100 : aggOf Tryd.prog 100 = some false := by kernel_rfl
theorem siz100 : sizeIf Tryd.prog 100 = some 1 := by kernel_rfl
theorem agg101 : aggOf Tryd.prog 101 = some false := by kernel_rfl
theorem siz101 : sizeIf Tryd.prog 101 = some 1 := by kernel_rfl
theorem inf101 : Inf Tryd.prog 101 .nilFunc 1 8 := inf_of (by kernel_rfl)
theorem agg102 : aggOf Tryd.prog 102 = some false := by kernel_rfl
theorem siz102 : sizeIf Tryd.prog 102 = some 1 := by kernel_rfl
theorem agg103 : aggOf Tryd.prog 103 = some false := by kernel_rfl
theorem siz103 : sizeIf Tryd.prog 103 = some 1 := by kernel_rfl
theorem inf103 : Inf Tryd.prog 103 .nilFunc 1 8 := inf_of (by kernel_rfl)
theorem agg104 : aggOf Tryd.prog 104 = some false := by kernel_rfl
theorem siz104 : sizeIf Tryd.prog 104 = some 1 := by kernel_rfl
theorem inf104 : Inf Tryd.prog 104 (.int .u64 0) 1 8 := inf_of (by kernel_rfl)
theorem agg105 : aggOf Tryd.prog 105 = some false := by kernel_rfl
theorem siz105 : sizeIf Tryd.prog 105 = some 1 := by kernel_rfl
theorem agg106 : aggOf Tryd.prog 106 = some false := by kernel_rfl
theorem siz106 : sizeIf Tryd.prog 106 = some 1 := by kernel_rfl
theorem inf106 : Inf Tryd.prog 106 .nilFunc 1 8 := inf_of (by kernel_rfl)
theorem agg107 : aggOf Tryd.prog 107 = some true := by kernel_rfl
theorem siz107 : sizeIf Tryd.prog 107 = some 6 := by kernel_rfl
theorem inf107 : Inf Tryd.prog 107 (.agg #[(.slice none 0 0), (.slice none 0 0), (.slice none 0 0), (.int .i64 0), (.int .i64 0), (.int .i64 0)]) 6 96 := inf_of (by kernel_rfl)
theorem agg108 : aggOf Tryd.prog 108 = some true := by kernel_rfl
theorem siz108 : sizeIf Tryd.prog 108 = some 17 := by kernel_rfl
theorem inf108 : Inf Tryd.prog 108 (.agg #[(.slice none 0 0), (.slice none 0 0), (.slice none 0 0), (.slice none 0 0), (.slice none 0 0), (.slice none 0 0), (.int .i64 0), (.int .i64 0), (.int .i64 0), (.int .i64 0), (.int .i64 0), (.slice none 0 0), (.slice none 0 0), (.slice none 0 0), (.int .i64 0), (.int .i64 0), (.int .i64 0)]) 17 280 := inf_of (by kernel_rfl)
theorem agg109 : aggOf Tryd.prog 109 = some true := by kernel_rfl
theorem siz109 : sizeIf Tryd.prog 109 = some 17 := by kernel_rfl
theorem inf109 : Inf Tryd.prog 109 (.agg #[(.slice none 0 0), (.slice none 0 0), (.slice none 0 0), (.slice none 0 0), (.slice none 0 0), (.slice none 0 0), (.int .i64 0), (.int .i64 0), (.int .i64 0), (.int .i64 0), (.int .i64 0), (.slice none 0 0), (.slice none 0 0), (.slice none 0 0), (.int .i64 0), (.int .i64 0), (.int .i64 0)]) 17 280 := inf_of (by kernel_rfl)
theorem agg110 : aggOf Tryd.prog 110 = some false := by kernel_rfl
theorem siz110 : sizeIf Tryd.prog 110 = some 1 := by kernel_rfl
theorem inf110 : Inf Tryd.prog 110 (.int .u64 0) 1 8 := inf_of (by kernel_rfl)
theorem agg111 : aggOf Tryd.prog 111 = some false := by kernel_rfl
theorem siz111 : sizeIf Tryd.prog 111 = some 1 := by kernel_rfl
theorem inf111 : Inf Tryd.prog 111 .nilFunc 1 8 := inf_of (by kernel_rfl)
theorem agg112 : aggOf Tryd.prog 112 = some false := by kernel_rfl
theorem siz112 : sizeIf Tryd.prog 112 = some 1 := by kernel_rfl
theorem inf112 : Inf Tryd.prog 112 (.slice none 0 0) 1 24 := inf_of (by kernel_rfl)
theorem agg113 : aggOf Tryd.prog 113 = some true := by kernel_rfl
theorem siz113 : sizeIf Tryd.prog 113 = some 3 := by kernel_rfl
theorem inf113 : Inf Tryd.prog 113 (.agg #[(.int .i64 0), (.int .i64 0), (.int .i64 0)]) 3 24 := inf_of (by kernel_rfl)
theorem agg114 : aggOf Tryd.prog 114 = some true := by kernel_rfl
theorem siz114 : sizeIf Tryd.prog 114 = some 3 := by kernel_rfl
theorem inf114 : Inf Tryd.prog 114 (.agg #[(.int .i64 0), (.int .i64 0), (.int .i64 0)]) 3 24 := inf_of (by kernel_rfl)
theorem agg115 : aggOf Tryd.prog 115 = some false := by kernel_rfl
theorem siz115 : sizeIf Tryd.prog 115 = some 1 := by kernel_rfl
theorem agg116 : aggOf Tryd.prog 116 = some false := by kernel_rfl
theorem siz116 : sizeIf Tryd.prog 116 = some 1 := by kernel_rfl
theorem inf116 : Inf Tryd.prog 116 .nilFunc 1 8 := inf_of (by kernel_rfl)
theorem agg117 : aggOf Tryd.prog 117 = some false := by kernel_rfl
theorem siz117 : sizeIf Tryd.prog 117 = some 1 := by kernel_rfl
theorem agg118 : aggOf Tryd.prog 118 = some false := by kernel_rfl
theorem siz118 : sizeIf Tryd.prog 118 = some 1 := by kernel_rfl
theorem inf118 : Inf Tryd.prog 118 .nilFunc 1 8 := inf_of (by kernel_rfl)
theorem agg119 : aggOf Tryd.prog 119 = some false := by kernel_rfl
theorem siz119 : sizeIf Tryd.prog 119 = some 1 := by kernel_rfl
theorem inf119 : Inf Tryd.prog 119 .nilFunc 1 8 := inf_of (by kernel_rfl)
theorem agg120 : aggOf Tryd.prog 120 = some false := by kernel_rfl
theorem siz120 : sizeIf Tryd.prog 120 = some 1 := by kernel_rfl
theorem inf120 : Inf Tryd.prog 120 .nilFunc 1 8 := inf_of (by kernel_rfl)
theorem agg121 : aggOf Tryd.prog 121 = some false := by kernel_rfl
theorem siz121 : sizeIf Tryd.prog 121 = some 1 := by kernel_rfl
theorem inf121 : Inf Tryd.prog 121 .nilFunc 1 8 := inf_of (by kernel_rfl)
theorem agg122 : aggOf Tryd.prog 122 = some false := by kernel_rfl
theorem siz122 : sizeIf Tryd.prog 122 = some 1 := by kernel_rfl
theorem inf122 : Inf Tryd.prog 122 .nilFunc 1 8 := inf_of (by kernel_rfl)
theorem agg123 : aggOf Tryd.prog 123 = some true := by kernel_rfl
theorem siz123 : sizeIf Tryd.prog 123 = some 3 := by kernel_rfl
theorem inf123 : Inf Tryd.prog 123 (.agg #[(.int .i64 0), (.int .i64 0), (.int .i64 0)]) 3 24 := inf_of (by kernel_rfl)
theorem agg124 : aggOf Tryd.prog 124 = some false := by kernel_rfl
theorem siz124 : sizeIf Tryd.prog 124 = some 1 := by kernel_rfl
theorem inf124 : Inf Tryd.prog 124 .nilFunc 1 8 := inf_of (by kernel_rfl)
theorem agg125 : aggOf Tryd.prog 125 = some false := by kernel_rfl
theorem siz125 : sizeIf Tryd.prog 125 = some 1 := by kernel_rfl
theorem inf125 : Inf Tryd.prog 125 .nilFunc 1 8 := inf_of (by kernel_rfl)
theorem agg126 : aggOf Tryd.prog 126 = some false := by kernel_rfl
theorem siz126 : sizeIf Tryd.prog 126 = some 1 := by kernel_rfl
theorem inf126 : Inf Tryd.prog 126 .nilFunc 1 8 := inf_of (by kernel_rfl)
theorem agg127 : aggOf Tryd.prog 127 = some false := by kernel_rfl
theorem siz127 : sizeIf Tryd.prog 127 = some 1 := by kernel_rfl
theorem inf127 : Inf Tryd.prog 127 .nilFunc 1 8 := inf_of (by kernel_rfl)
theorem agg128 : aggOf Tryd.prog 128 = some true := by kernel_rfl
theorem siz128 : sizeIf Tryd.prog 128 = some 2 := by kernel_rfl
theorem inf128 : Inf Tryd.prog 128 (.agg #[(.slice none 0 0), (.slice none 0 0)]) 2 48 := inf_of (by kernel_rfl)
theorem agg129 : aggOf Tryd.prog 129 = some false := by kernel_rfl
theorem siz129 : sizeIf Tryd.prog 129 = some 1 := by kernel_rfl
theorem inf129 : Inf Tryd.prog 129 (.slice none 0 0) 1 24 := inf_of (by kernel_rfl)
theorem agg130 : aggOf Tryd.prog 130 = some false := by kernel_rfl
theorem siz130 : sizeIf Tryd.prog 130 = some 1 := by kernel_rfl
theorem inf130 : Inf Tryd.prog 130 .nilFunc 1 8 := inf_of (by kernel_rfl)
theorem agg131 : aggOf Tryd.prog 131 = some false := by kernel_rfl
theorem siz131 : sizeIf Tryd.prog 131 = some 1 := by kernel_rfl
theorem inf131 : Inf Tryd.prog 131 .nilFunc 1 8 := inf_of (by kernel_rfl)
theorem agg132 : aggOf Tryd.prog 132 = some false := by kernel_rfl
theorem siz132 : sizeIf Tryd.prog 132 = some 1 := by kernel_rfl
theorem inf132 : Inf Tryd.prog 132 .nilFunc 1 8 := inf_of (by kernel_rfl)
theorem agg133 : aggOf Tryd.prog 133 = some false := by kernel_rfl
theorem siz133 : sizeIf Tryd.prog 133 = some 1 := by kernel_rfl
theorem inf133 : Inf Tryd.prog 133 (.int .u64 0) 1 8 := inf_of (by kernel_rfl)
theorem agg134 : aggOf Tryd.prog 134 = some false := by kernel_rfl
theorem siz134 : sizeIf Tryd.prog 134 = some 1 := by kernel_rfl
theorem inf134 : Inf Tryd.prog 134 .nilFunc 1 8 := inf_of (by kernel_rfl)
theorem agg135 : aggOf Tryd.prog 135 = some false := by kernel_rfl
theorem siz135 : sizeIf Tryd.prog 135 = some 1 := by kernel_rfl
theorem inf135 : Inf Tryd.prog 135 .nilFunc 1 8 := inf_of (by kernel_rfl)
theorem agg136 : aggOf Tryd.prog 136 = some false := by kernel_rfl
theorem siz136 : sizeIf Tryd.prog 136 = some 1 := by kernel_rfl
theorem inf136 : Inf Tryd.prog 136 (.map none) 1 8 := inf_of (by kernel_rfl)
theorem agg137 : aggOf Tryd.prog 137 = some false := by kernel_rfl
theorem siz137 : sizeIf Tryd.prog 137 = some 1 := by kernel_rfl
theorem inf137 : Inf Tryd.prog 137 .nilFunc 1 8 := inf_of (by kernel_rfl)
theorem agg138 : aggOf Tryd.prog 138 = some false := by kernel_rfl
theorem siz138 : sizeIf Tryd.prog 138 = some 1 := by kernel_rfl
theorem inf138 : Inf Tryd.prog 138 (.pointer none) 1 8 := inf_of (by kernel_rfl)
theorem agg139 : aggOf Tryd.prog 139 = some false := by kernel_rfl
theorem siz139 : sizeIf Tryd.prog 139 = some 1 := by kernel_rfl
theorem inf139 : Inf Tryd.prog 139 .nilFunc 1 8 := inf_of (by kernel_rfl)
theorem agg140 : aggOf Tryd.prog 140 = some false := by kernel_rfl
theorem siz140 : sizeIf Tryd.prog 140 = some 1 := by kernel_rfl
theorem inf140 : Inf Tryd.prog 140 .nilFunc 1 8 := inf_of (by kernel_rfl)
theorem agg141 : aggOf Tryd.prog 141 = some false := by kernel_rfl
theorem siz141 : sizeIf Tryd.prog 141 = some 1 := by kernel_rfl
theorem inf141 : Inf Tryd.prog 141 .nilFunc 1 8 := inf_of (by kernel_rfl)
theorem agg142 : aggOf Tryd.prog 142 = some false := by kernel_rfl
theorem siz142 : sizeIf Tryd.prog 142 = some 1 := by kernel_rfl
theorem inf142 : Inf Tryd.prog 142 .nilFunc 1 8 := inf_of (by kernel_rfl)
theorem agg143 : aggOf Tryd.prog 143 = some false := by kernel_rfl
theorem siz143 : sizeIf Tryd.prog 143 = some 1 := by kernel_rfl
theorem inf143 : Inf Tryd.prog 143 .nilFunc 1 8 := inf_of (by kernel_rfl)
theorem agg144 : aggOf Tryd.prog 144 = some false := by kernel_rfl
theorem siz144 : sizeIf Tryd.prog 144 = some 1 := by kernel_rfl
theorem inf144 : Inf Tryd.prog 144 (.slice none 0 0) 1 24 := inf_of (by kernel_rfl)
theorem agg145 : aggOf Tryd.prog 145 = some false := by kernel_rfl
theorem siz145 : sizeIf Tryd.prog 145 = some 1 := by kernel_rfl
theorem inf145 : Inf Tryd.prog 145 .nilFunc 1 8 := inf_of (by kernel_rfl)
theorem agg146 : aggOf Tryd.prog 146 = some false := by kernel_rfl
theorem siz146 : sizeIf Tryd.prog 146 = some 1 := by kernel_rfl
theorem inf146 : Inf Tryd.prog 146 .nilFunc 1 8 := inf_of (by kernel_rfl)
theorem agg147 : aggOf Tryd.prog 147 = some false := by kernel_rfl
theorem siz147 : sizeIf Tryd.prog 147 = some 1 := by kernel_rfl
theorem inf147 : Inf Tryd.prog 147 .nilFunc 1 8 := inf_of (by kernel_rfl)
theorem agg148 : aggOf Tryd.prog 148 = some false := by kernel_rfl
theorem siz148 : sizeIf Tryd.prog 148 = some 1 := by kernel_rfl
theorem inf148 : Inf Tryd.prog 148 (.slice none 0 0) 1 24 := inf_of (by kernel_rfl)
theorem agg149 : aggOf Tryd.prog 149 = some false := by kernel_rfl
theorem siz149 : sizeIf Tryd.prog 149 = some 1 := by kernel_rfl
theorem inf149 : Inf Tryd.prog 149 (.pointer none) 1 8 := inf_of (by kernel_rfl)
theorem agg150 : aggOf Tryd.prog 150 = some false := by kernel_rfl
theorem siz150 : sizeIf Tryd.prog 150 = some 1 := by kernel_rfl
theorem inf150 : Inf Tryd.prog 150 .nilFunc 1 8 := inf_of (by kernel_rfl)
theorem agg151 : aggOf Tryd.prog 151 = some false := by kernel_rfl
theorem siz151 : sizeIf Tryd.prog 151 = some 1 := by kernel_rfl
theorem agg152 : aggOf Tryd.prog 152 = some false := by kernel_rfl
theorem siz152 : sizeIf Tryd.prog 152 = some 1 := by kernel_rfl
theorem inf152 : Inf Tryd.prog 152 .nilFunc 1 8 := inf_of (by kernel_rfl)
theorem agg153 : aggOf Tryd.prog 153 = some false := by kernel_rfl
theorem siz153 : sizeIf Tryd.prog 153 = some 1 := by kernel_rfl
theorem inf153 : Inf Tryd.prog 153 .nilFunc 1 8 := inf_of (by kernel_rfl)
theorem agg154 : aggOf Tryd.prog 154 = some false := by kernel_rfl
theorem siz154 : sizeIf Tryd.prog 154 = some 1 := by kernel_rfl
theorem agg155 : aggOf Tryd.prog 155 = some false := by kernel_rfl
theorem siz155 : sizeIf Tryd.prog 155 = some 1 := by kernel_rfl
theorem inf155 : Inf Tryd.prog 155 .nilFunc 1 8 := inf_of (by kernel_rfl)
theorem agg156 : aggOf Tryd.prog 156 = some true := by kernel_rfl
theorem siz156 : sizeIf Tryd.prog 156 = some 65 := by kernel_rfl
theorem inf156 : Inf Tryd.prog 156 (.agg #[(.int .i8 0), (.int .i8 0), (.int .i8 0), (.int .i8 0), (.int .i8 0), (.int .i8 0), (.int .i8 0), (.int .i8 0), (.int .i8 0), (.int .i8 0), (.int .i8 0), (.int .i8 0), (.int .i8 0), (.int .i8 0), (.int .i8 0), (.int .i8 0), (.int .i8 0), (.int .i8 0), (.int .i8 0), (.int .i8 0), (.int .i8 0), (.int .i8 0), (.int .i8 0), (.int .i8 0), (.int .i8 0), (.int .i8 0), (.int .i8 0), (.int .i8 0), (.int .i8 0), (.int .i8 0), (.int .i8 0), (.int .i8 0), (.int .i8 0), (.int .i8 0), (.int .i8 0), (.int .i8 0), (.int .i8 0), (.int .i8 0), (.int .i8 0), (.int .i8 0), (.int .i8 0), (.int .i8 0), (.int .i8 0), (.int .i8 0), (.int .i8 0), (.int .i8 0), (.int .i8 0), (.int .i8 0), (.int .i8 0), (.int .i8 0), (.int .i8 0), (.int .i8 0), (.int .i8 0), (.int .i8 0), (.int .i8 0), (.int .i8 0), (.int .i8 0), (.int .i8 0), (.int .i8 0), (.int .i8 0), (.int .i8 0), (.int .i8 0), (.int .i8 0), (.int .i8 0), (.int .i8 0)]) 65 65 := inf_of (by kernel_rfl)
theorem agg157 : aggOf Tryd.prog 157 = some false := by kernel_rfl
theorem siz157 : sizeIf Tryd.prog 157 = some 1 := by kernel_rfl
theorem inf157 : Inf Tryd.prog 157 .nilFunc 1 8 := inf_of (by kernel_rfl)
theorem agg158 : aggOf Tryd.prog 158 = some false := by kernel_rfl
theorem siz158 : sizeIf Tryd.prog 158 = some 1 := by kernel_rfl
theorem inf158 : Inf Tryd.prog 158 (.map none) 1 8 := inf_of (by kernel_rfl)
theorem agg159 : aggOf Tryd.prog 159 = some false := by kernel_rfl
theorem siz159 : sizeIf Tryd.prog 159 = some 1 := by kernel_rfl
theorem agg160 : aggOf Tryd.prog 160 = some false := by kernel_rfl
theorem siz160 : sizeIf Tryd.prog 160 = some 1 := by kernel_rfl
theorem inf160 : Inf Tryd.prog 160 (.map none) 1 8 := inf_of (by kernel_rfl)
theorem agg161 : aggOf Tryd.prog 161 = some true := by kernel_rfl
theorem siz161 : sizeIf Tryd.prog 161 = some 2 := by kernel_rfl
theorem inf161 : Inf Tryd.prog 161 (.agg #[(.int .i64 0), (.int .i64 0)]) 2 16 := inf_of (by kernel_rfl)
theorem agg162 : aggOf Tryd.prog 162 = some false := by kernel_rfl
theorem siz162 : sizeIf Tryd.prog 162 = some 1 := by kernel_rfl
theorem inf162 : Inf Tryd.prog 162 .nilFunc 1 8 := inf_of (by kernel_rfl)
theorem agg163 : aggOf Tryd.prog 163 = some false := by kernel_rfl
theorem siz163 : sizeIf Tryd.prog 163 = some 1 := by kernel_rfl
theorem inf163 : Inf Tryd.prog 163 .nilFunc 1 8 := inf_of (by kernel_rfl)
theorem agg164 : aggOf Tryd.prog 164 = some false := by kernel_rfl
theorem siz164 : sizeIf Tryd.prog 164 = some 1 := by kernel_rfl
theorem inf164 : Inf Tryd.prog 164 (.slice none 0 0) 1 24 := inf_of (by kernel_rfl)
theorem agg165 : aggOf Tryd.prog 165 = some false := by kernel_rfl
theorem siz165 : sizeIf Tryd.prog 165 = some 1 := by kernel_rfl
theorem inf165 : Inf Tryd.prog 165 .nilFunc 1 8 := inf_of (by kernel_rfl)
theorem agg166 : aggOf Tryd.prog 166 = some false := by kernel_rfl
theorem siz166 : sizeIf Tryd.prog 166 = some 1 := by kernel_rfl
theorem inf166 : Inf Tryd.prog 166 .nilFunc 1 8 := inf_of (by kernel_rfl)
theorem agg167 : aggOf Tryd.prog 167 = some false := by kernel_rfl
theorem siz167 : sizeIf Tryd.prog 167 = some 1 := by kernel_rfl
theorem inf167 : Inf Tryd.prog 167 .nilFunc 1 8 := inf_of (by kernel_rfl)
theorem agg168 : aggOf Tryd.prog 168 = some false := by kernel_rfl
theorem siz168 : sizeIf Tryd.prog 168 = some 1 := by kernel_rfl
theorem agg169 : aggOf Tryd.prog 169 = some false := by kernel_rfl
theorem siz169 : sizeIf Tryd.prog 169 = some 1 := by kernel_rfl
theorem inf169 : Inf Tryd.prog 169 .nilFunc 1 8 := inf_of (by kernel_rfl)
theorem agg170 : aggOf Tryd.prog 170 = some false := by kernel_rfl
theorem siz170 : sizeIf Tryd.prog 170 = some 1 := by kernel_rfl
theorem inf170 : Inf Tryd.prog 170 .nilFunc 1 8 := inf_of (by kernel_rfl)
theorem agg171 : aggOf Tryd.prog 171 = some false := by kernel_rfl
theorem siz171 : sizeIf Tryd.prog 171 = some 1 := by kernel_rfl
theorem inf171 : Inf Tryd.prog 171 .nilFunc 1 8 := inf_of (by kernel_rfl)
theorem agg172 : aggOf Tryd.prog 172 = some false := by kernel_rfl
theorem siz172 : sizeIf Tryd.prog 172 = some 1 := by kernel_rfl
theorem inf172 : Inf Tryd.prog 172 .nilFunc 1 8 := inf_of (by kernel_rfl)
theorem agg173 : aggOf Tryd.prog 173 = some false := by kernel_rfl
theorem siz173 : sizeIf Tryd.prog 173 = some 1 := by kernel_rfl
theorem agg174 : aggOf Tryd.prog 174 = some false := by kernel_rfl
theorem siz174 : sizeIf Tryd.prog 174 = some 1 := by kernel_rfl
theorem inf174 : Inf Tryd.prog 174 .nilFunc 1 8 := inf_of (by kernel_rfl)
theorem agg175 : aggOf Tryd.prog 175 = some false := by kernel_rfl
theorem siz175 : sizeIf Tryd.prog 175 = some 1 := by kernel_rfl
theorem inf175 : Inf Tryd.prog 175 .nilFunc 1 8 := inf_of (by kernel_rfl)
theorem agg176 : aggOf Tryd.prog 176 = some false := by kernel_rfl
theorem siz176 : sizeIf Tryd.prog 176 = some 1 := by kernel_rfl
theorem inf176 : Inf Tryd.prog 176 (.int .u32 0) 1 4 := inf_of (by kernel_rfl)
theorem agg177 : aggOf Tryd.prog 177 = some false := by kernel_rfl
theorem siz177 : sizeIf Tryd.prog 177 = some 1 := by kernel_rfl
theorem agg178 : aggOf Tryd.prog 178 = some false := by kernel_rfl
theorem siz178 : sizeIf Tryd.prog 178 = some 1 := by kernel_rfl
theorem inf178 : Inf Tryd.prog 178 .nilFunc 1 8 := inf_of (by kernel_rfl)
theorem agg179 : aggOf Tryd.prog 179 = some false := by kernel_rfl
theorem siz179 : sizeIf Tryd.prog 179 = some 1 := by kernel_rfl
theorem agg180 : aggOf Tryd.prog 180 = some false := by kernel_rfl
theorem siz180 : sizeIf Tryd.prog 180 = some 1 := by kernel_rfl
theorem inf180 : Inf Tryd.prog 180 .nilFunc 1 8 := inf_of (by kernel_rfl)
theorem agg181 : aggOf Tryd.prog 181 = some false := by kernel_rfl
theorem siz181 : sizeIf Tryd.prog 181 = some 1 := by kernel_rfl
theorem agg182 : aggOf Tryd.prog 182 = some false := by kernel_rfl
theorem siz182 : sizeIf Tryd.prog 182 = some 1 := by kernel_rfl
theorem inf182 : Inf Tryd.prog 182 .nilFunc 1 8 := inf_of (by kernel_rfl)
theorem agg183 : aggOf Tryd.prog 183 = some false := by kernel_rfl
theorem siz183 : sizeIf Tryd.prog 183 = some 1 := by kernel_rfl
theorem inf183 : Inf Tryd.prog 183 .nilFunc 1 8 := inf_of (by kernel_rfl)
theorem agg184 : aggOf Tryd.prog 184 = some false := by kernel_rfl
theorem siz184 : sizeIf Tryd.prog 184 = some 1 := by kernel_rfl
theorem inf184 : Inf Tryd.prog 184 .nilFunc 1 8 := inf_of (by kernel_rfl)
theorem agg185 : aggOf Tryd.prog 185 = some false := by kernel_rfl
theorem siz185 : sizeIf Tryd.prog 185 = some 1 := by kernel_rfl
theorem inf185 : Inf Tryd.prog 185 .nilFunc 1 8 := inf_of (by kernel_rfl)
theorem agg186 : aggOf Tryd.prog 186 = some false := by kernel_rfl
theorem siz186 : sizeIf Tryd.prog 186 = some 1 := by kernel_rfl
theorem inf186 : Inf Tryd.prog 186 .nilFunc 1 8 := inf_of (by kernel_rfl)
theorem agg187 : aggOf Tryd.prog 187 = some false := by kernel_rfl
theorem siz187 : sizeIf Tryd.prog 187 = some 1 := by kernel_rfl
theorem inf187 : Inf Tryd.prog 187 .nilFunc 1 8 := inf_of (by kernel_rfl)
theorem agg188 : aggOf Tryd.prog 188 = some false := by kernel_rfl
theorem siz188 : sizeIf Tryd.prog 188 = some 1 := by kernel_rfl
theorem inf188 : Inf Tryd.prog 188 .nilFunc 1 8 := inf_of (by kernel_rfl)
theorem agg189 : aggOf Tryd.prog 189 = some false := by kernel_rfl
theorem siz189 : sizeIf Tryd.prog 189 = some 1 := by kernel_rfl
theorem inf189 : Inf Tryd.prog 189 .nilFunc 1 8 := inf_of (by kernel_rfl)
theorem agg190 : aggOf Tryd.prog 190 = some true := by kernel_rfl
theorem siz190 : sizeIf Tryd.prog 190 = some 4 := by kernel_rfl
theorem inf190 : Inf Tryd.prog 190 (.agg #[(.int .i64 0), (.int .i64 0), (.int .i64 0), (.int .i64 0)]) 4 32 := inf_of (by kernel_rfl)
theorem agg191 : aggOf Tryd.prog 191 = some false := by kernel_rfl
theorem siz191 : sizeIf Tryd.prog 191 = some 1 := by kernel_rfl
theorem inf191 : Inf Tryd.prog 191 .nilFunc 1 8 := inf_of (by kernel_rfl)
theorem agg192 : aggOf Tryd.prog 192 = some false := by kernel_rfl
theorem siz192 : sizeIf Tryd.prog 192 = some 1 := by kernel_rfl
theorem inf192 : Inf Tryd.prog 192 .nilFunc 1 8 := inf_of (by kernel_rfl)
theorem agg193 : aggOf Tryd.prog 193 = some true := by kernel_rfl
theorem siz193 : sizeIf Tryd.prog 193 = some 4 := by kernel_rfl
theorem inf193 : Inf Tryd.prog 193 (.agg #[(.pointer none), (.pointer none), (.pointer none), (.string ⟨#[]⟩)]) 4 40 := inf_of (by kernel_rfl)
theorem agg194 : aggOf Tryd.prog 194 = some true := by kernel_rfl
theorem siz194 : sizeIf Tryd.prog 194 = some 4 := by kernel_rfl
theorem inf194 : Inf Tryd.prog 194 (.agg #[(.pointer none), (.pointer none), (.pointer none), (.string ⟨#[]⟩)]) 4 40 := inf_of (by kernel_rfl)
theorem agg195 : aggOf Tryd.prog 195 = some true := by kernel_rfl
theorem siz195 : sizeIf Tryd.prog 195 = some 0 := by kernel_rfl
theorem inf195 : Inf Tryd.prog 195 (.agg #[]) 0 0 := inf_of (by kernel_rfl)
theorem agg196 : aggOf Tryd.prog 196 = some true := by kernel_rfl
theorem siz196 : sizeIf Tryd.prog 196 = some 0 := by kernel_rfl
theorem inf196 : Inf Tryd.prog 196 (.agg #[]) 0 0 := inf_of (by kernel_rfl)
theorem agg197 : aggOf Tryd.prog 197 = some true := by kernel_rfl
theorem siz197 : sizeIf Tryd.prog 197 = some 0 := by kernel_rfl
theorem inf197 : Inf Tryd.prog 197 (.agg #[]) 0 0 := inf_of (by kernel_rfl)
theorem agg198 : aggOf Tryd.prog 198 = some false := by kernel_rfl
theorem siz198 : sizeIf Tryd.prog 198 = some 1 := by kernel_rfl
theorem inf198 : Inf Tryd.prog 198 .nilFunc 1 8 := inf_of (by kernel_rfl)
theorem agg199 : aggOf Tryd.prog 199 = some false := by kernel_rfl
theorem siz199 : sizeIf Tryd.prog 199 = some 1 := by kernel_rfl
theorem inf199 : Inf Tryd.prog 199 (.int .u8 0) 1 1 := inf_of (by kernel_rfl)
theorem agg200 : aggOf Tryd.prog 200 = some false := by kernel_rfl
theorem siz200 : sizeIf Tryd.prog 200 = some 1 := by kernel_rfl
theorem inf200 : Inf Tryd.prog 200 (.int .u8 0) 1 1 := inf_of (by kernel_rfl)
theorem agg201 : aggOf Tryd.prog 201 = some false := by kernel_rfl
theorem siz201 : sizeIf Tryd.prog 201 = some 1 := by kernel_rfl
theorem inf201 : Inf Tryd.prog 201 .nilFunc 1 8 := inf_of (by kernel_rfl)
theorem agg202 : aggOf Tryd.prog 202 = some false := by kernel_rfl
theorem siz202 : sizeIf Tryd.prog 202 = some 1 := by kernel_rfl
theorem inf202 : Inf Tryd.prog 202 (.pointer none) 1 8 := inf_of (by kernel_rfl)
theorem agg203 : aggOf Tryd.prog 203 = some false := by kernel_rfl
theorem siz203 : sizeIf Tryd.prog 203 = some 1 := by kernel_rfl
theorem inf203 : Inf Tryd.prog 203 (.int .i32 0) 1 4 := inf_of (by kernel_rfl)
theorem agg204 : aggOf Tryd.prog 204 = some false := by kernel_rfl
theorem siz204 : sizeIf Tryd.prog 204 = some 1 := by kernel_rfl
theorem inf204 : Inf Tryd.prog 204 (.int .i32 0) 1 4 := inf_of (by kernel_rfl)
theorem agg205 : aggOf Tryd.prog 205 = some true := by kernel_rfl
theorem siz205 : sizeIf Tryd.prog 205 = some 11 := by kernel_rfl
theorem inf205 : Inf Tryd.prog 205 (.agg #[(.int .u64 0), (.int .u64 0), (.int .u32 0), (.int .u8 0), (.int .u8 0), (.int .u8 0), (.int .u8 0), .nilFunc, (.pointer none), (.int .i32 0), (.int .i32 0)]) 11 48 := inf_of (by kernel_rfl)
theorem agg206 : aggOf Tryd.prog 206 = some true := by kernel_rfl
theorem siz206 : sizeIf Tryd.prog 206 = some 11 := by kernel_rfl
theorem inf206 : Inf Tryd.prog 206 (.agg #[(.int .u64 0), (.int .u64 0), (.int .u32 0), (.int .u8 0), (.int .u8 0), (.int .u8 0), (.int .u8 0), .nilFunc, (.pointer none), (.int .i32 0), (.int .i32 0)]) 11 48 := inf_of (by kernel_rfl)
theorem agg207 : aggOf Tryd.prog 207 = some false := by kernel_rfl
theorem siz207 : sizeIf Tryd.prog 207 = some 1 := by kernel_rfl
theorem inf207 : Inf Tryd.prog 207 (.pointer none) 1 8 := inf_of (by kernel_rfl)
section
variable {fn : Func} {R : Ending → World → Prop} {n : Nat} {w : World} {k : List It} {env : Env} {L l : List Oper} {C : World → Prop} {Q : Act → Prop}
theorem sA (st : List Nat) {k' : List It} {e e' : Exit} {env' : Env} (h : Go.Wk.stepF tab n st 400 k e env = some (k', e', env')) (hk : H Tryd.prog fn R n k' e' env' w) : H Tryd.prog fn R n k e env w := stepF_ok tabOk st h hk
theorem qA {l' : List Oper} {env' : Env} (h : stepQF tab n L 400 l env = some (l', env')) (hk : HQ Tryd.prog C n Q L l' env') : HQ Tryd.prog C n Q L l env := stepQF_ok tabOk h hk
theorem sB (st : List Nat) {k' : List It} {e e' : Exit} {env' : Env} (h : Go.Wk.stepF tab n st 16 k e env = some (k', e', env')) (hk : H Tryd.prog fn R n k' e' env' w) : H Tryd.prog fn R n k e env w := stepF_ok tabOk st h hk
theorem qB {l' : List Oper} {env' : Env} (h : stepQF tab n L 16 l env = some (l', env')) (hk : HQ Tryd.prog C n Q L l' env') : HQ Tryd.prog C n Q L l env := stepQF_ok tabOk h hk
theorem sC (st : List Nat) {k' : List It} {e e' : Exit} {env' : Env} (h : Go.Wk.stepF tab n st 3 k e env = some (k', e', env')) (hk : H Tryd.prog fn R n k' e' env' w) : H Tryd.prog fn R n k e env w := stepF_ok tabOk st h hk
theorem qC {l' : List Oper} {env' : Env} (h : stepQF tab n L 3 l env = some (l', env')) (hk : HQ Tryd.prog C n Q L l' env') : HQ Tryd.prog C n Q L l env := stepQF_ok tabOk h hk
theorem sD (st : List Nat) {k' : List It} {e e' : Exit} {env' : Env} (h : Go.Wk.stepF tab n st 0 k e env = some (k', e', env')) (hk : H Tryd.prog fn R n k' e' env' w) : H Tryd.prog fn R n k e env w := stepF_ok tabOk st h hk
theorem qD {l' : List Oper} {env' : Env} (h : stepQF tab n L 0 l env = some (l', env')) (hk : HQ Tryd.prog C n Q L l' env') : HQ Tryd.prog C n Q L l env := stepQF_ok tabOk h hk
theorem mA {f : Nat} {dn : List Nat} {i : Nat} {is : List Nat} {f' : Nat} {dn' : List Nat} {env' : Env} (h : runN tab n L 400 f dn env = (i :: is, f', dn', env'))
    (hs : Region.noSelect L.toArray = true) (hf : freeAll L dn (i :: is) = true) (hk : H Tryd.prog fn R n (.inv (anyS Tryd.prog C (semK Tryd.prog fn R k) L f' dn') :: k) .normal env' w) : H Tryd.prog fn R n (.inv (anyS Tryd.prog C (semK Tryd.prog fn R k) L f dn) :: k) .normal env w := mix_run 400 tabOk h hs hf hk
end

end Go.Wk.YtfgllkflnkolhaaDoor
