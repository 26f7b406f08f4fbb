import Derived.Test.YtdelgnflcfhhkaaGreatDoorProg
import Derived.Test.YtdelgnflcfhhkaaGreatDoorMevs
import Derived.KernelRfl
set_option linter.unusedVariables false
namespace Go.Wk.YtdelgnflcfhhkaaGreatDoor
open Go Go.Wk Go.Proofs
/-- the types of this seat's program, as far as straight code asks of them -/
def tab : Tab := [
  (2, .int .i64, 1),
  (3, .int .i64, 1),
  (4, .bool, 1),
  (5, .int .u8, 1),
  (6, .int .u8, 1),
  (7, .struct [(0, 1, false), (1, 1, false), (2, 1, false), (3, 1, false)], 4),
  (8, .struct [(0, 1, false), (1, 1, false), (2, 1, false), (3, 1, false)], 4),
  (9, .str, 1),
  (10, .str, 1),
  (11, .str, 1),
  (12, .int .u64, 1),
  (13, .struct [(0, 1, false), (1, 1, false)], 2),
  (14, .struct [(0, 1, false), (1, 1, false)], 2),
  (15, .ptr 281, 1),
  (16, .ptr 284, 1),
  (17, .ptr 292, 1),
  (18, .struct [(0, 1, false)], 1),
  (19, .struct [(0, 1, false)], 1),
  (21, .int .i32, 1),
  (22, .slice 31 3, 1),
  (23, .int .i64, 1),
  (26, .slice 32 3, 1),
  (30, .struct [(0, 1, false), (1, 1, false), (2, 1, false)], 3),
  (31, .struct [(0, 1, false), (1, 1, false), (2, 1, false)], 3),
  (32, .struct [(0, 1, false), (1, 1, false), (2, 1, false)], 3),
  (34, .struct [(0, 1, false), (1, 1, false), (2, 1, false), (3, 1, false), (4, 1, false), (5, 1, false)], 6),
  (35, .struct [(0, 1, false), (1, 1, false), (2, 1, false), (3, 1, false), (4, 1, false), (5, 1, false)], 6),
  (36, .slice 9 1, 1),
  (37, .slice 100 3, 1),
  (38, .struct [(0, 1, false), (1, 1, false)], 2),
  (39, .struct [(0, 1, false), (1, 1, false)], 2),
  (40, .slice 170 1, 1),
  (41, .slice 110 10, 1),
  (42, .struct [(0, 1, false), (1, 1, false), (2, 1, false), (3, 1, false)], 4),
  (43, .struct [(0, 1, false), (1, 1, false), (2, 1, false), (3, 1, false)], 4),
  (44, .slice 177 1, 1),
  (45, .slice 73 17, 1),
  (46, .struct [(0, 6, true), (6, 2, true), (8, 1, false), (9, 1, false), (10, 1, false), (11, 1, false), (12, 1, false), (13, 1, false), (14, 1, false), (15, 1, false), (16, 1, false)], 17),
  (47, .struct [(0, 6, true), (6, 2, true), (8, 1, false), (9, 1, false), (10, 1, false), (11, 1, false), (12, 1, false), (13, 1, false), (14, 1, false), (15, 1, false), (16, 1, false)], 17),
  (50, .struct [(0, 1, false), (1, 1, false), (2, 1, false), (3, 1, false), (4, 1, false), (5, 1, false)], 6),
  (51, .slice 134 3, 1),
  (52, .struct [(0, 1, false), (1, 1, false)], 2),
  (53, .struct [(0, 1, false), (1, 1, false)], 2),
  (54, .slice 86 17, 1),
  (55, .struct [(0, 6, true), (6, 2, true), (8, 1, false), (9, 1, false), (10, 1, false), (11, 1, false), (12, 1, false), (13, 1, false), (14, 1, false), (15, 1, false), (16, 1, false)], 17),
  (56, .struct [(0, 6, true), (6, 2, true), (8, 1, false), (9, 1, false), (10, 1, false), (11, 1, false), (12, 1, false), (13, 1, false), (14, 1, false), (15, 1, false), (16, 1, false)], 17),
  (60, .slice 130 10, 1),
  (61, .struct [(0, 1, false), (1, 1, false), (2, 1, false), (3, 1, false)], 4),
  (62, .struct [(0, 1, false), (1, 1, false), (2, 1, false), (3, 1, false)], 4),
  (69, .ptr 73, 1),
  (70, .struct [(0, 1, false), (1, 1, false), (2, 1, false), (3, 1, false), (4, 1, false), (5, 1, false)], 6),
  (71, .struct [(0, 1, false), (1, 1, false), (2, 1, false), (3, 1, false), (4, 1, false), (5, 1, false)], 6),
  (72, .struct [(0, 1, false), (1, 1, false), (2, 1, false), (3, 1, false), (4, 1, false), (5, 1, false), (6, 1, false), (7, 1, false), (8, 1, false), (9, 1, false), (10, 1, false), (11, 6, true)], 17),
  (73, .struct [(0, 1, false), (1, 1, false), (2, 1, false), (3, 1, false), (4, 1, false), (5, 1, false), (6, 1, false), (7, 1, false), (8, 1, false), (9, 1, false), (10, 1, false), (11, 6, true)], 17),
  (75, .slice 112 1, 1),
  (77, .slice 81 1, 1),
  (78, .slice 3 1, 1),
  (81, .ptr 44, 1),
  (84, .struct [(0, 1, false), (1, 1, false), (2, 1, false), (3, 1, false), (4, 1, false), (5, 1, false)], 6),
  (85, .struct [(0, 1, false), (1, 1, false), (2, 1, false), (3, 1, false), (4, 1, false), (5, 1, false), (6, 1, false), (7, 1, false), (8, 1, false), (9, 1, false), (10, 1, false), (11, 6, true)], 17),
  (86, .struct [(0, 1, false), (1, 1, false), (2, 1, false), (3, 1, false), (4, 1, false), (5, 1, false), (6, 1, false), (7, 1, false), (8, 1, false), (9, 1, false), (10, 1, false), (11, 6, true)], 17),
  (94, .ptr 96, 1),
  (95, .struct [(0, 1, false)], 1),
  (96, .struct [(0, 1, false)], 1),
  (99, .struct [(0, 1, false), (1, 1, false), (2, 1, false)], 3),
  (100, .struct [(0, 1, false), (1, 1, false), (2, 1, false)], 3),
  (109, .struct [(0, 1, false), (1, 1, false), (2, 1, false), (3, 1, false), (4, 1, false), (5, 1, false), (6, 1, false), (7, 1, false), (8, 1, false), (9, 1, false)], 10),
  (110, .struct [(0, 1, false), (1, 1, false), (2, 1, false), (3, 1, false), (4, 1, false), (5, 1, false), (6, 1, false), (7, 1, false), (8, 1, false), (9, 1, false)], 10),
  (112, .ptr 3, 1),
  (114, .struct [(0, 1, false), (1, 1, false)], 2),
  (115, .struct [(0, 1, false), (1, 1, false)], 2),
  (119, .slice 122 3, 1),
  (121, .struct [(0, 1, false), (1, 1, false), (2, 1, false)], 3),
  (122, .struct [(0, 1, false), (1, 1, false), (2, 1, false)], 3),
  (123, .slice 44 1, 1),
  (130, .struct [(0, 1, false), (1, 1, false), (2, 1, false), (3, 1, false), (4, 1, false), (5, 1, false), (6, 1, false), (7, 1, false), (8, 1, false), (9, 1, false)], 10),
  (134, .struct [(0, 1, false), (1, 1, false), (2, 1, false)], 3),
  (140, .ptr 144, 1),
  (141, .ptr 195, 1),
  (143, .struct [(0, 1, false), (1, 1, false)], 2),
  (144, .struct [(0, 1, false), (1, 1, false)], 2),
  (146, .struct [(0, 1, false), (1, 1, false)], 2),
  (147, .struct [(0, 1, false), (1, 1, false)], 2),
  (148, .struct [(0, 2, true), (2, 1, false)], 3),
  (149, .struct [(0, 2, true), (2, 1, false)], 3),
  (158, .ptr 208, 1),
  (162, .ptr 35, 1),
  (168, .slice 40 1, 1),
  (170, .int .u32, 1),
  (171, .struct [(0, 1, false), (1, 1, false), (2, 1, false), (3, 1, false)], 4),
  (172, .struct [(0, 1, false), (1, 1, false), (2, 1, false), (3, 1, false)], 4),
  (177, .int .i8, 1),
  (180, .map 3 179, 1),
  (183, .slice 2 1, 1),
  (191, .int .u64, 1),
  (193, .slice 5 1, 1),
  (194, .struct [(0, 1, false), (1, 1, false)], 2),
  (195, .struct [(0, 1, false), (1, 1, false)], 2),
  (207, .struct [(0, 1, false)], 1),
  (208, .struct [(0, 1, false)], 1),
  (210, .int .u64, 1),
  (217, .slice 172 4, 1),
  (219, .arr 65 177 1 false, 65),
  (235, .arr 24 5 1 false, 24),
  (241, .arr 4 3 1 false, 4),
  (249, .map 9 3, 1),
  (251, .map 252 3, 1),
  (252, .arr 2 3 1 false, 2),
  (266, .arr 20 191 1 false, 20),
  (267, .arr 65 5 1 false, 65),
  (268, .arr 32 5 1 false, 32),
  (269, .arr 64 5 1 false, 64),
  (272, .arr 4 2 1 false, 4),
  (280, .struct [(0, 1, false), (1, 1, false), (2, 1, false), (3, 1, false)], 4),
  (281, .struct [(0, 1, false), (1, 1, false), (2, 1, false), (3, 1, false)], 4),
  (282, .arr 0 16 1 false, 0),
  (283, .struct [(0, 0, true)], 0),
  (284, .struct [(0, 0, true)], 0),
  (285, .int .u8, 1),
  (286, .int .u8, 1),
  (288, .ptr 5, 1),
  (289, .int .i32, 1),
  (290, .int .i32, 1),
  (291, .struct [(0, 1, false), (1, 1, false), (2, 1, false), (3, 1, false), (4, 1, false), (5, 1, false), (6, 1, false), (7, 1, false), (8, 1, false), (9, 1, false), (10, 1, false)], 11),
  (292, .struct [(0, 1, false), (1, 1, false), (2, 1, false), (3, 1, false), (4, 1, false), (5, 1, false), (6, 1, false), (7, 1, false), (8, 1, false), (9, 1, false), (10, 1, false)], 11)]
theorem tabOk : TabOk Tryz.prog tab := tabOk_of (by kernel_rfl)
theorem agg0 : aggOf Tryz.prog 0 = some false := by kernel_rfl
theorem siz0 : sizeIf Tryz.prog 0 = some 1 := by kernel_rfl
theorem agg1 : aggOf Tryz.prog 1 = some false := by kernel_rfl
theorem siz1 : sizeIf Tryz.prog 1 = some 1 := by kernel_rfl
theorem inf1 : Inf Tryz.prog 1 .nilFunc 1 8 := inf_of (by kernel_rfl)
theorem agg2 : aggOf Tryz.prog 2 = some false := by kernel_rfl
theorem siz2 : sizeIf Tryz.prog 2 = some 1 := by kernel_rfl
theorem inf2 : Inf Tryz.prog 2 (.int .i64 0) 1 8 := inf_of (by kernel_rfl)
theorem agg3 : aggOf Tryz.prog 3 = some false := by kernel_rfl
theorem siz3 : sizeIf Tryz.prog 3 = some 1 := by kernel_rfl
theorem inf3 : Inf Tryz.prog 3 (.int .i64 0) 1 8 := inf_of (by kernel_rfl)
theorem agg4 : aggOf Tryz.prog 4 = some false := by kernel_rfl
theorem siz4 : sizeIf Tryz.prog 4 = some 1 := by kernel_rfl
theorem inf4 : Inf Tryz.prog 4 (.bool false) 1 1 := inf_of (by kernel_rfl)
theorem agg5 : aggOf Tryz.prog 5 = some false := by kernel_rfl
theorem siz5 : sizeIf Tryz.prog 5 = some 1 := by kernel_rfl
theorem inf5 : Inf Tryz.prog 5 (.int .u8 0) 1 1 := inf_of (by kernel_rfl)
theorem agg6 : aggOf Tryz.prog 6 = some false := by kernel_rfl
theorem siz6 : sizeIf Tryz.prog 6 = some 1 := by kernel_rfl
theorem inf6 : Inf Tryz.prog 6 (.int .u8 0) 1 1 := inf_of (by kernel_rfl)
theorem agg7 : aggOf Tryz.prog 7 = some true := by kernel_rfl
theorem siz7 : sizeIf Tryz.prog 7 = some 4 := by kernel_rfl
theorem inf7 : Inf Tryz.prog 7 (.agg #[(.int .i64 0), (.int .i64 0), (.bool false), (.int .u8 0)]) 4 24 := inf_of (by kernel_rfl)
theorem agg8 : aggOf Tryz.prog 8 = some true := by kernel_rfl
theorem siz8 : sizeIf Tryz.prog 8 = some 4 := by kernel_rfl
theorem inf8 : Inf Tryz.prog 8 (.agg #[(.int .i64 0), (.int .i64 0), (.bool false), (.int .u8 0)]) 4 24 := inf_of (by kernel_rfl)
theorem agg9 : aggOf Tryz.prog 9 = some false := by kernel_rfl
theorem siz9 : sizeIf Tryz.prog 9 = some 1 := by kernel_rfl
theorem inf9 : Inf Tryz.prog 9 (.string ⟨#[]⟩) 1 16 := inf_of (by kernel_rfl)
theorem agg10 : aggOf Tryz.prog 10 = some false := by kernel_rfl
theorem siz10 : sizeIf Tryz.prog 10 = some 1 := by kernel_rfl
theorem inf10 : Inf Tryz.prog 10 (.string ⟨#[]⟩) 1 16 := inf_of (by kernel_rfl)
theorem agg11 : aggOf Tryz.prog 11 = some false := by kernel_rfl
theorem siz11 : sizeIf Tryz.prog 11 = some 1 := by kernel_rfl
theorem inf11 : Inf Tryz.prog 11 (.string ⟨#[]⟩) 1 16 := inf_of (by kernel_rfl)
theorem agg12 : aggOf Tryz.prog 12 = some false := by kernel_rfl
theorem siz12 : sizeIf Tryz.prog 12 = some 1 := by kernel_rfl
theorem inf12 : Inf Tryz.prog 12 (.int .u64 0) 1 8 := inf_of (by kernel_rfl)
theorem agg13 : aggOf Tryz.prog 13 = some true := by kernel_rfl
theorem siz13 : sizeIf Tryz.prog 13 = some 2 := by kernel_rfl
theorem inf13 : Inf Tryz.prog 13 (.agg #[(.string ⟨#[]⟩), (.int .u64 0)]) 2 24 := inf_of (by kernel_rfl)
theorem agg14 : aggOf Tryz.prog 14 = some true := by kernel_rfl
theorem siz14 : sizeIf Tryz.prog 14 = some 2 := by kernel_rfl
theorem inf14 : Inf Tryz.prog 14 (.agg #[(.string ⟨#[]⟩), (.int .u64 0)]) 2 24 := inf_of (by kernel_rfl)
theorem agg15 : aggOf Tryz.prog 15 = some false := by kernel_rfl
theorem siz15 : sizeIf Tryz.prog 15 = some 1 := by kernel_rfl
theorem inf15 : Inf Tryz.prog 15 (.pointer none) 1 8 := inf_of (by kernel_rfl)
theorem agg16 : aggOf Tryz.prog 16 = some false := by kernel_rfl
theorem siz16 : sizeIf Tryz.prog 16 = some 1 := by kernel_rfl
theorem inf16 : Inf Tryz.prog 16 (.pointer none) 1 8 := inf_of (by kernel_rfl)
theorem agg17 : aggOf Tryz.prog 17 = some false := by kernel_rfl
theorem siz17 : sizeIf Tryz.prog 17 = some 1 := by kernel_rfl
theorem inf17 : Inf Tryz.prog 17 (.pointer none) 1 8 := inf_of (by kernel_rfl)
theorem agg18 : aggOf Tryz.prog 18 = some true := by kernel_rfl
theorem siz18 : sizeIf Tryz.prog 18 = some 1 := by kernel_rfl
theorem inf18 : Inf Tryz.prog 18 (.agg #[(.pointer none)]) 1 8 := inf_of (by kernel_rfl)
theorem agg19 : aggOf Tryz.prog 19 = some true := by kernel_rfl
theorem siz19 : sizeIf Tryz.prog 19 = some 1 := by kernel_rfl
theorem inf19 : Inf Tryz.prog 19 (.agg #[(.pointer none)]) 1 8 := inf_of (by kernel_rfl)
theorem agg20 : aggOf Tryz.prog 20 = some false := by kernel_rfl
theorem siz20 : sizeIf Tryz.prog 20 = some 1 := by kernel_rfl
theorem inf20 : Inf Tryz.prog 20 .nilIface 1 16 := inf_of (by kernel_rfl)
theorem agg21 : aggOf Tryz.prog 21 = some false := by kernel_rfl
theorem siz21 : sizeIf Tryz.prog 21 = some 1 := by kernel_rfl
theorem inf21 : Inf Tryz.prog 21 (.int .i32 0) 1 4 := inf_of (by kernel_rfl)
theorem agg22 : aggOf Tryz.prog 22 = some false := by kernel_rfl
theorem siz22 : sizeIf Tryz.prog 22 = some 1 := by kernel_rfl
theorem inf22 : Inf Tryz.prog 22 (.slice none 0 0) 1 24 := inf_of (by kernel_rfl)
theorem agg23 : aggOf Tryz.prog 23 = some false := by kernel_rfl
theorem siz23 : sizeIf Tryz.prog 23 = some 1 := by kernel_rfl
theorem inf23 : Inf Tryz.prog 23 (.int .i64 0) 1 8 := inf_of (by kernel_rfl)
theorem agg24 : aggOf Tryz.prog 24 = some false := by kernel_rfl
theorem siz24 : sizeIf Tryz.prog 24 = some 1 := by kernel_rfl
theorem agg25 : aggOf Tryz.prog 25 = some false := by kernel_rfl
theorem siz25 : sizeIf Tryz.prog 25 = some 1 := by kernel_rfl
theorem inf25 : Inf Tryz.prog 25 .nilFunc 1 8 := inf_of (by kernel_rfl)
theorem agg26 : aggOf Tryz.prog 26 = some false := by kernel_rfl
theorem siz26 : sizeIf Tryz.prog 26 = some 1 := by kernel_rfl
theorem inf26 : Inf Tryz.prog 26 (.slice none 0 0) 1 24 := inf_of (by kernel_rfl)
theorem agg27 : aggOf Tryz.prog 27 = some false := by kernel_rfl
theorem siz27 : sizeIf Tryz.prog 27 = some 1 := by kernel_rfl
theorem agg28 : aggOf Tryz.prog 28 = some false := by kernel_rfl
theorem siz28 : sizeIf Tryz.prog 28 = some 1 := by kernel_rfl
theorem inf28 : Inf Tryz.prog 28 .nilFunc 1 8 := inf_of (by kernel_rfl)
theorem agg29 : aggOf Tryz.prog 29 = some false := by kernel_rfl
theorem siz29 : sizeIf Tryz.prog 29 = some 1 := by kernel_rfl
theorem inf29 : Inf Tryz.prog 29 .nilFunc 1 8 := inf_of (by kernel_rfl)
theorem agg30 : aggOf Tryz.prog 30 = some true := by kernel_rfl
theorem siz30 : sizeIf Tryz.prog 30 = some 3 := by kernel_rfl
theorem inf30 : Inf Tryz.prog 30 (.agg #[(.string ⟨#[]⟩), (.int .i64 0), (.int .i64 0)]) 3 32 := inf_of (by kernel_rfl)
theorem agg31 : aggOf Tryz.prog 31 = some true := by kernel_rfl
theorem siz31 : sizeIf Tryz.prog 31 = some 3 := by kernel_rfl
theorem inf31 : Inf Tryz.prog 31 (.agg #[(.string ⟨#[]⟩), (.int .i64 0), (.int .i64 0)]) 3 32 := inf_of (by kernel_rfl)
theorem agg32 : aggOf Tryz.prog 32 = some true := by kernel_rfl
theorem siz32 : sizeIf Tryz.prog 32 = some 3 := by kernel_rfl
theorem inf32 : Inf Tryz.prog 32 (.agg #[(.string ⟨#[]⟩), (.int .i64 0), (.int .i64 0)]) 3 32 := inf_of (by kernel_rfl)
theorem agg33 : aggOf Tryz.prog 33 = some false := by kernel_rfl
theorem siz33 : sizeIf Tryz.prog 33 = some 1 := by kernel_rfl
theorem inf33 : Inf Tryz.prog 33 .nilFunc 1 8 := inf_of (by kernel_rfl)
theorem agg34 : aggOf Tryz.prog 34 = some true := by kernel_rfl
theorem siz34 : sizeIf Tryz.prog 34 = some 6 := by kernel_rfl
theorem inf34 : Inf Tryz.prog 34 (.agg #[(.int .i64 0), (.int .i64 0), (.int .i64 0), (.int .i64 0), (.int .i64 0), (.int .i64 0)]) 6 48 := inf_of (by kernel_rfl)
theorem agg35 : aggOf Tryz.prog 35 = some true := by kernel_rfl
theorem siz35 : sizeIf Tryz.prog 35 = some 6 := by kernel_rfl
theorem inf35 : Inf Tryz.prog 35 (.agg #[(.int .i64 0), (.int .i64 0), (.int .i64 0), (.int .i64 0), (.int .i64 0), (.int .i64 0)]) 6 48 := inf_of (by kernel_rfl)
theorem agg36 : aggOf Tryz.prog 36 = some false := by kernel_rfl
theorem siz36 : sizeIf Tryz.prog 36 = some 1 := by kernel_rfl
theorem inf36 : Inf Tryz.prog 36 (.slice none 0 0) 1 24 := inf_of (by kernel_rfl)
theorem agg37 : aggOf Tryz.prog 37 = some false := by kernel_rfl
theorem siz37 : sizeIf Tryz.prog 37 = some 1 := by kernel_rfl
theorem inf37 : Inf Tryz.prog 37 (.slice none 0 0) 1 24 := inf_of (by kernel_rfl)
theorem agg38 : aggOf Tryz.prog 38 = some true := by kernel_rfl
theorem siz38 : sizeIf Tryz.prog 38 = some 2 := by kernel_rfl
theorem inf38 : Inf Tryz.prog 38 (.agg #[(.slice none 0 0), (.slice none 0 0)]) 2 48 := inf_of (by kernel_rfl)
theorem agg39 : aggOf Tryz.prog 39 = some true := by kernel_rfl
theorem siz39 : sizeIf Tryz.prog 39 = some 2 := by kernel_rfl
theorem inf39 : Inf Tryz.prog 39 (.agg #[(.slice none 0 0), (.slice none 0 0)]) 2 48 := inf_of (by kernel_rfl)
theorem agg40 : aggOf Tryz.prog 40 = some false := by kernel_rfl
theorem siz40 : sizeIf Tryz.prog 40 = some 1 := by kernel_rfl
theorem inf40 : Inf Tryz.prog 40 (.slice none 0 0) 1 24 := inf_of (by kernel_rfl)
theorem agg41 : aggOf Tryz.prog 41 = some false := by kernel_rfl
theorem siz41 : sizeIf Tryz.prog 41 = some 1 := by kernel_rfl
theorem inf41 : Inf Tryz.prog 41 (.slice none 0 0) 1 24 := inf_of (by kernel_rfl)
theorem agg42 : aggOf Tryz.prog 42 = some true := by kernel_rfl
theorem siz42 : sizeIf Tryz.prog 42 = some 4 := by kernel_rfl
theorem inf42 : Inf Tryz.prog 42 (.agg #[(.slice none 0 0), (.slice none 0 0), (.slice none 0 0), (.slice none 0 0)]) 4 96 := inf_of (by kernel_rfl)
theorem agg43 : aggOf Tryz.prog 43 = some true := by kernel_rfl
theorem siz43 : sizeIf Tryz.prog 43 = some 4 := by kernel_rfl
theorem inf43 : Inf Tryz.prog 43 (.agg #[(.slice none 0 0), (.slice none 0 0), (.slice none 0 0), (.slice none 0 0)]) 4 96 := inf_of (by kernel_rfl)
theorem agg44 : aggOf Tryz.prog 44 = some false := by kernel_rfl
theorem siz44 : sizeIf Tryz.prog 44 = some 1 := by kernel_rfl
theorem inf44 : Inf Tryz.prog 44 (.slice none 0 0) 1 24 := inf_of (by kernel_rfl)
theorem agg45 : aggOf Tryz.prog 45 = some false := by kernel_rfl
theorem siz45 : sizeIf Tryz.prog 45 = some 1 := by kernel_rfl
theorem inf45 : Inf Tryz.prog 45 (.slice none 0 0) 1 24 := inf_of (by kernel_rfl)
theorem agg46 : aggOf Tryz.prog 46 = some true := by kernel_rfl
theorem siz46 : sizeIf Tryz.prog 46 = some 17 := by kernel_rfl
theorem inf46 : Inf Tryz.prog 46 (.agg #[(.int .i64 0), (.int .i64 0), (.int .i64 0), (.int .i64 0), (.int .i64 0), (.int .i64 0), (.slice none 0 0), (.slice none 0 0), (.slice none 0 0), (.int .i64 0), (.slice none 0 0), (.slice none 0 0), (.slice none 0 0), (.slice none 0 0), (.slice none 0 0), (.slice none 0 0), (.int .i64 0)]) 17 280 := inf_of (by kernel_rfl)
theorem agg47 : aggOf Tryz.prog 47 = some true := by kernel_rfl
theorem siz47 : sizeIf Tryz.prog 47 = some 17 := by kernel_rfl
theorem inf47 : Inf Tryz.prog 47 (.agg #[(.int .i64 0), (.int .i64 0), (.int .i64 0), (.int .i64 0), (.int .i64 0), (.int .i64 0), (.slice none 0 0), (.slice none 0 0), (.slice none 0 0), (.int .i64 0), (.slice none 0 0), (.slice none 0 0), (.slice none 0 0), (.slice none 0 0), (.slice none 0 0), (.slice none 0 0), (.int .i64 0)]) 17 280 := inf_of (by kernel_rfl)
theorem agg48 : aggOf Tryz.prog 48 = some false := by kernel_rfl
theorem siz48 : sizeIf Tryz.prog 48 = some 1 := by kernel_rfl
theorem agg49 : aggOf Tryz.prog 49 = some false := by kernel_rfl
theorem siz49 : sizeIf Tryz.prog 49 = some 1 := by kernel_rfl
theorem inf49 : Inf Tryz.prog 49 .nilFunc 1 8 := inf_of (by kernel_rfl)
theorem agg50 : aggOf Tryz.prog 50 = some true := by kernel_rfl
theorem siz50 : sizeIf Tryz.prog 50 = some 6 := by kernel_rfl
theorem inf50 : Inf Tryz.prog 50 (.agg #[(.int .i64 0), (.int .i64 0), (.int .i64 0), (.int .i64 0), (.int .i64 0), (.int .i64 0)]) 6 48 := inf_of (by kernel_rfl)
theorem agg51 : aggOf Tryz.prog 51 = some false := by kernel_rfl
theorem siz51 : sizeIf Tryz.prog 51 = some 1 := by kernel_rfl
theorem inf51 : Inf Tryz.prog 51 (.slice none 0 0) 1 24 := inf_of (by kernel_rfl)
theorem agg52 : aggOf Tryz.prog 52 = some true := by kernel_rfl
theorem siz52 : sizeIf Tryz.prog 52 = some 2 := by kernel_rfl
theorem inf52 : Inf Tryz.prog 52 (.agg #[(.slice none 0 0), (.slice none 0 0)]) 2 48 := inf_of (by kernel_rfl)
theorem agg53 : aggOf Tryz.prog 53 = some true := by kernel_rfl
theorem siz53 : sizeIf Tryz.prog 53 = some 2 := by kernel_rfl
theorem inf53 : Inf Tryz.prog 53 (.agg #[(.slice none 0 0), (.slice none 0 0)]) 2 48 := inf_of (by kernel_rfl)
theorem agg54 : aggOf Tryz.prog 54 = some false := by kernel_rfl
theorem siz54 : sizeIf Tryz.prog 54 = some 1 := by kernel_rfl
theorem inf54 : Inf Tryz.prog 54 (.slice none 0 0) 1 24 := inf_of (by kernel_rfl)
theorem agg55 : aggOf Tryz.prog 55 = some true := by kernel_rfl
theorem siz55 : sizeIf Tryz.prog 55 = some 17 := by kernel_rfl
theorem inf55 : Inf Tryz.prog 55 (.agg #[(.int .i64 0), (.int .i64 0), (.int .i64 0), (.int .i64 0), (.int .i64 0), (.int .i64 0), (.slice none 0 0), (.slice none 0 0), (.slice none 0 0), (.int .i64 0), (.slice none 0 0), (.slice none 0 0), (.slice none 0 0), (.slice none 0 0), (.slice none 0 0), (.slice none 0 0), (.int .i64 0)]) 17 280 := inf_of (by kernel_rfl)
theorem agg56 : aggOf Tryz.prog 56 = some true := by kernel_rfl
theorem siz56 : sizeIf Tryz.prog 56 = some 17 := by kernel_rfl
theorem inf56 : Inf Tryz.prog 56 (.agg #[(.int .i64 0), (.int .i64 0), (.int .i64 0), (.int .i64 0), (.int .i64 0), (.int .i64 0), (.slice none 0 0), (.slice none 0 0), (.slice none 0 0), (.int .i64 0), (.slice none 0 0), (.slice none 0 0), (.slice none 0 0), (.slice none 0 0), (.slice none 0 0), (.slice none 0 0), (.int .i64 0)]) 17 280 := inf_of (by kernel_rfl)
theorem agg57 : aggOf Tryz.prog 57 = some false := by kernel_rfl
theorem siz57 : sizeIf Tryz.prog 57 = some 1 := by kernel_rfl
theorem agg58 : aggOf Tryz.prog 58 = some false := by kernel_rfl
theorem siz58 : sizeIf Tryz.prog 58 = some 1 := by kernel_rfl
theorem inf58 : Inf Tryz.prog 58 .nilFunc 1 8 := inf_of (by kernel_rfl)
theorem agg59 : aggOf Tryz.prog 59 = some false := by kernel_rfl
theorem siz59 : sizeIf Tryz.prog 59 = some 1 := by kernel_rfl
theorem inf59 : Inf Tryz.prog 59 .nilFunc 1 8 := inf_of (by kernel_rfl)
theorem agg60 : aggOf Tryz.prog 60 = some false := by kernel_rfl
theorem siz60 : sizeIf Tryz.prog 60 = some 1 := by kernel_rfl
theorem inf60 : Inf Tryz.prog 60 (.slice none 0 0) 1 24 := inf_of (by kernel_rfl)
theorem agg61 : aggOf Tryz.prog 61 = some true := by kernel_rfl
theorem siz61 : sizeIf Tryz.prog 61 = some 4 := by kernel_rfl
theorem inf61 : Inf Tryz.prog 61 (.agg #[(.slice none 0 0), (.slice none 0 0), (.slice none 0 0), (.slice none 0 0)]) 4 96 := inf_of (by kernel_rfl)
theorem agg62 : aggOf Tryz.prog 62 = some true := by kernel_rfl
theorem siz62 : sizeIf Tryz.prog 62 = some 4 := by kernel_rfl
theorem inf62 : Inf Tryz.prog 62 (.agg #[(.slice none 0 0), (.slice none 0 0), (.slice none 0 0), (.slice none 0 0)]) 4 96 := inf_of (by kernel_rfl)
theorem agg63 : aggOf Tryz.prog 63 = some false := by kernel_rfl
theorem siz63 : sizeIf Tryz.prog 63 = some 1 := by kernel_rfl
theorem inf63 : Inf Tryz.prog 63 .nilFunc 1 8 := inf_of (by kernel_rfl)
theorem agg64 : aggOf Tryz.prog 64 = some false := by kernel_rfl
theorem siz64 : sizeIf Tryz.prog 64 = some 1 := by kernel_rfl
theorem inf64 : Inf Tryz.prog 64 .nilFunc 1 8 := inf_of (by kernel_rfl)
theorem agg65 : aggOf Tryz.prog 65 = some false := by kernel_rfl
theorem siz65 : sizeIf Tryz.prog 65 = some 1 := by kernel_rfl
theorem inf65 : Inf Tryz.prog 65 .nilFunc 1 8 := inf_of (by kernel_rfl)
theorem agg66 : aggOf Tryz.prog 66 = some false := by kernel_rfl
theorem siz66 : sizeIf Tryz.prog 66 = some 1 := by kernel_rfl
theorem inf66 : Inf Tryz.prog 66 .nilFunc 1 8 := inf_of (by kernel_rfl)
theorem agg67 : aggOf Tryz.prog 67 = some false := by kernel_rfl
theorem siz67 : sizeIf Tryz.prog 67 = some 1 := by kernel_rfl
theorem inf67 : Inf Tryz.prog 67 .nilFunc 1 8 := inf_of (by kernel_rfl)
theorem agg68 : aggOf Tryz.prog 68 = some false := by kernel_rfl
theorem siz68 : sizeIf Tryz.prog 68 = some 1 := by kernel_rfl
theorem inf68 : Inf Tryz.prog 68 .nilFunc 1 8 := inf_of (by kernel_rfl)
theorem agg69 : aggOf Tryz.prog 69 = some false := by kernel_rfl
theorem siz69 : sizeIf Tryz.prog 69 = some 1 := by kernel_rfl
theorem inf69 : Inf Tryz.prog 69 (.pointer none) 1 8 := inf_of (by kernel_rfl)
theorem agg70 : aggOf Tryz.prog 70 = some true := by kernel_rfl
theorem siz70 : sizeIf Tryz.prog 70 = some 6 := by kernel_rfl
theorem inf70 : Inf Tryz.prog 70 (.agg #[(.slice none 0 0), (.slice none 0 0), (.slice none 0 0), (.int .i64 0), (.int .i64 0), (.int .i64 0)]) 6 96 := inf_of (by kernel_rfl)
theorem agg71 : aggOf Tryz.prog 71 = some true := by kernel_rfl
theorem siz71 : sizeIf Tryz.prog 71 = some 6 := by kernel_rfl
theorem inf71 : Inf Tryz.prog 71 (.agg #[(.slice none 0 0), (.slice none 0 0), (.slice none 0 0), (.int .i64 0), (.int .i64 0), (.int .i64 0)]) 6 96 := inf_of (by kernel_rfl)
theorem agg72 : aggOf Tryz.prog 72 = some true := by kernel_rfl
theorem siz72 : sizeIf Tryz.prog 72 = some 17 := by kernel_rfl
theorem inf72 : Inf Tryz.prog 72 (.agg #[(.slice none 0 0), (.slice none 0 0), (.slice none 0 0), (.slice none 0 0), (.slice none 0 0), (.slice none 0 0), (.int .i64 0), (.int .i64 0), (.int .i64 0), (.int .i64 0), (.int .i64 0), (.slice none 0 0), (.slice none 0 0), (.slice none 0 0), (.int .i64 0), (.int .i64 0), (.int .i64 0)]) 17 280 := inf_of (by kernel_rfl)
theorem agg73 : aggOf Tryz.prog 73 = some true := by kernel_rfl
theorem siz73 : sizeIf Tryz.prog 73 = some 17 := by kernel_rfl
theorem inf73 : Inf Tryz.prog 73 (.agg #[(.slice none 0 0), (.slice none 0 0), (.slice none 0 0), (.slice none 0 0), (.slice none 0 0), (.slice none 0 0), (.int .i64 0), (.int .i64 0), (.int .i64 0), (.int .i64 0), (.int .i64 0), (.slice none 0 0), (.slice none 0 0), (.slice none 0 0), (.int .i64 0), (.int .i64 0), (.int .i64 0)]) 17 280 := inf_of (by kernel_rfl)
theorem agg74 : aggOf Tryz.prog 74 = some false := by kernel_rfl
theorem siz74 : sizeIf Tryz.prog 74 = some 1 := by kernel_rfl
theorem inf74 : Inf Tryz.prog 74 .nilFunc 1 8 := inf_of (by kernel_rfl)
theorem agg75 : aggOf Tryz.prog 75 = some false := by kernel_rfl
theorem siz75 : sizeIf Tryz.prog 75 = some 1 := by kernel_rfl
theorem inf75 : Inf Tryz.prog 75 (.slice none 0 0) 1 24 := inf_of (by kernel_rfl)
theorem agg76 : aggOf Tryz.prog 76 = some false := by kernel_rfl
theorem siz76 : sizeIf Tryz.prog 76 = some 1 := by kernel_rfl
theorem inf76 : Inf Tryz.prog 76 .nilFunc 1 8 := inf_of (by kernel_rfl)
theorem agg77 : aggOf Tryz.prog 77 = some false := by kernel_rfl
theorem siz77 : sizeIf Tryz.prog 77 = some 1 := by kernel_rfl
theorem inf77 : Inf Tryz.prog 77 (.slice none 0 0) 1 24 := inf_of (by kernel_rfl)
theorem agg78 : aggOf Tryz.prog 78 = some false := by kernel_rfl
theorem siz78 : sizeIf Tryz.prog 78 = some 1 := by kernel_rfl
theorem inf78 : Inf Tryz.prog 78 (.slice none 0 0) 1 24 := inf_of (by kernel_rfl)
theorem agg79 : aggOf Tryz.prog 79 = some false := by kernel_rfl
theorem siz79 : sizeIf Tryz.prog 79 = some 1 := by kernel_rfl
theorem agg80 : aggOf Tryz.prog 80 = some false := by kernel_rfl
theorem siz80 : sizeIf Tryz.prog 80 = some 1 := by kernel_rfl
theorem inf80 : Inf Tryz.prog 80 .nilFunc 1 8 := inf_of (by kernel_rfl)
theorem agg81 : aggOf Tryz.prog 81 = some false := by kernel_rfl
theorem siz81 : sizeIf Tryz.prog 81 = some 1 := by kernel_rfl
theorem inf81 : Inf Tryz.prog 81 (.pointer none) 1 8 := inf_of (by kernel_rfl)
theorem agg82 : aggOf Tryz.prog 82 = some false := by kernel_rfl
theorem siz82 : sizeIf Tryz.prog 82 = some 1 := by kernel_rfl
theorem inf82 : Inf Tryz.prog 82 .nilFunc 1 8 := inf_of (by kernel_rfl)
theorem agg83 : aggOf Tryz.prog 83 = some false := by kernel_rfl
theorem siz83 : sizeIf Tryz.prog 83 = some 1 := by kernel_rfl
theorem inf83 : Inf Tryz.prog 83 .nilFunc 1 8 := inf_of (by kernel_rfl)
theorem agg84 : aggOf Tryz.prog 84 = some true := by kernel_rfl
theorem siz84 : sizeIf Tryz.prog 84 = some 6 := by kernel_rfl
theorem inf84 : Inf Tryz.prog 84 (.agg #[(.slice none 0 0), (.slice none 0 0), (.slice none 0 0), (.int .i64 0), (.int .i64 0), (.int .i64 0)]) 6 96 := inf_of (by kernel_rfl)
theorem agg85 : aggOf Tryz.prog 85 = some true := by kernel_rfl
theorem siz85 : sizeIf Tryz.prog 85 = some 17 := by kernel_rfl
theorem inf85 : Inf Tryz.prog 85 (.agg #[(.slice none 0 0), (.slice none 0 0), (.slice none 0 0), (.slice none 0 0), (.slice none 0 0), (.slice none 0 0), (.int .i64 0), (.int .i64 0), (.int .i64 0), (.int .i64 0), (.int .i64 0), (.slice none 0 0), (.slice none 0 0), (.slice none 0 0), (.int .i64 0), (.int .i64 0), (.int .i64 0)]) 17 280 := inf_of (by kernel_rfl)
theorem agg86 : aggOf Tryz.prog 86 = some true := by kernel_rfl
theorem siz86 : sizeIf Tryz.prog 86 = some 17 := by kernel_rfl
theorem inf86 : Inf Tryz.prog 86 (.agg #[(.slice none 0 0), (.slice none 0 0), (.slice none 0 0), (.slice none 0 0), (.slice none 0 0), (.slice none 0 0), (.int .i64 0), (.int .i64 0), (.int .i64 0), (.int .i64 0), (.int .i64 0), (.slice none 0 0), (.slice none 0 0), (.slice none 0 0), (.int .i64 0), (.int .i64 0), (.int .i64 0)]) 17 280 := inf_of (by kernel_rfl)
theorem agg87 : aggOf Tryz.prog 87 = some false := by kernel_rfl
theorem siz87 : sizeIf Tryz.prog 87 = some 1 := by kernel_rfl
theorem agg88 : aggOf Tryz.prog 88 = some false := by kernel_rfl
theorem siz88 : sizeIf Tryz.prog 88 = some 1 := by kernel_rfl
theorem inf88 : Inf Tryz.prog 88 .nilFunc 1 8 := inf_of (by kernel_rfl)
theorem agg89 : aggOf Tryz.prog 89 = some false := by kernel_rfl
theorem siz89 : sizeIf Tryz.prog 89 = some 1 := by kernel_rfl
theorem inf89 : Inf Tryz.prog 89 .nilFunc 1 8 := inf_of (by kernel_rfl)
theorem agg90 : aggOf Tryz.prog 90 = some false := by kernel_rfl
theorem siz90 : sizeIf Tryz.prog 90 = some 1 := by kernel_rfl
theorem inf90 : Inf Tryz.prog 90 .nilFunc 1 8 := inf_of (by kernel_rfl)
theorem agg91 : aggOf Tryz.prog 91 = some false := by kernel_rfl
theorem siz91 : sizeIf Tryz.prog 91 = some 1 := by kernel_rfl
theorem inf91 : Inf Tryz.prog 91 .nilFunc 1 8 := inf_of (by kernel_rfl)
theorem agg92 : aggOf Tryz.prog 92 = some false := by kernel_rfl
theorem siz92 : sizeIf Tryz.prog 92 = some 1 := by kernel_rfl
theorem inf92 : Inf Tryz.prog 92 .nilFunc 1 8 := inf_of (by kernel_rfl)
theorem agg93 : aggOf Tryz.prog 93 = some false := by kernel_rfl
theorem siz93 : sizeIf Tryz.prog 93 = some 1 := by kernel_rfl
theorem inf93 : Inf Tryz.prog 93 .nilFunc 1 8 := inf_of (by kernel_rfl)
theorem agg94 : aggOf Tryz.prog 94 = some false := by kernel_rfl
theorem siz94 : sizeIf Tryz.prog 94 = some 1 := by kernel_rfl
theorem inf94 : Inf Tryz.prog 94 (.pointer none) 1 8 := inf_of (by kernel_rfl)
theorem agg95 : aggOf Tryz.prog 95 = some true := by kernel_rfl
theorem siz95 : sizeIf Tryz.prog 95 = some 1 := by kernel_rfl
theorem inf95 : Inf Tryz.prog 95 (.agg #[(.int .i64 0)]) 1 8 := inf_of (by kernel_rfl)
theorem agg96 : aggOf Tryz.prog 96 = some true := by kernel_rfl
theorem siz96 : sizeIf Tryz.prog 96 = some 1 := by kernel_rfl
theorem inf96 : Inf Tryz.prog 96 (.agg #[(.int .i64 0)]) 1 8 := inf_of (by kernel_rfl)
theorem agg97 : aggOf Tryz.prog 97 = some false := by kernel_rfl
theorem siz97 : sizeIf Tryz.prog 97 = some 1 := by kernel_rfl
theorem inf97 : Inf Tryz.prog 97 .nilFunc 1 8 := inf_of (by kernel_rfl)
theorem agg98 : aggOf Tryz.prog 98 = some false := by kernel_rfl
theorem siz98 : sizeIf Tryz.prog 98 = some 1 := by kernel_rfl
theorem inf98 : Inf Tryz.prog 98 .nilFunc 1 8 := inf_of (by kernel_rfl)
theorem agg99 : aggOf Tryz.prog 99 = some true := by kernel_rfl
theorem siz99 : sizeIf Tryz.prog 99 = some 3 := by kernel_rfl
theorem inf99 : Inf Tryz.prog 99 (.agg #[(.int .i64 0), (.int .i64 0), (.int .i64 0)]) 3 24 := inf_of (by kernel_rfl)
theorem agg100 : aggOf Tryz.prog 100 = some true := by kernel_rfl
theorem siz100 : sizeIf Tryz.prog 100 = some 3 := by kernel_rfl
theorem inf100 : Inf Tryz.prog 100 (.agg #[(.int .i64 0), (.int .i64 0), (.int .i64 0)]) 3 24 := inf_of (by kernel_rfl)
theorem agg101 : aggOf Tryz.prog 101 = some false := by kernel_rfl
theorem siz101 : sizeIf Tryz.prog 101 = some 1 := by kernel_rfl
theorem inf101 : Inf Tryz.prog 101 .nilFunc 1 8 := inf_of (by kernel_rfl)
theorem agg102 : aggOf Tryz.prog 102 = some false := by kernel_rfl
theorem siz102 : sizeIf Tryz.prog 102 = some 1 := by kernel_rfl
theorem agg103 : aggOf Tryz.prog 103 = some false := by kernel_rfl
theorem siz103 : sizeIf Tryz.prog 103 = some 1 := by kernel_rfl
theorem inf103 : Inf Tryz.prog 103 .nilFunc 1 8 := inf_of (by kernel_rfl)
theorem agg104 : aggOf Tryz.prog 104 = some false := by kernel_rfl
theorem siz104 : sizeIf Tryz.prog 104 = some 1 := by kernel_rfl
theorem agg105 : aggOf Tryz.prog 105 = some false := by kernel_rfl
theorem siz105 : sizeIf Tryz.prog 105 = some 1 := by kernel_rfl
theorem inf105 : Inf Tryz.prog 105 .nilFunc 1 8 := inf_of (by kernel_rfl)
theorem agg106 : aggOf Tryz.prog 106 = some false := by kernel_rfl
theorem siz106 : sizeIf Tryz.prog 106 = some 1 := by kernel_rfl
theorem inf106 : Inf Tryz.prog 106 .nilFunc 1 8 := inf_of (by kernel_rfl)
theorem agg107 : aggOf Tryz.prog 107 = some false := by kernel_rfl
theorem siz107 : sizeIf Tryz.prog 107 = some 1 := by kernel_rfl
theorem agg108 : aggOf Tryz.prog 108 = some false := by kernel_rfl
theorem siz108 : sizeIf Tryz.prog 108 = some 1 := by kernel_rfl
theorem inf108 : Inf Tryz.prog 108 .nilFunc 1 8 := inf_of (by kernel_rfl)
theorem agg109 : aggOf Tryz.prog 109 = some true := by kernel_rfl
theorem siz109 : sizeIf Tryz.prog 109 = some 10 := by kernel_rfl
theorem inf109 : Inf Tryz.prog 109 (.agg #[(.slice none 0 0), (.slice none 0 0), (.slice none 0 0), (.slice none 0 0), (.slice none 0 0), (.slice none 0 0), (.slice none 0 0), (.slice none 0 0), (.slice none 0 0), (.int .i64 0)]) 10 224 := inf_of (by kernel_rfl)
theorem agg110 : aggOf Tryz.prog 110 = some true := by kernel_rfl
theorem siz110 : sizeIf Tryz.prog 110 = some 10 := by kernel_rfl
theorem inf110 : Inf Tryz.prog 110 (.agg #[(.slice none 0 0), (.slice none 0 0), (.slice none 0 0), (.slice none 0 0), (.slice none 0 0), (.slice none 0 0), (.slice none 0 0), (.slice none 0 0), (.slice none 0 0), (.int .i64 0)]) 10 224 := inf_of (by kernel_rfl)
theorem agg111 : aggOf Tryz.prog 111 = some false := by kernel_rfl
theorem siz111 : sizeIf Tryz.prog 111 = some 1 := by kernel_rfl
theorem inf111 : Inf Tryz.prog 111 .nilFunc 1 8 := inf_of (by kernel_rfl)
theorem agg112 : aggOf Tryz.prog 112 = some false := by kernel_rfl
theorem siz112 : sizeIf Tryz.prog 112 = some 1 := by kernel_rfl
theorem inf112 : Inf Tryz.prog 112 (.pointer none) 1 8 := inf_of (by kernel_rfl)
theorem agg113 : aggOf Tryz.prog 113 = some false := by kernel_rfl
theorem siz113 : sizeIf Tryz.prog 113 = some 1 := by kernel_rfl
theorem inf113 : Inf Tryz.prog 113 .nilFunc 1 8 := inf_of (by kernel_rfl)
theorem agg114 : aggOf Tryz.prog 114 = some true := by kernel_rfl
theorem siz114 : sizeIf Tryz.prog 114 = some 2 := by kernel_rfl
theorem inf114 : Inf Tryz.prog 114 (.agg #[(.int .i64 0), (.int .i64 0)]) 2 16 := inf_of (by kernel_rfl)
theorem agg115 : aggOf Tryz.prog 115 = some true := by kernel_rfl
theorem siz115 : sizeIf Tryz.prog 115 = some 2 := by kernel_rfl
theorem inf115 : Inf Tryz.prog 115 (.agg #[(.int .i64 0), (.int .i64 0)]) 2 16 := inf_of (by kernel_rfl)
theorem agg116 : aggOf Tryz.prog 116 = some false := by kernel_rfl
theorem siz116 : sizeIf Tryz.prog 116 = some 1 := by kernel_rfl
theorem agg117 : aggOf Tryz.prog 117 = some false := by kernel_rfl
theorem siz117 : sizeIf Tryz.prog 117 = some 1 := by kernel_rfl
theorem inf117 : Inf Tryz.prog 117 .nilFunc 1 8 := inf_of (by kernel_rfl)
theorem agg118 : aggOf Tryz.prog 118 = some false := by kernel_rfl
theorem siz118 : sizeIf Tryz.prog 118 = some 1 := by kernel_rfl
theorem inf118 : Inf Tryz.prog 118 .nilFunc 1 8 := inf_of (by kernel_rfl)
theorem agg119 : aggOf Tryz.prog 119 = some false := by kernel_rfl
theorem siz119 : sizeIf Tryz.prog 119 = some 1 := by kernel_rfl
theorem inf119 : Inf Tryz.prog 119 (.slice none 0 0) 1 24 := inf_of (by kernel_rfl)
theorem agg120 : aggOf Tryz.prog 120 = some false := by kernel_rfl
theorem siz120 : sizeIf Tryz.prog 120 = some 1 := by kernel_rfl
theorem inf120 : Inf Tryz.prog 120 .nilFunc 1 8 := inf_of (by kernel_rfl)
theorem agg121 : aggOf Tryz.prog 121 = some true := by kernel_rfl
theorem siz121 : sizeIf Tryz.prog 121 = some 3 := by kernel_rfl
theorem inf121 : Inf Tryz.prog 121 (.agg #[(.slice none 0 0), (.int .i64 0), (.bool false)]) 3 40 := inf_of (by kernel_rfl)
theorem agg122 : aggOf Tryz.prog 122 = some true := by kernel_rfl
theorem siz122 : sizeIf Tryz.prog 122 = some 3 := by kernel_rfl
theorem inf122 : Inf Tryz.prog 122 (.agg #[(.slice none 0 0), (.int .i64 0), (.bool false)]) 3 40 := inf_of (by kernel_rfl)
theorem agg123 : aggOf Tryz.prog 123 = some false := by kernel_rfl
theorem siz123 : sizeIf Tryz.prog 123 = some 1 := by kernel_rfl
theorem inf123 : Inf Tryz.prog 123 (.slice none 0 0) 1 24 := inf_of (by kernel_rfl)
theorem agg124 : aggOf Tryz.prog 124 = some false := by kernel_rfl
theorem siz124 : sizeIf Tryz.prog 124 = some 1 := by kernel_rfl
theorem agg125 : aggOf Tryz.prog 125 = some false := by kernel_rfl
theorem siz125 : sizeIf Tryz.prog 125 = some 1 := by kernel_rfl
theorem inf125 : Inf Tryz.prog 125 .nilFunc 1 8 := inf_of (by kernel_rfl)
theorem agg126 : aggOf Tryz.prog 126 = some false := by kernel_rfl
theorem siz126 : sizeIf Tryz.prog 126 = some 1 := by kernel_rfl
theorem inf126 : Inf Tryz.prog 126 .nilFunc 1 8 := inf_of (by kernel_rfl)
theorem agg127 : aggOf Tryz.prog 127 = some false := by kernel_rfl
theorem siz127 : sizeIf Tryz.prog 127 = some 1 := by kernel_rfl
theorem agg128 : aggOf Tryz.prog 128 = some false := by kernel_rfl
theorem siz128 : sizeIf Tryz.prog 128 = some 1 := by kernel_rfl
theorem inf128 : Inf Tryz.prog 128 .nilFunc 1 8 := inf_of (by kernel_rfl)
theorem agg129 : aggOf Tryz.prog 129 = some false := by kernel_rfl
theorem siz129 : sizeIf Tryz.prog 129 = some 1 := by kernel_rfl
theorem inf129 : Inf Tryz.prog 129 .nilFunc 1 8 := inf_of (by kernel_rfl)
theorem agg130 : aggOf Tryz.prog 130 = some true := by kernel_rfl
theorem siz130 : sizeIf Tryz.prog 130 = some 10 := by kernel_rfl
theorem inf130 : Inf Tryz.prog 130 (.agg #[(.slice none 0 0), (.slice none 0 0), (.slice none 0 0), (.slice none 0 0), (.slice none 0 0), (.slice none 0 0), (.slice none 0 0), (.slice none 0 0), (.slice none 0 0), (.int .i64 0)]) 10 224 := inf_of (by kernel_rfl)
theorem agg131 : aggOf Tryz.prog 131 = some false := by kernel_rfl
theorem siz131 : sizeIf Tryz.prog 131 = some 1 := by kernel_rfl
theorem inf131 : Inf Tryz.prog 131 .nilFunc 1 8 := inf_of (by kernel_rfl)
theorem agg132 : aggOf Tryz.prog 132 = some false := by kernel_rfl
theorem siz132 : sizeIf Tryz.prog 132 = some 1 := by kernel_rfl
theorem agg133 : aggOf Tryz.prog 133 = some false := by kernel_rfl
theorem siz133 : sizeIf Tryz.prog 133 = some 1 := by kernel_rfl
theorem inf133 : Inf Tryz.prog 133 .nilFunc 1 8 := inf_of (by kernel_rfl)
theorem agg134 : aggOf Tryz.prog 134 = some true := by kernel_rfl
theorem siz134 : sizeIf Tryz.prog 134 = some 3 := by kernel_rfl
theorem inf134 : Inf Tryz.prog 134 (.agg #[(.int .i64 0), (.int .i64 0), (.int .i64 0)]) 3 24 := inf_of (by kernel_rfl)
theorem agg135 : aggOf Tryz.prog 135 = some false := by kernel_rfl
theorem siz135 : sizeIf Tryz.prog 135 = some 1 := by kernel_rfl
theorem inf135 : Inf Tryz.prog 135 .nilFunc 1 8 := inf_of (by kernel_rfl)
theorem agg136 : aggOf Tryz.prog 136 = some false := by kernel_rfl
theorem siz136 : sizeIf Tryz.prog 136 = some 1 := by kernel_rfl
theorem inf136 : Inf Tryz.prog 136 .nilFunc 1 8 := inf_of (by kernel_rfl)
theorem agg137 : aggOf Tryz.prog 137 = some false := by kernel_rfl
theorem siz137 : sizeIf Tryz.prog 137 = some 1 := by kernel_rfl
theorem inf137 : Inf Tryz.prog 137 .nilFunc 1 8 := inf_of (by kernel_rfl)
theorem agg138 : aggOf Tryz.prog 138 = some false := by kernel_rfl
theorem siz138 : sizeIf Tryz.prog 138 = some 1 := by kernel_rfl
theorem inf138 : Inf Tryz.prog 138 .nilFunc 1 8 := inf_of (by kernel_rfl)
theorem agg139 : aggOf Tryz.prog 139 = some false := by kernel_rfl
theorem siz139 : sizeIf Tryz.prog 139 = some 1 := by kernel_rfl
theorem inf139 : Inf Tryz.prog 139 .nilFunc 1 8 := inf_of (by kernel_rfl)
theorem agg140 : aggOf Tryz.prog 140 = some false := by kernel_rfl
theorem siz140 : sizeIf Tryz.prog 140 = some 1 := by kernel_rfl
theorem inf140 : Inf Tryz.prog 140 (.pointer none) 1 8 := inf_of (by kernel_rfl)
theorem agg141 : aggOf Tryz.prog 141 = some false := by kernel_rfl
theorem siz141 : sizeIf Tryz.prog 141 = some 1 := by kernel_rfl
theorem inf141 : Inf Tryz.prog 141 (.pointer none) 1 8 := inf_of (by kernel_rfl)
theorem agg142 : aggOf Tryz.prog 142 = some false := by kernel_rfl
theorem siz142 : sizeIf Tryz.prog 142 = some 1 := by kernel_rfl
theorem inf142 : Inf Tryz.prog 142 .nilFunc 1 8 := inf_of (by kernel_rfl)
theorem agg143 : aggOf Tryz.prog 143 = some true := by kernel_rfl
theorem siz143 : sizeIf Tryz.prog 143 = some 2 := by kernel_rfl
theorem inf143 : Inf Tryz.prog 143 (.agg #[(.pointer none), (.int .i64 0)]) 2 16 := inf_of (by kernel_rfl)
theorem agg144 : aggOf Tryz.prog 144 = some true := by kernel_rfl
theorem siz144 : sizeIf Tryz.prog 144 = some 2 := by kernel_rfl
theorem inf144 : Inf Tryz.prog 144 (.agg #[(.pointer none), (.int .i64 0)]) 2 16 := inf_of (by kernel_rfl)
theorem agg145 : aggOf Tryz.prog 145 = some false := by kernel_rfl
theorem siz145 : sizeIf Tryz.prog 145 = some 1 := by kernel_rfl
theorem inf145 : Inf Tryz.prog 145 .nilFunc 1 8 := inf_of (by kernel_rfl)
theorem agg146 : aggOf Tryz.prog 146 = some true := by kernel_rfl
theorem siz146 : sizeIf Tryz.prog 146 = some 2 := by kernel_rfl
theorem inf146 : Inf Tryz.prog 146 (.agg #[(.string ⟨#[]⟩), (.int .i64 0)]) 2 24 := inf_of (by kernel_rfl)
theorem agg147 : aggOf Tryz.prog 147 = some true := by kernel_rfl
theorem siz147 : sizeIf Tryz.prog 147 = some 2 := by kernel_rfl
theorem inf147 : Inf Tryz.prog 147 (.agg #[(.string ⟨#[]⟩), (.int .i64 0)]) 2 24 := inf_of (by kernel_rfl)
theorem agg148 : aggOf Tryz.prog 148 = some true := by kernel_rfl
theorem siz148 : sizeIf Tryz.prog 148 = some 3 := by kernel_rfl
theorem inf148 : Inf Tryz.prog 148 (.agg #[(.string ⟨#[]⟩), (.int .i64 0), (.int .i64 0)]) 3 32 := inf_of (by kernel_rfl)
theorem agg149 : aggOf Tryz.prog 149 = some true := by kernel_rfl
theorem siz149 : sizeIf Tryz.prog 149 = some 3 := by kernel_rfl
theorem inf149 : Inf Tryz.prog 149 (.agg #[(.string ⟨#[]⟩), (.int .i64 0), (.int .i64 0)]) 3 32 := inf_of (by kernel_rfl)
theorem agg150 : aggOf Tryz.prog 150 = some false := by kernel_rfl
theorem siz150 : sizeIf Tryz.prog 150 = some 1 := by kernel_rfl
theorem agg151 : aggOf Tryz.prog 151 = some false := by kernel_rfl
theorem siz151 : sizeIf Tryz.prog 151 = some 1 := by kernel_rfl
theorem inf151 : Inf Tryz.prog 151 .nilFunc 1 8 := inf_of (by kernel_rfl)
theorem agg152 : aggOf Tryz.prog 152 = some false := by kernel_rfl
theorem siz152 : sizeIf Tryz.prog 152 = some 1 := by kernel_rfl
theorem agg153 : aggOf Tryz.prog 153 = some false := by kernel_rfl
theorem siz153 : sizeIf Tryz.prog 153 = some 1 := by kernel_rfl
theorem inf153 : Inf Tryz.prog 153 .nilFunc 1 8 := inf_of (by kernel_rfl)
theorem agg154 : aggOf Tryz.prog 154 = some false := by kernel_rfl
theorem siz154 : sizeIf Tryz.prog 154 = some 1 := by kernel_rfl
theorem agg155 : aggOf Tryz.prog 155 = some false := by kernel_rfl
theorem siz155 : sizeIf Tryz.prog 155 = some 1 := by kernel_rfl
theorem inf155 : Inf Tryz.prog 155 .nilFunc 1 8 := inf_of (by kernel_rfl)
theorem agg156 : aggOf Tryz.prog 156 = some false := by kernel_rfl
theorem siz156 : sizeIf Tryz.prog 156 = some 1 := by kernel_rfl
theorem agg157 : aggOf Tryz.prog 157 = some false := by kernel_rfl
theorem siz157 : sizeIf Tryz.prog 157 = some 1 := by kernel_rfl
theorem inf157 : Inf Tryz.prog 157 .nilFunc 1 8 := inf_of (by kernel_rfl)
theorem agg158 : aggOf Tryz.prog 158 = some false := by kernel_rfl
theorem siz158 : sizeIf Tryz.prog 158 = some 1 := by kernel_rfl
theorem inf158 : Inf Tryz.prog 158 (.pointer none) 1 8 := inf_of (by kernel_rfl)
theorem agg159 : aggOf Tryz.prog 159 = some false := by kernel_rfl
theorem siz159 : sizeIf Tryz.prog 159 = some 1 := by kernel_rfl
theorem inf159 : Inf Tryz.prog 159 .nilFunc 1 8 := inf_of (by kernel_rfl)
theorem agg160 : aggOf Tryz.prog 160 = some false := by kernel_rfl
theorem siz160 : sizeIf Tryz.prog 160 = some 1 := by kernel_rfl
theorem inf160 : Inf Tryz.prog 160 .nilFunc 1 8 := inf_of (by kernel_rfl)
theorem agg161 : aggOf Tryz.prog 161 = some false := by kernel_rfl
theorem siz161 : sizeIf Tryz.prog 161 = some 1 := by kernel_rfl
theorem inf161 : Inf Tryz.prog 161 .nilFunc 1 8 := inf_of (by kernel_rfl)
theorem agg162 : aggOf Tryz.prog 162 = some false := by kernel_rfl
theorem siz162 : sizeIf Tryz.prog 162 = some 1 := by kernel_rfl
theorem inf162 : Inf Tryz.prog 162 (.pointer none) 1 8 := inf_of (by kernel_rfl)
theorem agg163 : aggOf Tryz.prog 163 = some false := by kernel_rfl
theorem siz163 : sizeIf Tryz.prog 163 = some 1 := by kernel_rfl
theorem inf163 : Inf Tryz.prog 163 .nilFunc 1 8 := inf_of (by kernel_rfl)
theorem agg164 : aggOf Tryz.prog 164 = some false := by kernel_rfl
theorem siz164 : sizeIf Tryz.prog 164 = some 1 := by kernel_rfl
theorem inf164 : Inf Tryz.prog 164 .nilFunc 1 8 := inf_of (by kernel_rfl)
theorem agg165 : aggOf Tryz.prog 165 = some false := by kernel_rfl
theorem siz165 : sizeIf Tryz.prog 165 = some 1 := by kernel_rfl
theorem inf165 : Inf Tryz.prog 165 .nilFunc 1 8 := inf_of (by kernel_rfl)
theorem agg166 : aggOf Tryz.prog 166 = some false := by kernel_rfl
theorem siz166 : sizeIf Tryz.prog 166 = some 1 := by kernel_rfl
theorem inf166 : Inf Tryz.prog 166 .nilFunc 1 8 := inf_of (by kernel_rfl)
theorem agg167 : aggOf Tryz.prog 167 = some false := by kernel_rfl
theorem siz167 : sizeIf Tryz.prog 167 = some 1 := by kernel_rfl
theorem inf167 : Inf Tryz.prog 167 .nilFunc 1 8 := inf_of (by kernel_rfl)
theorem agg168 : aggOf Tryz.prog 168 = some false := by kernel_rfl
theorem siz168 : sizeIf Tryz.prog 168 = some 1 := by kernel_rfl
theorem inf168 : Inf Tryz.prog 168 (.slice none 0 0) 1 24 := inf_of (by kernel_rfl)
theorem agg169 : aggOf Tryz.prog 169 = some false := by kernel_rfl
theorem siz169 : sizeIf Tryz.prog 169 = some 1 := by kernel_rfl
theorem inf169 : Inf Tryz.prog 169 .nilFunc 1 8 := inf_of (by kernel_rfl)
theorem agg170 : aggOf Tryz.prog 170 = some false := by kernel_rfl
theorem siz170 : sizeIf Tryz.prog 170 = some 1 := by kernel_rfl
theorem inf170 : Inf Tryz.prog 170 (.int .u32 0) 1 4 := inf_of (by kernel_rfl)
theorem agg171 : aggOf Tryz.prog 171 = some true := by kernel_rfl
theorem siz171 : sizeIf Tryz.prog 171 = some 4 := by kernel_rfl
theorem inf171 : Inf Tryz.prog 171 (.agg #[(.int .i64 0), (.bool false), (.int .i64 0), (.int .i64 0)]) 4 32 := inf_of (by kernel_rfl)
theorem agg172 : aggOf Tryz.prog 172 = some true := by kernel_rfl
theorem siz172 : sizeIf Tryz.prog 172 = some 4 := by kernel_rfl
theorem inf172 : Inf Tryz.prog 172 (.agg #[(.int .i64 0), (.bool false), (.int .i64 0), (.int .i64 0)]) 4 32 := inf_of (by kernel_rfl)
theorem agg173 : aggOf Tryz.prog 173 = some false := by kernel_rfl
theorem siz173 : sizeIf Tryz.prog 173 = some 1 := by kernel_rfl
theorem inf173 : Inf Tryz.prog 173 .nilFunc 1 8 := inf_of (by kernel_rfl)
theorem agg174 : aggOf Tryz.prog 174 = some false := by kernel_rfl
theorem siz174 : sizeIf Tryz.prog 174 = some 1 := by kernel_rfl
theorem inf174 : Inf Tryz.prog 174 .nilFunc 1 8 := inf_of (by kernel_rfl)
theorem agg175 : aggOf Tryz.prog 175 = some false := by kernel_rfl
theorem siz175 : sizeIf Tryz.prog 175 = some 1 := by kernel_rfl
theorem agg176 : aggOf Tryz.prog 176 = some false := by kernel_rfl
theorem siz176 : sizeIf Tryz.prog 176 = some 1 := by kernel_rfl
theorem inf176 : Inf Tryz.prog 176 .nilFunc 1 8 := inf_of (by kernel_rfl)
theorem agg177 : aggOf Tryz.prog 177 = some false := by kernel_rfl
theorem siz177 : sizeIf Tryz.prog 177 = some 1 := by kernel_rfl
theorem inf177 : Inf Tryz.prog 177 (.int .i8 0) 1 1 := inf_of (by kernel_rfl)
theorem agg178 : aggOf Tryz.prog 178 = some false := by kernel_rfl
theorem siz178 : sizeIf Tryz.prog 178 = some 1 := by kernel_rfl
theorem inf178 : Inf Tryz.prog 178 .nilFunc 1 8 := inf_of (by kernel_rfl)
theorem agg179 : aggOf Tryz.prog 179 = some false := by kernel_rfl
theorem siz179 : sizeIf Tryz.prog 179 = some 1 := by kernel_rfl
theorem inf179 : Inf Tryz.prog 179 .nilFunc 1 8 := inf_of (by kernel_rfl)
theorem agg180 : aggOf Tryz.prog 180 = some false := by kernel_rfl
theorem siz180 : sizeIf Tryz.prog 180 = some 1 := by kernel_rfl
theorem inf180 : Inf Tryz.prog 180 (.map none) 1 8 := inf_of (by kernel_rfl)
theorem agg181 : aggOf Tryz.prog 181 = some false := by kernel_rfl
theorem siz181 : sizeIf Tryz.prog 181 = some 1 := by kernel_rfl
theorem inf181 : Inf Tryz.prog 181 .nilFunc 1 8 := inf_of (by kernel_rfl)
theorem agg182 : aggOf Tryz.prog 182 = some false := by kernel_rfl
theorem siz182 : sizeIf Tryz.prog 182 = some 1 := by kernel_rfl
theorem inf182 : Inf Tryz.prog 182 .nilFunc 1 8 := inf_of (by kernel_rfl)
theorem agg183 : aggOf Tryz.prog 183 = some false := by kernel_rfl
theorem siz183 : sizeIf Tryz.prog 183 = some 1 := by kernel_rfl
theorem inf183 : Inf Tryz.prog 183 (.slice none 0 0) 1 24 := inf_of (by kernel_rfl)
theorem agg184 : aggOf Tryz.prog 184 = some false := by kernel_rfl
theorem siz184 : sizeIf Tryz.prog 184 = some 1 := by kernel_rfl
theorem inf184 : Inf Tryz.prog 184 .nilFunc 1 8 := inf_of (by kernel_rfl)
theorem agg185 : aggOf Tryz.prog 185 = some false := by kernel_rfl
theorem siz185 : sizeIf Tryz.prog 185 = some 1 := by kernel_rfl
theorem agg186 : aggOf Tryz.prog 186 = some false := by kernel_rfl
theorem siz186 : sizeIf Tryz.prog 186 = some 1 := by kernel_rfl
theorem inf186 : Inf Tryz.prog 186 .nilFunc 1 8 := inf_of (by kernel_rfl)
theorem agg187 : aggOf Tryz.prog 187 = some false := by kernel_rfl
theorem siz187 : sizeIf Tryz.prog 187 = some 1 := by kernel_rfl
theorem agg188 : aggOf Tryz.prog 188 = some false := by kernel_rfl
theorem siz188 : sizeIf Tryz.prog 188 = some 1 := by kernel_rfl
theorem inf188 : Inf Tryz.prog 188 .nilFunc 1 8 := inf_of (by kernel_rfl)
theorem agg189 : aggOf Tryz.prog 189 = some false := by kernel_rfl
theorem siz189 : sizeIf Tryz.prog 189 = some 1 := by kernel_rfl
theorem inf189 : Inf Tryz.prog 189 .nilFunc 1 8 := inf_of (by kernel_rfl)
theorem agg190 : aggOf Tryz.prog 190 = some false := by kernel_rfl
theorem siz190 : sizeIf Tryz.prog 190 = some 1 := by kernel_rfl
theorem inf190 : Inf Tryz.prog 190 .nilFunc 1 8 := inf_of (by kernel_rfl)
theorem agg191 : aggOf Tryz.prog 191 = some false := by kernel_rfl
theorem siz191 : sizeIf Tryz.prog 191 = some 1 := by kernel_rfl
theorem inf191 : Inf Tryz.prog 191 (.int .u64 0) 1 8 := inf_of (by kernel_rfl)
theorem agg192 : aggOf Tryz.prog 192 = some false := by kernel_rfl
theorem siz192 : sizeIf Tryz.prog 192 = some 1 := by kernel_rfl
theorem inf192 : Inf Tryz.prog 192 .nilFunc 1 8 := inf_of (by kernel_rfl)
theorem agg193 : aggOf Tryz.prog 193 = some false := by kernel_rfl
theorem siz193 : sizeIf Tryz.prog 193 = some 1 := by kernel_rfl
theorem inf193 : Inf Tryz.prog 193 (.slice none 0 0) 1 24 := inf_of (by kernel_rfl)
theorem agg194 : aggOf Tryz.prog 194 = some true := by kernel_rfl
theorem siz194 : sizeIf Tryz.prog 194 = some 2 := by kernel_rfl
theorem inf194 : Inf Tryz.prog 194 (.agg #[(.string ⟨#[]⟩), (.int .i64 0)]) 2 24 := inf_of (by kernel_rfl)
theorem agg195 : aggOf Tryz.prog 195 = some true := by kernel_rfl
theorem siz195 : sizeIf Tryz.prog 195 = some 2 := by kernel_rfl
theorem inf195 : Inf Tryz.prog 195 (.agg #[(.string ⟨#[]⟩), (.int .i64 0)]) 2 24 := inf_of (by kernel_rfl)
theorem agg196 : aggOf Tryz.prog 196 = some false := by kernel_rfl
theorem siz196 : sizeIf Tryz.prog 196 = some 1 := by kernel_rfl
theorem inf196 : Inf Tryz.prog 196 .nilFunc 1 8 := inf_of (by kernel_rfl)
theorem agg197 : aggOf Tryz.prog 197 = some false := by kernel_rfl
theorem siz197 : sizeIf Tryz.prog 197 = some 1 := by kernel_rfl
theorem inf197 : Inf Tryz.prog 197 .nilFunc 1 8 := inf_of (by kernel_rfl)
theorem agg198 : aggOf Tryz.prog 198 = some false := by kernel_rfl
theorem siz198 : sizeIf Tryz.prog 198 = some 1 := by kernel_rfl
theorem inf198 : Inf Tryz.prog 198 .nilFunc 1 8 := inf_of (by kernel_rfl)
theorem agg199 : aggOf Tryz.prog 199 = some false := by kernel_rfl
theorem siz199 : sizeIf Tryz.prog 199 = some 1 := by kernel_rfl
theorem inf199 : Inf Tryz.prog 199 .nilFunc 1 8 := inf_of (by kernel_rfl)
theorem agg200 : aggOf Tryz.prog 200 = some false := by kernel_rfl
theorem siz200 : sizeIf Tryz.prog 200 = some 1 := by kernel_rfl
theorem inf200 : Inf Tryz.prog 200 .nilFunc 1 8 := inf_of (by kernel_rfl)
theorem agg201 : aggOf Tryz.prog 201 = some false := by kernel_rfl
theorem siz201 : sizeIf Tryz.prog 201 = some 1 := by kernel_rfl
theorem agg202 : aggOf Tryz.prog 202 = some false := by kernel_rfl
theorem siz202 : sizeIf Tryz.prog 202 = some 1 := by kernel_rfl
theorem inf202 : Inf Tryz.prog 202 .nilFunc 1 8 := inf_of (by kernel_rfl)
theorem agg203 : aggOf Tryz.prog 203 = some false := by kernel_rfl
theorem siz203 : sizeIf Tryz.prog 203 = some 1 := by kernel_rfl
theorem agg204 : aggOf Tryz.prog 204 = some false := by kernel_rfl
theorem siz204 : sizeIf Tryz.prog 204 = some 1 := by kernel_rfl
theorem inf204 : Inf Tryz.prog 204 .nilFunc 1 8 := inf_of (by kernel_rfl)
theorem agg205 : aggOf Tryz.prog 205 = some false := by kernel_rfl
theorem siz205 : sizeIf Tryz.prog 205 = some 1 := by kernel_rfl
theorem agg206 : aggOf Tryz.prog 206 = some false := by kernel_rfl
theorem siz206 : sizeIf Tryz.prog 206 = some 1 := by kernel_rfl
theorem inf206 : Inf Tryz.prog 206 .nilFunc 1 8 := inf_of (by kernel_rfl)
theorem agg207 : aggOf Tryz.prog 207 = some true := by kernel_rfl
theorem siz207 : sizeIf Tryz.prog 207 = some 1 := by kernel_rfl
theorem inf207 : Inf Tryz.prog 207 (.agg #[(.slice none 0 0)]) 1 24 := inf_of (by kernel_rfl)
theorem agg208 : aggOf Tryz.prog 208 = some true := by kernel_rfl
theorem siz208 : sizeIf Tryz.prog 208 = some 1 := by kernel_rfl
theorem inf208 : Inf Tryz.prog 208 (.agg #[(.slice none 0 0)]) 1 24 := inf_of (by kernel_rfl)
theorem agg209 : aggOf Tryz.prog 209 = some false := by kernel_rfl
theorem siz209 : sizeIf Tryz.prog 209 = some 1 := by kernel_rfl
theorem inf209 : Inf Tryz.prog 209 .nilFunc 1 8 := inf_of (by kernel_rfl)
theorem agg210 : aggOf Tryz.prog 210 = some false := by kernel_rfl
theorem siz210 : sizeIf Tryz.prog 210 = some 1 := by kernel_rfl
theorem inf210 : Inf Tryz.prog 210 (.int .u64 0) 1 8 := inf_of (by kernel_rfl)
theorem agg211 : aggOf Tryz.prog 211 = some false := by kernel_rfl
theorem siz211 : sizeIf Tryz.prog 211 = some 1 := by kernel_rfl
theorem inf211 : Inf Tryz.prog 211 .nilFunc 1 8 := inf_of (by kernel_rfl)
theorem agg212 : aggOf Tryz.prog 212 = some false := by kernel_rfl
theorem siz212 : sizeIf Tryz.prog 212 = some 1 := by kernel_rfl
theorem inf212 : Inf Tryz.prog 212 .nilFunc 1 8 := inf_of (by kernel_rfl)
theorem agg213 : aggOf Tryz.prog 213 = some false := by kernel_rfl
theorem siz213 : sizeIf Tryz.prog 213 = some 1 := by kernel_rfl
theorem agg214 : aggOf Tryz.prog 214 = some false := by kernel_rfl
theorem siz214 : sizeIf Tryz.prog 214 = some 1 := by kernel_rfl
theorem inf214 : Inf Tryz.prog 214 .nilFunc 1 8 := inf_of (by kernel_rfl)
theorem agg215 : aggOf Tryz.prog 215 = some false := by kernel_rfl
theorem siz215 : sizeIf Tryz.prog 215 = some 1 := by kernel_rfl
theorem inf215 : Inf Tryz.prog 215 .nilFunc 1 8 := inf_of (by kernel_rfl)
theorem agg216 : aggOf Tryz.prog 216 = some false := by kernel_rfl
theorem siz216 : sizeIf Tryz.prog 216 = some 1 := by kernel_rfl
theorem inf216 : Inf Tryz.prog 216 .nilFunc 1 8 := inf_of (by kernel_rfl)
theorem agg217 : aggOf Tryz.prog 217 = some false := by kernel_rfl
theorem siz217 : sizeIf Tryz.prog 217 = some 1 := by kernel_rfl
theorem inf217 : Inf Tryz.prog 217 (.slice none 0 0) 1 24 := inf_of (by kernel_rfl)
theorem agg218 : aggOf Tryz.prog 218 = some false := by kernel_rfl
theorem siz218 : sizeIf Tryz.prog 218 = some 1 := by kernel_rfl
theorem inf218 : Inf Tryz.prog 218 .nilFunc 1 8 := inf_of (by kernel_rfl)
theorem agg219 : aggOf Tryz.prog 219 = some true := by kernel_rfl
theorem siz219 : sizeIf Tryz.prog 219 = some 65 := by kernel_rfl
theorem inf219 : Inf Tryz.prog 219 (.agg #[(.int .i8 0), (.int .i8 0), (.int .i8 0), (.int .i8 0), (.int .i8 0), (.int .i8 0), (.int .i8 0), (.int .i8 0), (.int .i8 0), (.int .i8 0), (.int .i8 0), (.int .i8 0), (.int .i8 0), (.int .i8 0), (.int .i8 0), (.int .i8 0), (.int .i8 0), (.int .i8 0), (.int .i8 0), (.int .i8 0), (.int .i8 0), (.int .i8 0), (.int .i8 0), (.int .i8 0), (.int .i8 0), (.int .i8 0), (.int .i8 0), (.int .i8 0), (.int .i8 0), (.int .i8 0), (.int .i8 0), (.int .i8 0), (.int .i8 0), (.int .i8 0), (.int .i8 0), (.int .i8 0), (.int .i8 0), (.int .i8 0), (.int .i8 0), (.int .i8 0), (.int .i8 0), (.int .i8 0), (.int .i8 0), (.int .i8 0), (.int .i8 0), (.int .i8 0), (.int .i8 0), (.int .i8 0), (.int .i8 0), (.int .i8 0), (.int .i8 0), (.int .i8 0), (.int .i8 0), (.int .i8 0), (.int .i8 0), (.int .i8 0), (.int .i8 0), (.int .i8 0), (.int .i8 0), (.int .i8 0), (.int .i8 0), (.int .i8 0), (.int .i8 0), (.int .i8 0), (.int .i8 0)]) 65 65 := inf_of (by kernel_rfl)
theorem agg220 : aggOf Tryz.prog 220 = some false := by kernel_rfl
theorem siz220 : sizeIf Tryz.prog 220 = some 1 := by kernel_rfl
theorem inf220 : Inf Tryz.prog 220 .nilFunc 1 8 := inf_of (by kernel_rfl)
theorem agg221 : aggOf Tryz.prog 221 = some false := by kernel_rfl
theorem siz221 : sizeIf Tryz.prog 221 = some 1 := by kernel_rfl
theorem inf221 : Inf Tryz.prog 221 .nilFunc 1 8 := inf_of (by kernel_rfl)
theorem agg222 : aggOf Tryz.prog 222 = some false := by kernel_rfl
theorem siz222 : sizeIf Tryz.prog 222 = some 1 := by kernel_rfl
theorem agg223 : aggOf Tryz.prog 223 = some false := by kernel_rfl
theorem siz223 : sizeIf Tryz.prog 223 = some 1 := by kernel_rfl
theorem inf223 : Inf Tryz.prog 223 .nilFunc 1 8 := inf_of (by kernel_rfl)
theorem agg224 : aggOf Tryz.prog 224 = some false := by kernel_rfl
theorem siz224 : sizeIf Tryz.prog 224 = some 1 := by kernel_rfl
theorem inf224 : Inf Tryz.prog 224 .nilFunc 1 8 := inf_of (by kernel_rfl)
theorem agg225 : aggOf Tryz.prog 225 = some false := by kernel_rfl
theorem siz225 : sizeIf Tryz.prog 225 = some 1 := by kernel_rfl
theorem inf225 : Inf Tryz.prog 225 .nilFunc 1 8 := inf_of (by kernel_rfl)
theorem agg226 : aggOf Tryz.prog 226 = some false := by kernel_rfl
theorem siz226 : sizeIf Tryz.prog 226 = some 1 := by kernel_rfl
theorem inf226 : Inf Tryz.prog 226 .nilFunc 1 8 := inf_of (by kernel_rfl)
theorem agg227 : aggOf Tryz.prog 227 = some false := by kernel_rfl
theorem siz227 : sizeIf Tryz.prog 227 = some 1 := by kernel_rfl
theorem agg228 : aggOf Tryz.prog 228 = some false := by kernel_rfl
theorem siz228 : sizeIf Tryz.prog 228 = some 1 := by kernel_rfl
theorem inf228 : Inf Tryz.prog 228 .nilFunc 1 8 := inf_of (by kernel_rfl)
theorem agg229 : aggOf Tryz.prog 229 = some false := by kernel_rfl
theorem siz229 : sizeIf Tryz.prog 229 = some 1 := by kernel_rfl
theorem agg230 : aggOf Tryz.prog 230 = some false := by kernel_rfl
theorem siz230 : sizeIf Tryz.prog 230 = some 1 := by kernel_rfl
theorem inf230 : Inf Tryz.prog 230 .nilFunc 1 8 := inf_of (by kernel_rfl)
theorem agg231 : aggOf Tryz.prog 231 = some false := by kernel_rfl
theorem siz231 : sizeIf Tryz.prog 231 = some 1 := by kernel_rfl
theorem inf231 : Inf Tryz.prog 231 .nilFunc 1 8 := inf_of (by kernel_rfl)
theorem agg232 : aggOf Tryz.prog 232 = some false := by kernel_rfl
theorem siz232 : sizeIf Tryz.prog 232 = some 1 := by kernel_rfl
theorem inf232 : Inf Tryz.prog 232 .nilFunc 1 8 := inf_of (by kernel_rfl)
theorem agg233 : aggOf Tryz.prog 233 = some false := by kernel_rfl
theorem siz233 : sizeIf Tryz.prog 233 = some 1 := by kernel_rfl
theorem inf233 : Inf Tryz.prog 233 .nilFunc 1 8 := inf_of (by kernel_rfl)
theorem agg234 : aggOf Tryz.prog 234 = some false := by kernel_rfl
theorem siz234 : sizeIf Tryz.prog 234 = some 1 := by kernel_rfl
theorem inf234 : Inf Tryz.prog 234 .nilFunc 1 8 := inf_of (by kernel_rfl)
theorem agg235 : aggOf Tryz.prog 235 = some true := by kernel_rfl
theorem siz235 : sizeIf Tryz.prog 235 = some 24 := by kernel_rfl
theorem inf235 : Inf Tryz.prog 235 (.agg #[(.int .u8 0), (.int .u8 0), (.int .u8 0), (.int .u8 0), (.int .u8 0), (.int .u8 0), (.int .u8 0), (.int .u8 0), (.int .u8 0), (.int .u8 0), (.int .u8 0), (.int .u8 0), (.int .u8 0), (.int .u8 0), (.int .u8 0), (.int .u8 0), (.int .u8 0), (.int .u8 0), (.int .u8 0), (.int .u8 0), (.int .u8 0), (.int .u8 0), (.int .u8 0), (.int .u8 0)]) 24 24 := inf_of (by kernel_rfl)
theorem agg236 : aggOf Tryz.prog 236 = some false := by kernel_rfl
theorem siz236 : sizeIf Tryz.prog 236 = some 1 := by kernel_rfl
theorem inf236 : Inf Tryz.prog 236 .nilFunc 1 8 := inf_of (by kernel_rfl)
theorem agg237 : aggOf Tryz.prog 237 = some false := by kernel_rfl
theorem siz237 : sizeIf Tryz.prog 237 = some 1 := by kernel_rfl
theorem inf237 : Inf Tryz.prog 237 .nilFunc 1 8 := inf_of (by kernel_rfl)
theorem agg238 : aggOf Tryz.prog 238 = some false := by kernel_rfl
theorem siz238 : sizeIf Tryz.prog 238 = some 1 := by kernel_rfl
theorem agg239 : aggOf Tryz.prog 239 = some false := by kernel_rfl
theorem siz239 : sizeIf Tryz.prog 239 = some 1 := by kernel_rfl
theorem inf239 : Inf Tryz.prog 239 .nilFunc 1 8 := inf_of (by kernel_rfl)
theorem agg240 : aggOf Tryz.prog 240 = some false := by kernel_rfl
theorem siz240 : sizeIf Tryz.prog 240 = some 1 := by kernel_rfl
theorem inf240 : Inf Tryz.prog 240 .nilFunc 1 8 := inf_of (by kernel_rfl)
theorem agg241 : aggOf Tryz.prog 241 = some true := by kernel_rfl
theorem siz241 : sizeIf Tryz.prog 241 = some 4 := by kernel_rfl
theorem inf241 : Inf Tryz.prog 241 (.agg #[(.int .i64 0), (.int .i64 0), (.int .i64 0), (.int .i64 0)]) 4 32 := inf_of (by kernel_rfl)
theorem agg242 : aggOf Tryz.prog 242 = some false := by kernel_rfl
theorem siz242 : sizeIf Tryz.prog 242 = some 1 := by kernel_rfl
theorem inf242 : Inf Tryz.prog 242 .nilFunc 1 8 := inf_of (by kernel_rfl)
theorem agg243 : aggOf Tryz.prog 243 = some false := by kernel_rfl
theorem siz243 : sizeIf Tryz.prog 243 = some 1 := by kernel_rfl
theorem agg244 : aggOf Tryz.prog 244 = some false := by kernel_rfl
theorem siz244 : sizeIf Tryz.prog 244 = some 1 := by kernel_rfl
theorem inf244 : Inf Tryz.prog 244 .nilFunc 1 8 := inf_of (by kernel_rfl)
theorem agg245 : aggOf Tryz.prog 245 = some false := by kernel_rfl
theorem siz245 : sizeIf Tryz.prog 245 = some 1 := by kernel_rfl
theorem agg246 : aggOf Tryz.prog 246 = some false := by kernel_rfl
theorem siz246 : sizeIf Tryz.prog 246 = some 1 := by kernel_rfl
theorem inf246 : Inf Tryz.prog 246 .nilFunc 1 8 := inf_of (by kernel_rfl)
theorem agg247 : aggOf Tryz.prog 247 = some false := by kernel_rfl
theorem siz247 : sizeIf Tryz.prog 247 = some 1 := by kernel_rfl
theorem agg248 : aggOf Tryz.prog 248 = some false := by kernel_rfl
theorem siz248 : sizeIf Tryz.prog 248 = some 1 := by kernel_rfl
theorem inf248 : Inf Tryz.prog 248 .nilFunc 1 8 := inf_of (by kernel_rfl)
theorem agg249 : aggOf Tryz.prog 249 = some false := by kernel_rfl
theorem siz249 : sizeIf Tryz.prog 249 = some 1 := by kernel_rfl
theorem inf249 : Inf Tryz.prog 249 (.map none) 1 8 := inf_of (by kernel_rfl)
theorem agg250 : aggOf Tryz.prog 250 = some false := by kernel_rfl
theorem siz250 : sizeIf Tryz.prog 250 = some 1 := by kernel_rfl
theorem agg251 : aggOf Tryz.prog 251 = some false := by kernel_rfl
theorem siz251 : sizeIf Tryz.prog 251 = some 1 := by kernel_rfl
theorem inf251 : Inf Tryz.prog 251 (.map none) 1 8 := inf_of (by kernel_rfl)
theorem agg252 : aggOf Tryz.prog 252 = some true := by kernel_rfl
theorem siz252 : sizeIf Tryz.prog 252 = some 2 := by kernel_rfl
theorem inf252 : Inf Tryz.prog 252 (.agg #[(.int .i64 0), (.int .i64 0)]) 2 16 := inf_of (by kernel_rfl)
theorem agg253 : aggOf Tryz.prog 253 = some false := by kernel_rfl
theorem siz253 : sizeIf Tryz.prog 253 = some 1 := by kernel_rfl
theorem inf253 : Inf Tryz.prog 253 .nilFunc 1 8 := inf_of (by kernel_rfl)
theorem agg254 : aggOf Tryz.prog 254 = some false := by kernel_rfl
theorem siz254 : sizeIf Tryz.prog 254 = some 1 := by kernel_rfl
theorem inf254 : Inf Tryz.prog 254 .nilFunc 1 8 := inf_of (by kernel_rfl)
theorem agg255 : aggOf Tryz.prog 255 = some false := by kernel_rfl
theorem siz255 : sizeIf Tryz.prog 255 = some 1 := by kernel_rfl
theorem inf255 : Inf Tryz.prog 255 .nilFunc 1 8 := inf_of (by kernel_rfl)
theorem agg256 : aggOf Tryz.prog 256 = some false := by kernel_rfl
theorem siz256 : sizeIf Tryz.prog 256 = some 1 := by kernel_rfl
theorem agg257 : aggOf Tryz.prog 257 = some false := by kernel_rfl
theorem siz257 : sizeIf Tryz.prog 257 = some 1 := by kernel_rfl
theorem inf257 : Inf Tryz.prog 257 .nilFunc 1 8 := inf_of (by kernel_rfl)
theorem agg258 : aggOf Tryz.prog 258 = some false := by kernel_rfl
theorem siz258 : sizeIf Tryz.prog 258 = some 1 := by kernel_rfl
theorem inf258 : Inf Tryz.prog 258 .nilFunc 1 8 := inf_of (by kernel_rfl)
theorem agg259 : aggOf Tryz.prog 259 = some false := by kernel_rfl
theorem siz259 : sizeIf Tryz.prog 259 = some 1 := by kernel_rfl
theorem agg260 : aggOf Tryz.prog 260 = some false := by kernel_rfl
theorem siz260 : sizeIf Tryz.prog 260 = some 1 := by kernel_rfl
theorem inf260 : Inf Tryz.prog 260 .nilFunc 1 8 := inf_of (by kernel_rfl)
theorem agg261 : aggOf Tryz.prog 261 = some false := by kernel_rfl
theorem siz261 : sizeIf Tryz.prog 261 = some 1 := by kernel_rfl
theorem inf261 : Inf Tryz.prog 261 .nilFunc 1 8 := inf_of (by kernel_rfl)
theorem agg262 : aggOf Tryz.prog 262 = some false := by kernel_rfl
theorem siz262 : sizeIf Tryz.prog 262 = some 1 := by kernel_rfl
theorem inf262 : Inf Tryz.prog 262 .nilFunc 1 8 := inf_of (by kernel_rfl)
theorem agg263 : aggOf Tryz.prog 263 = some false := by kernel_rfl
theorem siz263 : sizeIf Tryz.prog 263 = some 1 := by kernel_rfl
theorem agg264 : aggOf Tryz.prog 264 = some false := by kernel_rfl
theorem siz264 : sizeIf Tryz.prog 264 = some 1 := by kernel_rfl
theorem inf264 : Inf Tryz.prog 264 .nilFunc 1 8 := inf_of (by kernel_rfl)
theorem agg265 : aggOf Tryz.prog 265 = some false := by kernel_rfl
theorem siz265 : sizeIf Tryz.prog 265 = some 1 := by kernel_rfl
theorem inf265 : Inf Tryz.prog 265 .nilFunc 1 8 := inf_of (by kernel_rfl)
theorem agg266 : aggOf Tryz.prog 266 = some true := by kernel_rfl
theorem siz266 : sizeIf Tryz.prog 266 = some 20 := by kernel_rfl
theorem inf266 : Inf Tryz.prog 266 (.agg #[(.int .u64 0), (.int .u64 0), (.int .u64 0), (.int .u64 0), (.int .u64 0), (.int .u64 0), (.int .u64 0), (.int .u64 0), (.int .u64 0), (.int .u64 0), (.int .u64 0), (.int .u64 0), (.int .u64 0), (.int .u64 0), (.int .u64 0), (.int .u64 0), (.int .u64 0), (.int .u64 0), (.int .u64 0), (.int .u64 0)]) 20 160 := inf_of (by kernel_rfl)
theorem agg267 : aggOf Tryz.prog 267 = some true := by kernel_rfl
theorem siz267 : sizeIf Tryz.prog 267 = some 65 := by kernel_rfl
theorem inf267 : Inf Tryz.prog 267 (.agg #[(.int .u8 0), (.int .u8 0), (.int .u8 0), (.int .u8 0), (.int .u8 0), (.int .u8 0), (.int .u8 0), (.int .u8 0), (.int .u8 0), (.int .u8 0), (.int .u8 0), (.int .u8 0), (.int .u8 0), (.int .u8 0), (.int .u8 0), (.int .u8 0), (.int .u8 0), (.int .u8 0), (.int .u8 0), (.int .u8 0), (.int .u8 0), (.int .u8 0), (.int .u8 0), (.int .u8 0), (.int .u8 0), (.int .u8 0), (.int .u8 0), (.int .u8 0), (.int .u8 0), (.int .u8 0), (.int .u8 0), (.int .u8 0), (.int .u8 0), (.int .u8 0), (.int .u8 0), (.int .u8 0), (.int .u8 0), (.int .u8 0), (.int .u8 0), (.int .u8 0), (.int .u8 0), (.int .u8 0), (.int .u8 0), (.int .u8 0), (.int .u8 0), (.int .u8 0), (.int .u8 0), (.int .u8 0), (.int .u8 0), (.int .u8 0), (.int .u8 0), (.int .u8 0), (.int .u8 0), (.int .u8 0), (.int .u8 0), (.int .u8 0), (.int .u8 0), (.int .u8 0), (.int .u8 0), (.int .u8 0), (.int .u8 0), (.int .u8 0), (.int .u8 0), (.int .u8 0), (.int .u8 0)]) 65 65 := inf_of (by kernel_rfl)
theorem agg268 : aggOf Tryz.prog 268 = some true := by kernel_rfl
theorem siz268 : sizeIf Tryz.prog 268 = some 32 := by kernel_rfl
theorem inf268 : Inf Tryz.prog 268 (.agg #[(.int .u8 0), (.int .u8 0), (.int .u8 0), (.int .u8 0), (.int .u8 0), (.int .u8 0), (.int .u8 0), (.int .u8 0), (.int .u8 0), (.int .u8 0), (.int .u8 0), (.int .u8 0), (.int .u8 0), (.int .u8 0), (.int .u8 0), (.int .u8 0), (.int .u8 0), (.int .u8 0), (.int .u8 0), (.int .u8 0), (.int .u8 0), (.int .u8 0), (.int .u8 0), (.int .u8 0), (.int .u8 0), (.int .u8 0), (.int .u8 0), (.int .u8 0), (.int .u8 0), (.int .u8 0), (.int .u8 0), (.int .u8 0)]) 32 32 := inf_of (by kernel_rfl)
theorem agg269 : aggOf Tryz.prog 269 = some true := by kernel_rfl
theorem siz269 : sizeIf Tryz.prog 269 = some 64 := by kernel_rfl
theorem inf269 : Inf Tryz.prog 269 (.agg #[(.int .u8 0), (.int .u8 0), (.int .u8 0), (.int .u8 0), (.int .u8 0), (.int .u8 0), (.int .u8 0), (.int .u8 0), (.int .u8 0), (.int .u8 0), (.int .u8 0), (.int .u8 0), (.int .u8 0), (.int .u8 0), (.int .u8 0), (.int .u8 0), (.int .u8 0), (.int .u8 0), (.int .u8 0), (.int .u8 0), (.int .u8 0), (.int .u8 0), (.int .u8 0), (.int .u8 0), (.int .u8 0), (.int .u8 0), (.int .u8 0), (.int .u8 0), (.int .u8 0), (.int .u8 0), (.int .u8 0), (.int .u8 0), (.int .u8 0), (.int .u8 0), (.int .u8 0), (.int .u8 0), (.int .u8 0), (.int .u8 0), (.int .u8 0), (.int .u8 0), (.int .u8 0), (.int .u8 0), (.int .u8 0), (.int .u8 0), (.int .u8 0), (.int .u8 0), (.int .u8 0), (.int .u8 0), (.int .u8 0), (.int .u8 0), (.int .u8 0), (.int .u8 0), (.int .u8 0), (.int .u8 0), (.int .u8 0), (.int .u8 0), (.int .u8 0), (.int .u8 0), (.int .u8 0), (.int .u8 0), (.int .u8 0), (.int .u8 0), (.int .u8 0), (.int .u8 0)]) 64 64 := inf_of (by kernel_rfl)
theorem agg270 : aggOf Tryz.prog 270 = some false := by kernel_rfl
theorem siz270 : sizeIf Tryz.prog 270 = some 1 := by kernel_rfl
theorem inf270 : Inf Tryz.prog 270 .nilFunc 1 8 := inf_of (by kernel_rfl)
theorem agg271 : aggOf Tryz.prog 271 = some false := by kernel_rfl
theorem siz271 : sizeIf Tryz.prog 271 = some 1 := by kernel_rfl
theorem inf271 : Inf Tryz.prog 271 .nilFunc 1 8 := inf_of (by kernel_rfl)
theorem agg272 : aggOf Tryz.prog 272 = some true := by kernel_rfl
theorem siz272 : sizeIf Tryz.prog 272 = some 4 := by kernel_rfl
theorem inf272 : Inf Tryz.prog 272 (.agg #[(.int .i64 0), (.int .i64 0), (.int .i64 0), (.int .i64 0)]) 4 32 := inf_of (by kernel_rfl)
theorem agg273 : aggOf Tryz.prog 273 = some false := by kernel_rfl
theorem siz273 : sizeIf Tryz.prog 273 = some 1 := by kernel_rfl
theorem inf273 : Inf Tryz.prog 273 .nilFunc 1 8 := inf_of (by kernel_rfl)
theorem agg274 : aggOf Tryz.prog 274 = some false := by kernel_rfl
theorem siz274 : sizeIf Tryz.prog 274 = some 1 := by kernel_rfl
theorem inf274 : Inf Tryz.prog 274 .nilFunc 1 8 := inf_of (by kernel_rfl)
theorem agg275 : aggOf Tryz.prog 275 = some false := by kernel_rfl
theorem siz275 : sizeIf Tryz.prog 275 = some 1 := by kernel_rfl
theorem inf275 : Inf Tryz.prog 275 .nilFunc 1 8 := inf_of (by kernel_rfl)
theorem agg276 : aggOf Tryz.prog 276 = some false := by kernel_rfl
theorem siz276 : sizeIf Tryz.prog 276 = some 1 := by kernel_rfl
theorem inf276 : Inf Tryz.prog 276 .nilFunc 1 8 := inf_of (by kernel_rfl)
theorem agg277 : aggOf Tryz.prog 277 = some false := by kernel_rfl
theorem siz277 : sizeIf Tryz.prog 277 = some 1 := by kernel_rfl
theorem inf277 : Inf Tryz.prog 277 .nilFunc 1 8 := inf_of (by kernel_rfl)
theorem agg278 : aggOf Tryz.prog 278 = some false := by kernel_rfl
theorem siz278 : sizeIf Tryz.prog 278 = some 1 := by kernel_rfl
theorem inf278 : Inf Tryz.prog 278 .nilFunc 1 8 := inf_of (by kernel_rfl)
theorem agg279 : aggOf Tryz.prog 279 = some false := by kernel_rfl
theorem siz279 : sizeIf Tryz.prog 279 = some 1 := by kernel_rfl
theorem inf279 : Inf Tryz.prog 279 .nilFunc 1 8 := inf_of (by kernel_rfl)
theorem agg280 : aggOf Tryz.prog 280 = some true := by kernel_rfl
theorem siz280 : sizeIf Tryz.prog 280 = some 4 := by kernel_rfl
theorem inf280 : Inf Tryz.prog 280 (.agg #[(.pointer none), (.pointer none), (.pointer none), (.string ⟨#[]⟩)]) 4 40 := inf_of (by kernel_rfl)
theorem agg281 : aggOf Tryz.prog 281 = some true := by kernel_rfl
theorem siz281 : sizeIf Tryz.prog 281 = some 4 := by kernel_rfl
theorem inf281 : Inf Tryz.prog 281 (.agg #[(.pointer none), (.pointer none), (.pointer none), (.string ⟨#[]⟩)]) 4 40 := inf_of (by kernel_rfl)
theorem agg282 : aggOf Tryz.prog 282 = some true := by kernel_rfl
theorem siz282 : sizeIf Tryz.prog 282 = some 0 := by kernel_rfl
theorem inf282 : Inf Tryz.prog 282 (.agg #[]) 0 0 := inf_of (by kernel_rfl)
theorem agg283 : aggOf Tryz.prog 283 = some true := by kernel_rfl
theorem siz283 : sizeIf Tryz.prog 283 = some 0 := by kernel_rfl
theorem inf283 : Inf Tryz.prog 283 (.agg #[]) 0 0 := inf_of (by kernel_rfl)
theorem agg284 : aggOf Tryz.prog 284 = some true := by kernel_rfl
theorem siz284 : sizeIf Tryz.prog 284 = some 0 := by kernel_rfl
theorem inf284 : Inf Tryz.prog 284 (.agg #[]) 0 0 := inf_of (by kernel_rfl)
theorem agg285 : aggOf Tryz.prog 285 = some false := by kernel_rfl
theorem siz285 : sizeIf Tryz.prog 285 = some 1 := by kernel_rfl
theorem inf285 : Inf Tryz.prog 285 (.int .u8 0) 1 1 := inf_of (by kernel_rfl)
theorem agg286 : aggOf Tryz.prog 286 = some false := by kernel_rfl
theorem siz286 : sizeIf Tryz.prog 286 = some 1 := by kernel_rfl
theorem inf286 : Inf Tryz.prog 286 (.int .u8 0) 1 1 := inf_of (by kernel_rfl)
theorem agg287 : aggOf Tryz.prog 287 = some false := by kernel_rfl
theorem siz287 : sizeIf Tryz.prog 287 = some 1 := by kernel_rfl
theorem inf287 : Inf Tryz.prog 287 .nilFunc 1 8 := inf_of (by kernel_rfl)
theorem agg288 : aggOf Tryz.prog 288 = some false := by kernel_rfl
theorem siz288 : sizeIf Tryz.prog 288 = some 1 := by kernel_rfl
theorem inf288 : Inf Tryz.prog 288 (.pointer none) 1 8 := inf_of (by kernel_rfl)
theorem agg289 : aggOf Tryz.prog 289 = some false := by kernel_rfl
theorem siz289 : sizeIf Tryz.prog 289 = some 1 := by kernel_rfl
theorem inf289 : Inf Tryz.prog 289 (.int .i32 0) 1 4 := inf_of (by kernel_rfl)
theorem agg290 : aggOf Tryz.prog 290 = some false := by kernel_rfl
theorem siz290 : sizeIf Tryz.prog 290 = some 1 := by kernel_rfl
theorem inf290 : Inf Tryz.prog 290 (.int .i32 0) 1 4 := inf_of (by kernel_rfl)
theorem agg291 : aggOf Tryz.prog 291 = some true := by kernel_rfl
theorem siz291 : sizeIf Tryz.prog 291 = some 11 := by kernel_rfl
theorem inf291 : Inf Tryz.prog 291 (.agg #[(.int .u64 0), (.int .u64 0), (.int .u32 0), (.int .u8 0), (.int .u8 0), (.int .u8 0), (.int .u8 0), .nilFunc, (.pointer none), (.int .i32 0), (.int .i32 0)]) 11 48 := inf_of (by kernel_rfl)
theorem agg292 : aggOf Tryz.prog 292 = some true := by kernel_rfl
theorem siz292 : sizeIf Tryz.prog 292 = some 11 := by kernel_rfl
theorem inf292 : Inf Tryz.prog 292 (.agg #[(.int .u64 0), (.int .u64 0), (.int .u32 0), (.int .u8 0), (.int .u8 0), (.int .u8 0), (.int .u8 0), .nilFunc, (.pointer none), (.int .i32 0), (.int .i32 0)]) 11 48 := inf_of (by kernel_rfl)
theorem agg293 : aggOf Tryz.prog 293 = some false := by kernel_rfl
theorem siz293 : sizeIf Tryz.prog 293 = some 1 := by kernel_rfl
theorem inf293 : Inf Tryz.prog 293 (.pointer none) 1 8 := inf_of (by kernel_rfl)
section
variable {fn : Func} {R : Ending → World → Prop} {n : Nat} {w : World} {k : List It} {env : Env} {L l : List Oper} {C : World → Prop} {Q : Act → Prop}
theorem sA (st : List Nat) {k' : List It} {e e' : Exit} {env' : Env} (h : Go.Wk.stepF tab n st 400 k e env = some (k', e', env')) (hk : H Tryz.prog fn R n k' e' env' w) : H Tryz.prog fn R n k e env w := stepF_ok tabOk st h hk
theorem qA {l' : List Oper} {env' : Env} (h : stepQF tab n L 400 l env = some (l', env')) (hk : HQ Tryz.prog C n Q L l' env') : HQ Tryz.prog C n Q L l env := stepQF_ok tabOk h hk
theorem sB (st : List Nat) {k' : List It} {e e' : Exit} {env' : Env} (h : Go.Wk.stepF tab n st 16 k e env = some (k', e', env')) (hk : H Tryz.prog fn R n k' e' env' w) : H Tryz.prog fn R n k e env w := stepF_ok tabOk st h hk
theorem qB {l' : List Oper} {env' : Env} (h : stepQF tab n L 16 l env = some (l', env')) (hk : HQ Tryz.prog C n Q L l' env') : HQ Tryz.prog C n Q L l env := stepQF_ok tabOk h hk
theorem sC (st : List Nat) {k' : List It} {e e' : Exit} {env' : Env} (h : Go.Wk.stepF tab n st 3 k e env = some (k', e', env')) (hk : H Tryz.prog fn R n k' e' env' w) : H Tryz.prog fn R n k e env w := stepF_ok tabOk st h hk
theorem qC {l' : List Oper} {env' : Env} (h : stepQF tab n L 3 l env = some (l', env')) (hk : HQ Tryz.prog C n Q L l' env') : HQ Tryz.prog C n Q L l env := stepQF_ok tabOk h hk
theorem sD (st : List Nat) {k' : List It} {e e' : Exit} {env' : Env} (h : Go.Wk.stepF tab n st 0 k e env = some (k', e', env')) (hk : H Tryz.prog fn R n k' e' env' w) : H Tryz.prog fn R n k e env w := stepF_ok tabOk st h hk
theorem qD {l' : List Oper} {env' : Env} (h : stepQF tab n L 0 l env = some (l', env')) (hk : HQ Tryz.prog C n Q L l' env') : HQ Tryz.prog C n Q L l env := stepQF_ok tabOk h hk
theorem mA {f : Nat} {dn : List Nat} {i : Nat} {is : List Nat} {f' : Nat} {dn' : List Nat} {env' : Env} (h : runN tab n L 400 f dn env = (i :: is, f', dn', env'))
    (hs : Region.noSelect L.toArray = true) (hf : freeAll L dn (i :: is) = true) (hk : H Tryz.prog fn R n (.inv (anyS Tryz.prog C (semK Tryz.prog fn R k) L f' dn') :: k) .normal env' w) : H Tryz.prog fn R n (.inv (anyS Tryz.prog C (semK Tryz.prog fn R k) L f dn) :: k) .normal env w := mix_run 400 tabOk h hs hf hk
end

end Go.Wk.YtdelgnflcfhhkaaGreatDoor
