import Derived.Test.YtdelgnflcfhhkaaProg
import Derived.Test.YtdelgnflcfhhkaaMevs
import Derived.KernelRfl
set_option linter.unusedVariables false
namespace Go.Wk.Ytdelgnflcfhhkaa
open Go Go.Wk Go.Proofs
/-- the types of this seat's program, as far as straight code asks of them -/
def tab : Tab := [
  (2, .int .i64, 1),
  (3, .int .i64, 1),
  (4, .bool, 1),
  (5, .int .u8, 1),
  (6, .int .u8, 1),
  (7, .struct [(0, 1, false), (1, 1, false), (2, 1, false), (3, 1, false)], 4),
  (8, .struct [(0, 1, false), (1, 1, false), (2, 1, false), (3, 1, false)], 4),
  (9, .str, 1),
  (10, .str, 1),
  (11, .str, 1),
  (12, .int .u64, 1),
  (13, .struct [(0, 1, false), (1, 1, false)], 2),
  (14, .struct [(0, 1, false), (1, 1, false)], 2),
  (15, .ptr 220, 1),
  (16, .ptr 223, 1),
  (17, .ptr 232, 1),
  (18, .struct [(0, 1, false)], 1),
  (19, .struct [(0, 1, false)], 1),
  (21, .int .i32, 1),
  (22, .struct [(0, 1, false), (1, 1, false), (2, 1, false), (3, 1, false), (4, 1, false), (5, 1, false)], 6),
  (23, .struct [(0, 1, false), (1, 1, false), (2, 1, false), (3, 1, false), (4, 1, false), (5, 1, false)], 6),
  (24, .slice 9 1, 1),
  (25, .slice 62 3, 1),
  (26, .struct [(0, 1, false), (1, 1, false)], 2),
  (27, .struct [(0, 1, false), (1, 1, false)], 2),
  (28, .slice 60 1, 1),
  (29, .slice 59 17, 1),
  (30, .struct [(0, 6, true), (6, 2, true), (8, 1, false), (9, 1, false), (10, 1, false), (11, 1, false), (12, 1, false), (13, 1, false), (14, 1, false), (15, 1, false), (16, 1, false)], 17),
  (31, .struct [(0, 6, true), (6, 2, true), (8, 1, false), (9, 1, false), (10, 1, false), (11, 1, false), (12, 1, false), (13, 1, false), (14, 1, false), (15, 1, false), (16, 1, false)], 17),
  (32, .int .i64, 1),
  (35, .struct [(0, 1, false), (1, 1, false), (2, 1, false), (3, 1, false), (4, 1, false), (5, 1, false)], 6),
  (36, .slice 109 3, 1),
  (37, .struct [(0, 1, false), (1, 1, false)], 2),
  (38, .struct [(0, 1, false), (1, 1, false)], 2),
  (39, .slice 100 17, 1),
  (40, .struct [(0, 6, true), (6, 2, true), (8, 1, false), (9, 1, false), (10, 1, false), (11, 1, false), (12, 1, false), (13, 1, false), (14, 1, false), (15, 1, false), (16, 1, false)], 17),
  (41, .struct [(0, 6, true), (6, 2, true), (8, 1, false), (9, 1, false), (10, 1, false), (11, 1, false), (12, 1, false), (13, 1, false), (14, 1, false), (15, 1, false), (16, 1, false)], 17),
  (53, .slice 5 1, 1),
  (55, .slice 28 1, 1),
  (56, .struct [(0, 1, false), (1, 1, false), (2, 1, false), (3, 1, false), (4, 1, false), (5, 1, false)], 6),
  (57, .struct [(0, 1, false), (1, 1, false), (2, 1, false), (3, 1, false), (4, 1, false), (5, 1, false)], 6),
  (58, .struct [(0, 1, false), (1, 1, false), (2, 1, false), (3, 1, false), (4, 1, false), (5, 1, false), (6, 1, false), (7, 1, false), (8, 1, false), (9, 1, false), (10, 1, false), (11, 6, true)], 17),
  (59, .struct [(0, 1, false), (1, 1, false), (2, 1, false), (3, 1, false), (4, 1, false), (5, 1, false), (6, 1, false), (7, 1, false), (8, 1, false), (9, 1, false), (10, 1, false), (11, 6, true)], 17),
  (60, .int .i8, 1),
  (61, .struct [(0, 1, false), (1, 1, false), (2, 1, false)], 3),
  (62, .struct [(0, 1, false), (1, 1, false), (2, 1, false)], 3),
  (67, .slice 70 6, 1),
  (68, .slice 71 6, 1),
  (69, .struct [(0, 1, false), (1, 1, false), (2, 1, false), (3, 1, false), (4, 1, false), (5, 1, false)], 6),
  (70, .struct [(0, 1, false), (1, 1, false), (2, 1, false), (3, 1, false), (4, 1, false), (5, 1, false)], 6),
  (71, .struct [(0, 1, false), (1, 1, false), (2, 1, false), (3, 1, false), (4, 1, false), (5, 1, false)], 6),
  (77, .ptr 81, 1),
  (78, .ptr 141, 1),
  (80, .struct [(0, 1, false), (1, 1, false)], 2),
  (81, .struct [(0, 1, false), (1, 1, false)], 2),
  (83, .struct [(0, 1, false), (1, 1, false)], 2),
  (84, .struct [(0, 1, false), (1, 1, false)], 2),
  (87, .struct [(0, 1, false), (1, 1, false)], 2),
  (88, .struct [(0, 1, false), (1, 1, false)], 2),
  (89, .struct [(0, 2, true), (2, 1, false)], 3),
  (90, .struct [(0, 2, true), (2, 1, false)], 3),
  (98, .struct [(0, 1, false), (1, 1, false), (2, 1, false), (3, 1, false), (4, 1, false), (5, 1, false)], 6),
  (99, .struct [(0, 1, false), (1, 1, false), (2, 1, false), (3, 1, false), (4, 1, false), (5, 1, false), (6, 1, false), (7, 1, false), (8, 1, false), (9, 1, false), (10, 1, false), (11, 6, true)], 17),
  (100, .struct [(0, 1, false), (1, 1, false), (2, 1, false), (3, 1, false), (4, 1, false), (5, 1, false), (6, 1, false), (7, 1, false), (8, 1, false), (9, 1, false), (10, 1, false), (11, 6, true)], 17),
  (109, .struct [(0, 1, false), (1, 1, false), (2, 1, false)], 3),
  (110, .int .u64, 1),
  (112, .slice 2 1, 1),
  (114, .ptr 162, 1),
  (117, .slice 120 1, 1),
  (119, .ptr 23, 1),
  (120, .ptr 3, 1),
  (124, .ptr 59, 1),
  (125, .slice 129 1, 1),
  (126, .slice 3 1, 1),
  (129, .ptr 28, 1),
  (135, .ptr 31, 1),
  (140, .struct [(0, 1, false), (1, 1, false)], 2),
  (141, .struct [(0, 1, false), (1, 1, false)], 2),
  (161, .struct [(0, 1, false)], 1),
  (162, .struct [(0, 1, false)], 1),
  (164, .int .u64, 1),
  (194, .arr 4 3 1 false, 4),
  (198, .map 9 3, 1),
  (200, .map 201 3, 1),
  (201, .arr 2 3 1 false, 2),
  (219, .struct [(0, 1, false), (1, 1, false), (2, 1, false), (3, 1, false)], 4),
  (220, .struct [(0, 1, false), (1, 1, false), (2, 1, false), (3, 1, false)], 4),
  (221, .arr 0 16 1 false, 0),
  (222, .struct [(0, 0, true)], 0),
  (223, .struct [(0, 0, true)], 0),
  (224, .int .u32, 1),
  (225, .int .u8, 1),
  (226, .int .u8, 1),
  (228, .ptr 5, 1),
  (229, .int .i32, 1),
  (230, .int .i32, 1),
  (231, .struct [(0, 1, false), (1, 1, false), (2, 1, false), (3, 1, false), (4, 1, false), (5, 1, false), (6, 1, false), (7, 1, false), (8, 1, false), (9, 1, false), (10, 1, false)], 11),
  (232, .struct [(0, 1, false), (1, 1, false), (2, 1, false), (3, 1, false), (4, 1, false), (5, 1, false), (6, 1, false), (7, 1, false), (8, 1, false), (9, 1, false), (10, 1, false)], 11)]
theorem tabOk : TabOk Try.prog tab := tabOk_of (by kernel_rfl)
theorem agg0 : aggOf Try.prog 0 = some false := by kernel_rfl
theorem siz0 : sizeIf Try.prog 0 = some 1 := by kernel_rfl
theorem agg1 : aggOf Try.prog 1 = some false := by kernel_rfl
theorem siz1 : sizeIf Try.prog 1 = some 1 := by kernel_rfl
theorem inf1 : Inf Try.prog 1 .nilFunc 1 8 := inf_of (by kernel_rfl)
theorem agg2 : aggOf Try.prog 2 = some false := by kernel_rfl
theorem siz2 : sizeIf Try.prog 2 = some 1 := by kernel_rfl
theorem inf2 : Inf Try.prog 2 (.int .i64 0) 1 8 := inf_of (by kernel_rfl)
theorem agg3 : aggOf Try.prog 3 = some false := by kernel_rfl
theorem siz3 : sizeIf Try.prog 3 = some 1 := by kernel_rfl
theorem inf3 : Inf Try.prog 3 (.int .i64 0) 1 8 := inf_of (by kernel_rfl)
theorem agg4 : aggOf Try.prog 4 = some false := by kernel_rfl
theorem siz4 : sizeIf Try.prog 4 = some 1 := by kernel_rfl
theorem inf4 : Inf Try.prog 4 (.bool false) 1 1 := inf_of (by kernel_rfl)
theorem agg5 : aggOf Try.prog 5 = some false := by kernel_rfl
theorem siz5 : sizeIf Try.prog 5 = some 1 := by kernel_rfl
theorem inf5 : Inf Try.prog 5 (.int .u8 0) 1 1 := inf_of (by kernel_rfl)
theorem agg6 : aggOf Try.prog 6 = some false := by kernel_rfl
theorem siz6 : sizeIf Try.prog 6 = some 1 := by kernel_rfl
theorem inf6 : Inf Try.prog 6 (.int .u8 0) 1 1 := inf_of (by kernel_rfl)
theorem agg7 : aggOf Try.prog 7 = some true := by kernel_rfl
theorem siz7 : sizeIf Try.prog 7 = some 4 := by kernel_rfl
theorem inf7 : Inf Try.prog 7 (.agg #[(.int .i64 0), (.int .i64 0), (.bool false), (.int .u8 0)]) 4 24 := inf_of (by kernel_rfl)
theorem agg8 : aggOf Try.prog 8 = some true := by kernel_rfl
theorem siz8 : sizeIf Try.prog 8 = some 4 := by kernel_rfl
theorem inf8 : Inf Try.prog 8 (.agg #[(.int .i64 0), (.int .i64 0), (.bool false), (.int .u8 0)]) 4 24 := inf_of (by kernel_rfl)
theorem agg9 : aggOf Try.prog 9 = some false := by kernel_rfl
theorem siz9 : sizeIf Try.prog 9 = some 1 := by kernel_rfl
theorem inf9 : Inf Try.prog 9 (.string ⟨#[]⟩) 1 16 := inf_of (by kernel_rfl)
theorem agg10 : aggOf Try.prog 10 = some false := by kernel_rfl
theorem siz10 : sizeIf Try.prog 10 = some 1 := by kernel_rfl
theorem inf10 : Inf Try.prog 10 (.string ⟨#[]⟩) 1 16 := inf_of (by kernel_rfl)
theorem agg11 : aggOf Try.prog 11 = some false := by kernel_rfl
theorem siz11 : sizeIf Try.prog 11 = some 1 := by kernel_rfl
theorem inf11 : Inf Try.prog 11 (.string ⟨#[]⟩) 1 16 := inf_of (by kernel_rfl)
theorem agg12 : aggOf Try.prog 12 = some false := by kernel_rfl
theorem siz12 : sizeIf Try.prog 12 = some 1 := by kernel_rfl
theorem inf12 : Inf Try.prog 12 (.int .u64 0) 1 8 := inf_of (by kernel_rfl)
theorem agg13 : aggOf Try.prog 13 = some true := by kernel_rfl
theorem siz13 : sizeIf Try.prog 13 = some 2 := by kernel_rfl
theorem inf13 : Inf Try.prog 13 (.agg #[(.string ⟨#[]⟩), (.int .u64 0)]) 2 24 := inf_of (by kernel_rfl)
theorem agg14 : aggOf Try.prog 14 = some true := by kernel_rfl
theorem siz14 : sizeIf Try.prog 14 = some 2 := by kernel_rfl
theorem inf14 : Inf Try.prog 14 (.agg #[(.string ⟨#[]⟩), (.int .u64 0)]) 2 24 := inf_of (by kernel_rfl)
theorem agg15 : aggOf Try.prog 15 = some false := by kernel_rfl
theorem siz15 : sizeIf Try.prog 15 = some 1 := by kernel_rfl
theorem inf15 : Inf Try.prog 15 (.pointer none) 1 8 := inf_of (by kernel_rfl)
theorem agg16 : aggOf Try.prog 16 = some false := by kernel_rfl
theorem siz16 : sizeIf Try.prog 16 = some 1 := by kernel_rfl
theorem inf16 : Inf Try.prog 16 (.pointer none) 1 8 := inf_of (by kernel_rfl)
theorem agg17 : aggOf Try.prog 17 = some false := by kernel_rfl
theorem siz17 : sizeIf Try.prog 17 = some 1 := by kernel_rfl
theorem inf17 : Inf Try.prog 17 (.pointer none) 1 8 := inf_of (by kernel_rfl)
theorem agg18 : aggOf Try.prog 18 = some true := by kernel_rfl
theorem siz18 : sizeIf Try.prog 18 = some 1 := by kernel_rfl
theorem inf18 : Inf Try.prog 18 (.agg #[(.pointer none)]) 1 8 := inf_of (by kernel_rfl)
theorem agg19 : aggOf Try.prog 19 = some true := by kernel_rfl
theorem siz19 : sizeIf Try.prog 19 = some 1 := by kernel_rfl
theorem inf19 : Inf Try.prog 19 (.agg #[(.pointer none)]) 1 8 := inf_of (by kernel_rfl)
theorem agg20 : aggOf Try.prog 20 = some false := by kernel_rfl
theorem siz20 : sizeIf Try.prog 20 = some 1 := by kernel_rfl
theorem inf20 : Inf Try.prog 20 .nilIface 1 16 := inf_of (by kernel_rfl)
theorem agg21 : aggOf Try.prog 21 = some false := by kernel_rfl
theorem siz21 : sizeIf Try.prog 21 = some 1 := by kernel_rfl
theorem inf21 : Inf Try.prog 21 (.int .i32 0) 1 4 := inf_of (by kernel_rfl)
theorem agg22 : aggOf Try.prog 22 = some true := by kernel_rfl
theorem siz22 : sizeIf Try.prog 22 = some 6 := by kernel_rfl
theorem inf22 : Inf Try.prog 22 (.agg #[(.int .i64 0), (.int .i64 0), (.int .i64 0), (.int .i64 0), (.int .i64 0), (.int .i64 0)]) 6 48 := inf_of (by kernel_rfl)
theorem agg23 : aggOf Try.prog 23 = some true := by kernel_rfl
theorem siz23 : sizeIf Try.prog 23 = some 6 := by kernel_rfl
theorem inf23 : Inf Try.prog 23 (.agg #[(.int .i64 0), (.int .i64 0), (.int .i64 0), (.int .i64 0), (.int .i64 0), (.int .i64 0)]) 6 48 := inf_of (by kernel_rfl)
theorem agg24 : aggOf Try.prog 24 = some false := by kernel_rfl
theorem siz24 : sizeIf Try.prog 24 = some 1 := by kernel_rfl
theorem inf24 : Inf Try.prog 24 (.slice none 0 0) 1 24 := inf_of (by kernel_rfl)
theorem agg25 : aggOf Try.prog 25 = some false := by kernel_rfl
theorem siz25 : sizeIf Try.prog 25 = some 1 := by kernel_rfl
theorem inf25 : Inf Try.prog 25 (.slice none 0 0) 1 24 := inf_of (by kernel_rfl)
theorem agg26 : aggOf Try.prog 26 = some true := by kernel_rfl
theorem siz26 : sizeIf Try.prog 26 = some 2 := by kernel_rfl
theorem inf26 : Inf Try.prog 26 (.agg #[(.slice none 0 0), (.slice none 0 0)]) 2 48 := inf_of (by kernel_rfl)
theorem agg27 : aggOf Try.prog 27 = some true := by kernel_rfl
theorem siz27 : sizeIf Try.prog 27 = some 2 := by kernel_rfl
theorem inf27 : Inf Try.prog 27 (.agg #[(.slice none 0 0), (.slice none 0 0)]) 2 48 := inf_of (by kernel_rfl)
theorem agg28 : aggOf Try.prog 28 = some false := by kernel_rfl
theorem siz28 : sizeIf Try.prog 28 = some 1 := by kernel_rfl
theorem inf28 : Inf Try.prog 28 (.slice none 0 0) 1 24 := inf_of (by kernel_rfl)
theorem agg29 : aggOf Try.prog 29 = some false := by kernel_rfl
theorem siz29 : sizeIf Try.prog 29 = some 1 := by kernel_rfl
theorem inf29 : Inf Try.prog 29 (.slice none 0 0) 1 24 := inf_of (by kernel_rfl)
theorem agg30 : aggOf Try.prog 30 = some true := by kernel_rfl
theorem siz30 : sizeIf Try.prog 30 = some 17 := by kernel_rfl
theorem inf30 : Inf Try.prog 30 (.agg #[(.int .i64 0), (.int .i64 0), (.int .i64 0), (.int .i64 0), (.int .i64 0), (.int .i64 0), (.slice none 0 0), (.slice none 0 0), (.slice none 0 0), (.int .i64 0), (.slice none 0 0), (.slice none 0 0), (.slice none 0 0), (.slice none 0 0), (.slice none 0 0), (.slice none 0 0), (.int .i64 0)]) 17 280 := inf_of (by kernel_rfl)
theorem agg31 : aggOf Try.prog 31 = some true := by kernel_rfl
theorem siz31 : sizeIf Try.prog 31 = some 17 := by kernel_rfl
theorem inf31 : Inf Try.prog 31 (.agg #[(.int .i64 0), (.int .i64 0), (.int .i64 0), (.int .i64 0), (.int .i64 0), (.int .i64 0), (.slice none 0 0), (.slice none 0 0), (.slice none 0 0), (.int .i64 0), (.slice none 0 0), (.slice none 0 0), (.slice none 0 0), (.slice none 0 0), (.slice none 0 0), (.slice none 0 0), (.int .i64 0)]) 17 280 := inf_of (by kernel_rfl)
theorem agg32 : aggOf Try.prog 32 = some false := by kernel_rfl
theorem siz32 : sizeIf Try.prog 32 = some 1 := by kernel_rfl
theorem inf32 : Inf Try.prog 32 (.int .i64 0) 1 8 := inf_of (by kernel_rfl)
theorem agg33 : aggOf Try.prog 33 = some false := by kernel_rfl
theorem siz33 : sizeIf Try.prog 33 = some 1 := by kernel_rfl
theorem agg34 : aggOf Try.prog 34 = some false := by kernel_rfl
theorem siz34 : sizeIf Try.prog 34 = some 1 := by kernel_rfl
theorem inf34 : Inf Try.prog 34 .nilFunc 1 8 := inf_of (by kernel_rfl)
theorem agg35 : aggOf Try.prog 35 = some true := by kernel_rfl
theorem siz35 : sizeIf Try.prog 35 = some 6 := by kernel_rfl
theorem inf35 : Inf Try.prog 35 (.agg #[(.int .i64 0), (.int .i64 0), (.int .i64 0), (.int .i64 0), (.int .i64 0), (.int .i64 0)]) 6 48 := inf_of (by kernel_rfl)
theorem agg36 : aggOf Try.prog 36 = some false := by kernel_rfl
theorem siz36 : sizeIf Try.prog 36 = some 1 := by kernel_rfl
theorem inf36 : Inf Try.prog 36 (.slice none 0 0) 1 24 := inf_of (by kernel_rfl)
theorem agg37 : aggOf Try.prog 37 = some true := by kernel_rfl
theorem siz37 : sizeIf Try.prog 37 = some 2 := by kernel_rfl
theorem inf37 : Inf Try.prog 37 (.agg #[(.slice none 0 0), (.slice none 0 0)]) 2 48 := inf_of (by kernel_rfl)
theorem agg38 : aggOf Try.prog 38 = some true := by kernel_rfl
theorem siz38 : sizeIf Try.prog 38 = some 2 := by kernel_rfl
theorem inf38 : Inf Try.prog 38 (.agg #[(.slice none 0 0), (.slice none 0 0)]) 2 48 := inf_of (by kernel_rfl)
theorem agg39 : aggOf Try.prog 39 = some false := by kernel_rfl
theorem siz39 : sizeIf Try.prog 39 = some 1 := by kernel_rfl
theorem inf39 : Inf Try.prog 39 (.slice none 0 0) 1 24 := inf_of (by kernel_rfl)
theorem agg40 : aggOf Try.prog 40 = some true := by kernel_rfl
theorem siz40 : sizeIf Try.prog 40 = some 17 := by kernel_rfl
theorem inf40 : Inf Try.prog 40 (.agg #[(.int .i64 0), (.int .i64 0), (.int .i64 0), (.int .i64 0), (.int .i64 0), (.int .i64 0), (.slice none 0 0), (.slice none 0 0), (.slice none 0 0), (.int .i64 0), (.slice none 0 0), (.slice none 0 0), (.slice none 0 0), (.slice none 0 0), (.slice none 0 0), (.slice none 0 0), (.int .i64 0)]) 17 280 := inf_of (by kernel_rfl)
theorem agg41 : aggOf Try.prog 41 = some true := by kernel_rfl
theorem siz41 : sizeIf Try.prog 41 = some 17 := by kernel_rfl
theorem inf41 : Inf Try.prog 41 (.agg #[(.int .i64 0), (.int .i64 0), (.int .i64 0), (.int .i64 0), (.int .i64 0), (.int .i64 0), (.slice none 0 0), (.slice none 0 0), (.slice none 0 0), (.int .i64 0), (.slice none 0 0), (.slice none 0 0), (.slice none 0 0), (.slice none 0 0), (.slice none 0 0), (.slice none 0 0), (.int .i64 0)]) 17 280 := inf_of (by kernel_rfl)
theorem agg42 : aggOf Try.prog 42 = some false := by kernel_rfl
theorem siz42 : sizeIf Try.prog 42 = some 1 := by kernel_rfl
theorem agg43 : aggOf Try.prog 43 = some false := by kernel_rfl
theorem siz43 : sizeIf Try.prog 43 = some 1 := by kernel_rfl
theorem inf43 : Inf Try.prog 43 .nilFunc 1 8 := inf_of (by kernel_rfl)
theorem agg44 : aggOf Try.prog 44 = some false := by kernel_rfl
theorem siz44 : sizeIf Try.prog 44 = some 1 := by kernel_rfl
theorem inf44 : Inf Try.prog 44 .nilFunc 1 8 := inf_of (by kernel_rfl)
theorem agg45 : aggOf Try.prog 45 = some false := by kernel_rfl
theorem siz45 : sizeIf Try.prog 45 = some 1 := by kernel_rfl
theorem inf45 : Inf Try.prog 45 .nilFunc 1 8 := inf_of (by kernel_rfl)
theorem agg46 : aggOf Try.prog 46 = some false := by kernel_rfl
theorem siz46 : sizeIf Try.prog 46 = some 1 := by kernel_rfl
theorem inf46 : Inf Try.prog 46 .nilFunc 1 8 := inf_of (by kernel_rfl)
theorem agg47 : aggOf Try.prog 47 = some false := by kernel_rfl
theorem siz47 : sizeIf Try.prog 47 = some 1 := by kernel_rfl
theorem inf47 : Inf Try.prog 47 .nilFunc 1 8 := inf_of (by kernel_rfl)
theorem agg48 : aggOf Try.prog 48 = some false := by kernel_rfl
theorem siz48 : sizeIf Try.prog 48 = some 1 := by kernel_rfl
theorem inf48 : Inf Try.prog 48 .nilFunc 1 8 := inf_of (by kernel_rfl)
theorem agg49 : aggOf Try.prog 49 = some false := by kernel_rfl
theorem siz49 : sizeIf Try.prog 49 = some 1 := by kernel_rfl
theorem agg50 : aggOf Try.prog 50 = some false := by kernel_rfl
theorem siz50 : sizeIf Try.prog 50 = some 1 := by kernel_rfl
theorem inf50 : Inf Try.prog 50 .nilFunc 1 8 := inf_of (by kernel_rfl)
theorem agg51 : aggOf Try.prog 51 = some false := by kernel_rfl
theorem siz51 : sizeIf Try.prog 51 = some 1 := by kernel_rfl
theorem agg52 : aggOf Try.prog 52 = some false := by kernel_rfl
theorem siz52 : sizeIf Try.prog 52 = some 1 := by kernel_rfl
theorem inf52 : Inf Try.prog 52 .nilFunc 1 8 := inf_of (by kernel_rfl)
theorem agg53 : aggOf Try.prog 53 = some false := by kernel_rfl
theorem siz53 : sizeIf Try.prog 53 = some 1 := by kernel_rfl
theorem inf53 : Inf Try.prog 53 (.slice none 0 0) 1 24 := inf_of (by kernel_rfl)
theorem agg54 : aggOf Try.prog 54 = some false := by kernel_rfl
theorem siz54 : sizeIf Try.prog 54 = some 1 := by kernel_rfl
theorem inf54 : Inf Try.prog 54 .nilFunc 1 8 := inf_of (by kernel_rfl)
theorem agg55 : aggOf Try.prog 55 = some false := by kernel_rfl
theorem siz55 : sizeIf Try.prog 55 = some 1 := by kernel_rfl
theorem inf55 : Inf Try.prog 55 (.slice none 0 0) 1 24 := inf_of (by kernel_rfl)
theorem agg56 : aggOf Try.prog 56 = some true := by kernel_rfl
theorem siz56 : sizeIf Try.prog 56 = some 6 := by kernel_rfl
theorem inf56 : Inf Try.prog 56 (.agg #[(.slice none 0 0), (.slice none 0 0), (.slice none 0 0), (.int .i64 0), (.int .i64 0), (.int .i64 0)]) 6 96 := inf_of (by kernel_rfl)
theorem agg57 : aggOf Try.prog 57 = some true := by kernel_rfl
theorem siz57 : sizeIf Try.prog 57 = some 6 := by kernel_rfl
theorem inf57 : Inf Try.prog 57 (.agg #[(.slice none 0 0), (.slice none 0 0), (.slice none 0 0), (.int .i64 0), (.int .i64 0), (.int .i64 0)]) 6 96 := inf_of (by kernel_rfl)
theorem agg58 : aggOf Try.prog 58 = some true := by kernel_rfl
theorem siz58 : sizeIf Try.prog 58 = some 17 := by kernel_rfl
theorem inf58 : Inf Try.prog 58 (.agg #[(.slice none 0 0), (.slice none 0 0), (.slice none 0 0), (.slice none 0 0), (.slice none 0 0), (.slice none 0 0), (.int .i64 0), (.int .i64 0), (.int .i64 0), (.int .i64 0), (.int .i64 0), (.slice none 0 0), (.slice none 0 0), (.slice none 0 0), (.int .i64 0), (.int .i64 0), (.int .i64 0)]) 17 280 := inf_of (by kernel_rfl)
theorem agg59 : aggOf Try.prog 59 = some true := by kernel_rfl
theorem siz59 : sizeIf Try.prog 59 = some 17 := by kernel_rfl
theorem inf59 : Inf Try.prog 59 (.agg #[(.slice none 0 0), (.slice none 0 0), (.slice none 0 0), (.slice none 0 0), (.slice none 0 0), (.slice none 0 0), (.int .i64 0), (.int .i64 0), (.int .i64 0), (.int .i64 0), (.int .i64 0), (.slice none 0 0), (.slice none 0 0), (.slice none 0 0), (.int .i64 0), (.int .i64 0), (.int .i64 0)]) 17 280 := inf_of (by kernel_rfl)
theorem agg60 : aggOf Try.prog 60 = some false := by kernel_rfl
theorem siz60 : sizeIf Try.prog 60 = some 1 := by kernel_rfl
theorem inf60 : Inf Try.prog 60 (.int .i8 0) 1 1 := inf_of (by kernel_rfl)
theorem agg61 : aggOf Try.prog 61 = some true := by kernel_rfl
theorem siz61 : sizeIf Try.prog 61 = some 3 := by kernel_rfl
theorem inf61 : Inf Try.prog 61 (.agg #[(.int .i64 0), (.int .i64 0), (.int .i64 0)]) 3 24 := inf_of (by kernel_rfl)
theorem agg62 : aggOf Try.prog 62 = some true := by kernel_rfl
theorem siz62 : sizeIf Try.prog 62 = some 3 := by kernel_rfl
theorem inf62 : Inf Try.prog 62 (.agg #[(.int .i64 0), (.int .i64 0), (.int .i64 0)]) 3 24 := inf_of (by kernel_rfl)
theorem agg63 : aggOf Try.prog 63 = some false := by kernel_rfl
theorem siz63 : sizeIf Try.prog 63 = some 1 := by kernel_rfl
theorem agg64 : aggOf Try.prog 64 = some false := by kernel_rfl
theorem siz64 : sizeIf Try.prog 64 = some 1 := by kernel_rfl
theorem inf64 : Inf Try.prog 64 .nilFunc 1 8 := inf_of (by kernel_rfl)
theorem agg65 : aggOf Try.prog 65 = some false := by kernel_rfl
theorem siz65 : sizeIf Try.prog 65 = some 1 := by kernel_rfl
theorem inf65 : Inf Try.prog 65 .nilFunc 1 8 := inf_of (by kernel_rfl)
theorem agg66 : aggOf Try.prog 66 = some false := by kernel_rfl
theorem siz66 : sizeIf Try.prog 66 = some 1 := by kernel_rfl
theorem inf66 : Inf Try.prog 66 .nilFunc 1 8 := inf_of (by kernel_rfl)
theorem agg67 : aggOf Try.prog 67 = some false := by kernel_rfl
theorem siz67 : sizeIf Try.prog 67 = some 1 := by kernel_rfl
theorem inf67 : Inf Try.prog 67 (.slice none 0 0) 1 24 := inf_of (by kernel_rfl)
theorem agg68 : aggOf Try.prog 68 = some false := by kernel_rfl
theorem siz68 : sizeIf Try.prog 68 = some 1 := by kernel_rfl
theorem inf68 : Inf Try.prog 68 (.slice none 0 0) 1 24 := inf_of (by kernel_rfl)
theorem agg69 : aggOf Try.prog 69 = some true := by kernel_rfl
theorem siz69 : sizeIf Try.prog 69 = some 6 := by kernel_rfl
theorem inf69 : Inf Try.prog 69 (.agg #[(.int .i64 0), (.int .i64 0), (.int .i64 0), (.int .i64 0), (.slice none 0 0), (.slice none 0 0)]) 6 80 := inf_of (by kernel_rfl)
theorem agg70 : aggOf Try.prog 70 = some true := by kernel_rfl
theorem siz70 : sizeIf Try.prog 70 = some 6 := by kernel_rfl
theorem inf70 : Inf Try.prog 70 (.agg #[(.int .i64 0), (.int .i64 0), (.int .i64 0), (.int .i64 0), (.slice none 0 0), (.slice none 0 0)]) 6 80 := inf_of (by kernel_rfl)
theorem agg71 : aggOf Try.prog 71 = some true := by kernel_rfl
theorem siz71 : sizeIf Try.prog 71 = some 6 := by kernel_rfl
theorem inf71 : Inf Try.prog 71 (.agg #[(.int .i64 0), (.int .i64 0), (.int .i64 0), (.int .i64 0), (.slice none 0 0), (.slice none 0 0)]) 6 80 := inf_of (by kernel_rfl)
theorem agg72 : aggOf Try.prog 72 = some false := by kernel_rfl
theorem siz72 : sizeIf Try.prog 72 = some 1 := by kernel_rfl
theorem agg73 : aggOf Try.prog 73 = some false := by kernel_rfl
theorem siz73 : sizeIf Try.prog 73 = some 1 := by kernel_rfl
theorem inf73 : Inf Try.prog 73 .nilFunc 1 8 := inf_of (by kernel_rfl)
theorem agg74 : aggOf Try.prog 74 = some false := by kernel_rfl
theorem siz74 : sizeIf Try.prog 74 = some 1 := by kernel_rfl
theorem agg75 : aggOf Try.prog 75 = some false := by kernel_rfl
theorem siz75 : sizeIf Try.prog 75 = some 1 := by kernel_rfl
theorem inf75 : Inf Try.prog 75 .nilFunc 1 8 := inf_of (by kernel_rfl)
theorem agg76 : aggOf Try.prog 76 = some false := by kernel_rfl
theorem siz76 : sizeIf Try.prog 76 = some 1 := by kernel_rfl
theorem inf76 : Inf Try.prog 76 .nilFunc 1 8 := inf_of (by kernel_rfl)
theorem agg77 : aggOf Try.prog 77 = some false := by kernel_rfl
theorem siz77 : sizeIf Try.prog 77 = some 1 := by kernel_rfl
theorem inf77 : Inf Try.prog 77 (.pointer none) 1 8 := inf_of (by kernel_rfl)
theorem agg78 : aggOf Try.prog 78 = some false := by kernel_rfl
theorem siz78 : sizeIf Try.prog 78 = some 1 := by kernel_rfl
theorem inf78 : Inf Try.prog 78 (.pointer none) 1 8 := inf_of (by kernel_rfl)
theorem agg79 : aggOf Try.prog 79 = some false := by kernel_rfl
theorem siz79 : sizeIf Try.prog 79 = some 1 := by kernel_rfl
theorem inf79 : Inf Try.prog 79 .nilFunc 1 8 := inf_of (by kernel_rfl)
theorem agg80 : aggOf Try.prog 80 = some true := by kernel_rfl
theorem siz80 : sizeIf Try.prog 80 = some 2 := by kernel_rfl
theorem inf80 : Inf Try.prog 80 (.agg #[(.pointer none), (.int .i64 0)]) 2 16 := inf_of (by kernel_rfl)
theorem agg81 : aggOf Try.prog 81 = some true := by kernel_rfl
theorem siz81 : sizeIf Try.prog 81 = some 2 := by kernel_rfl
theorem inf81 : Inf Try.prog 81 (.agg #[(.pointer none), (.int .i64 0)]) 2 16 := inf_of (by kernel_rfl)
theorem agg82 : aggOf Try.prog 82 = some false := by kernel_rfl
theorem siz82 : sizeIf Try.prog 82 = some 1 := by kernel_rfl
theorem inf82 : Inf Try.prog 82 .nilFunc 1 8 := inf_of (by kernel_rfl)
theorem agg83 : aggOf Try.prog 83 = some true := by kernel_rfl
theorem siz83 : sizeIf Try.prog 83 = some 2 := by kernel_rfl
theorem inf83 : Inf Try.prog 83 (.agg #[(.int .i64 0), (.int .i64 0)]) 2 16 := inf_of (by kernel_rfl)
theorem agg84 : aggOf Try.prog 84 = some true := by kernel_rfl
theorem siz84 : sizeIf Try.prog 84 = some 2 := by kernel_rfl
theorem inf84 : Inf Try.prog 84 (.agg #[(.int .i64 0), (.int .i64 0)]) 2 16 := inf_of (by kernel_rfl)
theorem agg85 : aggOf Try.prog 85 = some false := by kernel_rfl
theorem siz85 : sizeIf Try.prog 85 = some 1 := by kernel_rfl
theorem agg86 : aggOf Try.prog 86 = some false := by kernel_rfl
theorem siz86 : sizeIf Try.prog 86 = some 1 := by kernel_rfl
theorem inf86 : Inf Try.prog 86 .nilFunc 1 8 := inf_of (by kernel_rfl)
theorem agg87 : aggOf Try.prog 87 = some true := by kernel_rfl
theorem siz87 : sizeIf Try.prog 87 = some 2 := by kernel_rfl
theorem inf87 : Inf Try.prog 87 (.agg #[(.string ⟨#[]⟩), (.int .i64 0)]) 2 24 := inf_of (by kernel_rfl)
theorem agg88 : aggOf Try.prog 88 = some true := by kernel_rfl
theorem siz88 : sizeIf Try.prog 88 = some 2 := by kernel_rfl
theorem inf88 : Inf Try.prog 88 (.agg #[(.string ⟨#[]⟩), (.int .i64 0)]) 2 24 := inf_of (by kernel_rfl)
theorem agg89 : aggOf Try.prog 89 = some true := by kernel_rfl
theorem siz89 : sizeIf Try.prog 89 = some 3 := by kernel_rfl
theorem inf89 : Inf Try.prog 89 (.agg #[(.string ⟨#[]⟩), (.int .i64 0), (.int .i64 0)]) 3 32 := inf_of (by kernel_rfl)
theorem agg90 : aggOf Try.prog 90 = some true := by kernel_rfl
theorem siz90 : sizeIf Try.prog 90 = some 3 := by kernel_rfl
theorem inf90 : Inf Try.prog 90 (.agg #[(.string ⟨#[]⟩), (.int .i64 0), (.int .i64 0)]) 3 32 := inf_of (by kernel_rfl)
theorem agg91 : aggOf Try.prog 91 = some false := by kernel_rfl
theorem siz91 : sizeIf Try.prog 91 = some 1 := by kernel_rfl
theorem agg92 : aggOf Try.prog 92 = some false := by kernel_rfl
theorem siz92 : sizeIf Try.prog 92 = some 1 := by kernel_rfl
theorem inf92 : Inf Try.prog 92 .nilFunc 1 8 := inf_of (by kernel_rfl)
theorem agg93 : aggOf Try.prog 93 = some false := by kernel_rfl
theorem siz93 : sizeIf Try.prog 93 = some 1 := by kernel_rfl
theorem inf93 : Inf Try.prog 93 .nilFunc 1 8 := inf_of (by kernel_rfl)
theorem agg94 : aggOf Try.prog 94 = some false := by kernel_rfl
theorem siz94 : sizeIf Try.prog 94 = some 1 := by kernel_rfl
theorem agg95 : aggOf Try.prog 95 = some false := by kernel_rfl
theorem siz95 : sizeIf Try.prog 95 = some 1 := by kernel_rfl
theorem inf95 : Inf Try.prog 95 .nilFunc 1 8 := inf_of (by kernel_rfl)
theorem agg96 : aggOf Try.prog 96 = some false := by kernel_rfl
theorem siz96 : sizeIf Try.prog 96 = some 1 := by kernel_rfl
theorem agg97 : aggOf Try.prog 97 = some false := by kernel_rfl
theorem siz97 : sizeIf Try.prog 97 = some 1 := by kernel_rfl
theorem inf97 : Inf Try.prog 97 .nilFunc 1 8 := inf_of (by kernel_rfl)
theorem agg98 : aggOf Try.prog 98 = some true := by kernel_rfl
theorem siz98 : sizeIf Try.prog 98 = some 6 := by kernel_rfl
theorem inf98 : Inf Try.prog 98 (.agg #[(.slice none 0 0), (.slice none 0 0), (.slice none 0 0), (.int .i64 0), (.int .i64 0), (.int .i64 0)]) 6 96 := inf_of (by kernel_rfl)
theorem agg99 : aggOf Try.prog 99 = some true := by kernel_rfl
theorem siz99 : sizeIf Try.prog 99 = some 17 := by kernel_rfl
theorem inf99 : Inf Try.prog 99 (.agg #[(.slice none 0 0), (.slice none 0 0), (.slice none 0 0), (.slice none 0 0), (.slice none 0 0), (.slice none 0 0), (.int .i64 0), (.int .i64 0), (.int .i64 0), (.int .i64 0), (.int .i64 0), (.slice none 0 0), (.slice none 0 0), (.slice none 0 0), (.int .i64 0), (.int .i64 0), (.int .i64 0)]) 17 280 := inf_of (by kernel_rfl)
theorem agg100 : aggOf Try.prog 100 = some true := by kernel_rfl
theorem siz100 : sizeIf Try.prog 100 = some 17 := by kernel_rfl
theorem inf100 : Inf Try.prog 100 (.agg #[(.slice none 0 0), (.slice none 0 0), (.slice none 0 0), (.slice none 0 0), (.slice none 0 0), (.slice none 0 0), (.int .i64 0), (.int .i64 0), (.int .i64 0), (.int .i64 0), (.int .i64 0), (.slice none 0 0), (.slice none 0 0), (.slice none 0 0), (.int .i64 0), (.int .i64 0), (.int .i64 0)]) 17 280 := inf_of (by kernel_rfl)
theorem agg101 : aggOf Try.prog 101 = some false := by kernel_rfl
theorem siz101 : sizeIf Try.prog 101 = some 1 := by kernel_rfl
theorem agg102 : aggOf Try.prog 102 = some false := by kernel_rfl
theorem siz102 : sizeIf Try.prog 102 = some 1 := by kernel_rfl
theorem inf102 : Inf Try.prog 102 .nilFunc 1 8 := inf_of (by kernel_rfl)
theorem agg103 : aggOf Try.prog 103 = some false := by kernel_rfl
theorem siz103 : sizeIf Try.prog 103 = some 1 := by kernel_rfl
theorem inf103 : Inf Try.prog 103 .nilFunc 1 8 := inf_of (by kernel_rfl)
theorem agg104 : aggOf Try.prog 104 = some false := by kernel_rfl
theorem siz104 : sizeIf Try.prog 104 = some 1 := by kernel_rfl
theorem inf104 : Inf Try.prog 104 .nilFunc 1 8 := inf_of (by kernel_rfl)
theorem agg105 : aggOf Try.prog 105 = some false := by kernel_rfl
theorem siz105 : sizeIf Try.prog 105 = some 1 := by kernel_rfl
theorem inf105 : Inf Try.prog 105 .nilFunc 1 8 := inf_of (by kernel_rfl)
theorem agg106 : aggOf Try.prog 106 = some false := by kernel_rfl
theorem siz106 : sizeIf Try.prog 106 = some 1 := by kernel_rfl
theorem inf106 : Inf Try.prog 106 .nilFunc 1 8 := inf_of (by kernel_rfl)
theorem agg107 : aggOf Try.prog 107 = some false := by kernel_rfl
theorem siz107 : sizeIf Try.prog 107 = some 1 := by kernel_rfl
theorem inf107 : Inf Try.prog 107 .nilFunc 1 8 := inf_of (by kernel_rfl)
theorem agg108 : aggOf Try.prog 108 = some false := by kernel_rfl
theorem siz108 : sizeIf Try.prog 108 = some 1 := by kernel_rfl
theorem inf108 : Inf Try.prog 108 .nilFunc 1 8 := inf_of (by kernel_rfl)
theorem agg109 : aggOf Try.prog 109 = some true := by kernel_rfl
theorem siz109 : sizeIf Try.prog 109 = some 3 := by kernel_rfl
theorem inf109 : Inf Try.prog 109 (.agg #[(.int .i64 0), (.int .i64 0), (.int .i64 0)]) 3 24 := inf_of (by kernel_rfl)
theorem agg110 : aggOf Try.prog 110 = some false := by kernel_rfl
theorem siz110 : sizeIf Try.prog 110 = some 1 := by kernel_rfl
theorem inf110 : Inf Try.prog 110 (.int .u64 0) 1 8 := inf_of (by kernel_rfl)
theorem agg111 : aggOf Try.prog 111 = some false := by kernel_rfl
theorem siz111 : sizeIf Try.prog 111 = some 1 := by kernel_rfl
theorem inf111 : Inf Try.prog 111 .nilFunc 1 8 := inf_of (by kernel_rfl)
theorem agg112 : aggOf Try.prog 112 = some false := by kernel_rfl
theorem siz112 : sizeIf Try.prog 112 = some 1 := by kernel_rfl
theorem inf112 : Inf Try.prog 112 (.slice none 0 0) 1 24 := inf_of (by kernel_rfl)
theorem agg113 : aggOf Try.prog 113 = some false := by kernel_rfl
theorem siz113 : sizeIf Try.prog 113 = some 1 := by kernel_rfl
theorem inf113 : Inf Try.prog 113 .nilFunc 1 8 := inf_of (by kernel_rfl)
theorem agg114 : aggOf Try.prog 114 = some false := by kernel_rfl
theorem siz114 : sizeIf Try.prog 114 = some 1 := by kernel_rfl
theorem inf114 : Inf Try.prog 114 (.pointer none) 1 8 := inf_of (by kernel_rfl)
theorem agg115 : aggOf Try.prog 115 = some false := by kernel_rfl
theorem siz115 : sizeIf Try.prog 115 = some 1 := by kernel_rfl
theorem inf115 : Inf Try.prog 115 .nilFunc 1 8 := inf_of (by kernel_rfl)
theorem agg116 : aggOf Try.prog 116 = some false := by kernel_rfl
theorem siz116 : sizeIf Try.prog 116 = some 1 := by kernel_rfl
theorem inf116 : Inf Try.prog 116 .nilFunc 1 8 := inf_of (by kernel_rfl)
theorem agg117 : aggOf Try.prog 117 = some false := by kernel_rfl
theorem siz117 : sizeIf Try.prog 117 = some 1 := by kernel_rfl
theorem inf117 : Inf Try.prog 117 (.slice none 0 0) 1 24 := inf_of (by kernel_rfl)
theorem agg118 : aggOf Try.prog 118 = some false := by kernel_rfl
theorem siz118 : sizeIf Try.prog 118 = some 1 := by kernel_rfl
theorem inf118 : Inf Try.prog 118 .nilFunc 1 8 := inf_of (by kernel_rfl)
theorem agg119 : aggOf Try.prog 119 = some false := by kernel_rfl
theorem siz119 : sizeIf Try.prog 119 = some 1 := by kernel_rfl
theorem inf119 : Inf Try.prog 119 (.pointer none) 1 8 := inf_of (by kernel_rfl)
theorem agg120 : aggOf Try.prog 120 = some false := by kernel_rfl
theorem siz120 : sizeIf Try.prog 120 = some 1 := by kernel_rfl
theorem inf120 : Inf Try.prog 120 (.pointer none) 1 8 := inf_of (by kernel_rfl)
theorem agg121 : aggOf Try.prog 121 = some false := by kernel_rfl
theorem siz121 : sizeIf Try.prog 121 = some 1 := by kernel_rfl
theorem inf121 : Inf Try.prog 121 .nilFunc 1 8 := inf_of (by kernel_rfl)
theorem agg122 : aggOf Try.prog 122 = some false := by kernel_rfl
theorem siz122 : sizeIf Try.prog 122 = some 1 := by kernel_rfl
theorem inf122 : Inf Try.prog 122 .nilFunc 1 8 := inf_of (by kernel_rfl)
theorem agg123 : aggOf Try.prog 123 = some false := by kernel_rfl
theorem siz123 : sizeIf Try.prog 123 = some 1 := by kernel_rfl
theorem inf123 : Inf Try.prog 123 .nilFunc 1 8 := inf_of (by kernel_rfl)
theorem agg124 : aggOf Try.prog 124 = some false := by kernel_rfl
theorem siz124 : sizeIf Try.prog 124 = some 1 := by kernel_rfl
theorem inf124 : Inf Try.prog 124 (.pointer none) 1 8 := inf_of (by kernel_rfl)
theorem agg125 : aggOf Try.prog 125 = some false := by kernel_rfl
theorem siz125 : sizeIf Try.prog 125 = some 1 := by kernel_rfl
theorem inf125 : Inf Try.prog 125 (.slice none 0 0) 1 24 := inf_of (by kernel_rfl)
theorem agg126 : aggOf Try.prog 126 = some false := by kernel_rfl
theorem siz126 : sizeIf Try.prog 126 = some 1 := by kernel_rfl
theorem inf126 : Inf Try.prog 126 (.slice none 0 0) 1 24 := inf_of (by kernel_rfl)
theorem agg127 : aggOf Try.prog 127 = some false := by kernel_rfl
theorem siz127 : sizeIf Try.prog 127 = some 1 := by kernel_rfl
theorem agg128 : aggOf Try.prog 128 = some false := by kernel_rfl
theorem siz128 : sizeIf Try.prog 128 = some 1 := by kernel_rfl
theorem inf128 : Inf Try.prog 128 .nilFunc 1 8 := inf_of (by kernel_rfl)
theorem agg129 : aggOf Try.prog 129 = some false := by kernel_rfl
theorem siz129 : sizeIf Try.prog 129 = some 1 := by kernel_rfl
theorem inf129 : Inf Try.prog 129 (.pointer none) 1 8 := inf_of (by kernel_rfl)
theorem agg130 : aggOf Try.prog 130 = some false := by kernel_rfl
theorem siz130 : sizeIf Try.prog 130 = some 1 := by kernel_rfl
theorem inf130 : Inf Try.prog 130 .nilFunc 1 8 := inf_of (by kernel_rfl)
theorem agg131 : aggOf Try.prog 131 = some false := by kernel_rfl
theorem siz131 : sizeIf Try.prog 131 = some 1 := by kernel_rfl
theorem inf131 : Inf Try.prog 131 .nilFunc 1 8 := inf_of (by kernel_rfl)
theorem agg132 : aggOf Try.prog 132 = some false := by kernel_rfl
theorem siz132 : sizeIf Try.prog 132 = some 1 := by kernel_rfl
theorem inf132 : Inf Try.prog 132 .nilFunc 1 8 := inf_of (by kernel_rfl)
theorem agg133 : aggOf Try.prog 133 = some false := by kernel_rfl
theorem siz133 : sizeIf Try.prog 133 = some 1 := by kernel_rfl
theorem inf133 : Inf Try.prog 133 .nilFunc 1 8 := inf_of (by kernel_rfl)
theorem agg134 : aggOf Try.prog 134 = some false := by kernel_rfl
theorem siz134 : sizeIf Try.prog 134 = some 1 := by kernel_rfl
theorem inf134 : Inf Try.prog 134 .nilFunc 1 8 := inf_of (by kernel_rfl)
theorem agg135 : aggOf Try.prog 135 = some false := by kernel_rfl
theorem siz135 : sizeIf Try.prog 135 = some 1 := by kernel_rfl
theorem inf135 : Inf Try.prog 135 (.pointer none) 1 8 := inf_of (by kernel_rfl)
theorem agg136 : aggOf Try.prog 136 = some false := by kernel_rfl
theorem siz136 : sizeIf Try.prog 136 = some 1 := by kernel_rfl
theorem agg137 : aggOf Try.prog 137 = some false := by kernel_rfl
theorem siz137 : sizeIf Try.prog 137 = some 1 := by kernel_rfl
theorem inf137 : Inf Try.prog 137 .nilFunc 1 8 := inf_of (by kernel_rfl)
theorem agg138 : aggOf Try.prog 138 = some false := by kernel_rfl
theorem siz138 : sizeIf Try.prog 138 = some 1 := by kernel_rfl
theorem inf138 : Inf Try.prog 138 .nilFunc 1 8 := inf_of (by kernel_rfl)
theorem agg139 : aggOf Try.prog 139 = some false := by kernel_rfl
theorem siz139 : sizeIf Try.prog 139 = some 1 := by kernel_rfl
theorem inf139 : Inf Try.prog 139 .nilFunc 1 8 := inf_of (by kernel_rfl)
theorem agg140 : aggOf Try.prog 140 = some true := by kernel_rfl
theorem siz140 : sizeIf Try.prog 140 = some 2 := by kernel_rfl
theorem inf140 : Inf Try.prog 140 (.agg #[(.string ⟨#[]⟩), (.int .i64 0)]) 2 24 := inf_of (by kernel_rfl)
theorem agg141 : aggOf Try.prog 141 = some true := by kernel_rfl
theorem siz141 : sizeIf Try.prog 141 = some 2 := by kernel_rfl
theorem inf141 : Inf Try.prog 141 (.agg #[(.string ⟨#[]⟩), (.int .i64 0)]) 2 24 := inf_of (by kernel_rfl)
theorem agg142 : aggOf Try.prog 142 = some false := by kernel_rfl
theorem siz142 : sizeIf Try.prog 142 = some 1 := by kernel_rfl
theorem inf142 : Inf Try.prog 142 .nilFunc 1 8 := inf_of (by kernel_rfl)
theorem agg143 : aggOf Try.prog 143 = some false := by kernel_rfl
theorem siz143 : sizeIf Try.prog 143 = some 1 := by kernel_rfl
theorem inf143 : Inf Try.prog 143 .nilFunc 1 8 := inf_of (by kernel_rfl)
theorem agg144 : aggOf Try.prog 144 = some false := by kernel_rfl
theorem siz144 : sizeIf Try.prog 144 = some 1 := by kernel_rfl
theorem inf144 : Inf Try.prog 144 .nilFunc 1 8 := inf_of (by kernel_rfl)
theorem agg145 : aggOf Try.prog 145 = some false := by kernel_rfl
theorem siz145 : sizeIf Try.prog 145 = some 1 := by kernel_rfl
theorem inf145 : Inf Try.prog 145 .nilFunc 1 8 := inf_of (by kernel_rfl)
theorem agg146 : aggOf Try.prog 146 = some false := by kernel_rfl
theorem siz146 : sizeIf Try.prog 146 = some 1 := by kernel_rfl
theorem inf146 : Inf Try.prog 146 .nilFunc 1 8 := inf_of (by kernel_rfl)
theorem agg147 : aggOf Try.prog 147 = some false := by kernel_rfl
theorem siz147 : sizeIf Try.prog 147 = some 1 := by kernel_rfl
theorem inf147 : Inf Try.prog 147 .nilFunc 1 8 := inf_of (by kernel_rfl)
theorem agg148 : aggOf Try.prog 148 = some false := by kernel_rfl
theorem siz148 : sizeIf Try.prog 148 = some 1 := by kernel_rfl
theorem inf148 : Inf Try.prog 148 .nilFunc 1 8 := inf_of (by kernel_rfl)
theorem agg149 : aggOf Try.prog 149 = some false := by kernel_rfl
theorem siz149 : sizeIf Try.prog 149 = some 1 := by kernel_rfl
theorem agg150 : aggOf Try.prog 150 = some false := by kernel_rfl
theorem siz150 : sizeIf Try.prog 150 = some 1 := by kernel_rfl
theorem inf150 : Inf Try.prog 150 .nilFunc 1 8 := inf_of (by kernel_rfl)
theorem agg151 : aggOf Try.prog 151 = some false := by kernel_rfl
theorem siz151 : sizeIf Try.prog 151 = some 1 := by kernel_rfl
theorem inf151 : Inf Try.prog 151 .nilFunc 1 8 := inf_of (by kernel_rfl)
theorem agg152 : aggOf Try.prog 152 = some false := by kernel_rfl
theorem siz152 : sizeIf Try.prog 152 = some 1 := by kernel_rfl
theorem agg153 : aggOf Try.prog 153 = some false := by kernel_rfl
theorem siz153 : sizeIf Try.prog 153 = some 1 := by kernel_rfl
theorem inf153 : Inf Try.prog 153 .nilFunc 1 8 := inf_of (by kernel_rfl)
theorem agg154 : aggOf Try.prog 154 = some false := by kernel_rfl
theorem siz154 : sizeIf Try.prog 154 = some 1 := by kernel_rfl
theorem agg155 : aggOf Try.prog 155 = some false := by kernel_rfl
theorem siz155 : sizeIf Try.prog 155 = some 1 := by kernel_rfl
theorem inf155 : Inf Try.prog 155 .nilFunc 1 8 := inf_of (by kernel_rfl)
theorem agg156 : aggOf Try.prog 156 = some false := by kernel_rfl
theorem siz156 : sizeIf Try.prog 156 = some 1 := by kernel_rfl
theorem inf156 : Inf Try.prog 156 .nilFunc 1 8 := inf_of (by kernel_rfl)
theorem agg157 : aggOf Try.prog 157 = some false := by kernel_rfl
theorem siz157 : sizeIf Try.prog 157 = some 1 := by kernel_rfl
theorem agg158 : aggOf Try.prog 158 = some false := by kernel_rfl
theorem siz158 : sizeIf Try.prog 158 = some 1 := by kernel_rfl
theorem inf158 : Inf Try.prog 158 .nilFunc 1 8 := inf_of (by kernel_rfl)
theorem agg159 : aggOf Try.prog 159 = some false := by kernel_rfl
theorem siz159 : sizeIf Try.prog 159 = some 1 := by kernel_rfl
theorem inf159 : Inf Try.prog 159 .nilFunc 1 8 := inf_of (by kernel_rfl)
theorem agg160 : aggOf Try.prog 160 = some false := by kernel_rfl
theorem siz160 : sizeIf Try.prog 160 = some 1 := by kernel_rfl
theorem inf160 : Inf Try.prog 160 .nilFunc 1 8 := inf_of (by kernel_rfl)
theorem agg161 : aggOf Try.prog 161 = some true := by kernel_rfl
theorem siz161 : sizeIf Try.prog 161 = some 1 := by kernel_rfl
theorem inf161 : Inf Try.prog 161 (.agg #[(.slice none 0 0)]) 1 24 := inf_of (by kernel_rfl)
theorem agg162 : aggOf Try.prog 162 = some true := by kernel_rfl
theorem siz162 : sizeIf Try.prog 162 = some 1 := by kernel_rfl
theorem inf162 : Inf Try.prog 162 (.agg #[(.slice none 0 0)]) 1 24 := inf_of (by kernel_rfl)
theorem agg163 : aggOf Try.prog 163 = some false := by kernel_rfl
theorem siz163 : sizeIf Try.prog 163 = some 1 := by kernel_rfl
theorem inf163 : Inf Try.prog 163 .nilFunc 1 8 := inf_of (by kernel_rfl)
theorem agg164 : aggOf Try.prog 164 = some false := by kernel_rfl
theorem siz164 : sizeIf Try.prog 164 = some 1 := by kernel_rfl
theorem inf164 : Inf Try.prog 164 (.int .u64 0) 1 8 := inf_of (by kernel_rfl)
theorem agg165 : aggOf Try.prog 165 = some false := by kernel_rfl
theorem siz165 : sizeIf Try.prog 165 = some 1 := by kernel_rfl
theorem inf165 : Inf Try.prog 165 .nilFunc 1 8 := inf_of (by kernel_rfl)
theorem agg166 : aggOf Try.prog 166 = some false := by kernel_rfl
theorem siz166 : sizeIf Try.prog 166 = some 1 := by kernel_rfl
theorem inf166 : Inf Try.prog 166 .nilFunc 1 8 := inf_of (by kernel_rfl)
theorem agg167 : aggOf Try.prog 167 = some false := by kernel_rfl
theorem siz167 : sizeIf Try.prog 167 = some 1 := by kernel_rfl
theorem inf167 : Inf Try.prog 167 .nilFunc 1 8 := inf_of (by kernel_rfl)
theorem agg168 : aggOf Try.prog 168 = some false := by kernel_rfl
theorem siz168 : sizeIf Try.prog 168 = some 1 := by kernel_rfl
theorem inf168 : Inf Try.prog 168 .nilFunc 1 8 := inf_of (by kernel_rfl)
theorem agg169 : aggOf Try.prog 169 = some false := by kernel_rfl
theorem siz169 : sizeIf Try.prog 169 = some 1 := by kernel_rfl
theorem inf169 : Inf Try.prog 169 .nilFunc 1 8 := inf_of (by kernel_rfl)
theorem agg170 : aggOf Try.prog 170 = some false := by kernel_rfl
theorem siz170 : sizeIf Try.prog 170 = some 1 := by kernel_rfl
theorem inf170 : Inf Try.prog 170 .nilFunc 1 8 := inf_of (by kernel_rfl)
theorem agg171 : aggOf Try.prog 171 = some false := by kernel_rfl
theorem siz171 : sizeIf Try.prog 171 = some 1 := by kernel_rfl
theorem agg172 : aggOf Try.prog 172 = some false := by kernel_rfl
theorem siz172 : sizeIf Try.prog 172 = some 1 := by kernel_rfl
theorem inf172 : Inf Try.prog 172 .nilFunc 1 8 := inf_of (by kernel_rfl)
theorem agg173 : aggOf Try.prog 173 = some false := by kernel_rfl
theorem siz173 : sizeIf Try.prog 173 = some 1 := by kernel_rfl
theorem agg174 : aggOf Try.prog 174 = some false := by kernel_rfl
theorem siz174 : sizeIf Try.prog 174 = some 1 := by kernel_rfl
theorem inf174 : Inf Try.prog 174 .nilFunc 1 8 := inf_of (by kernel_rfl)
theorem agg175 : aggOf Try.prog 175 = some false := by kernel_rfl
theorem siz175 : sizeIf Try.prog 175 = some 1 := by kernel_rfl
theorem inf175 : Inf Try.prog 175 .nilFunc 1 8 := inf_of (by kernel_rfl)
theorem agg176 : aggOf Try.prog 176 = some false := by kernel_rfl
theorem siz176 : sizeIf Try.prog 176 = some 1 := by kernel_rfl
theorem agg177 : aggOf Try.prog 177 = some false := by kernel_rfl
theorem siz177 : sizeIf Try.prog 177 = some 1 := by kernel_rfl
theorem inf177 : Inf Try.prog 177 .nilFunc 1 8 := inf_of (by kernel_rfl)
theorem agg178 : aggOf Try.prog 178 = some false := by kernel_rfl
theorem siz178 : sizeIf Try.prog 178 = some 1 := by kernel_rfl
theorem inf178 : Inf Try.prog 178 .nilFunc 1 8 := inf_of (by kernel_rfl)
theorem agg179 : aggOf Try.prog 179 = some false := by kernel_rfl
theorem siz179 : sizeIf Try.prog 179 = some 1 := by kernel_rfl
theorem inf179 : Inf Try.prog 179 .nilFunc 1 8 := inf_of (by kernel_rfl)
theorem agg180 : aggOf Try.prog 180 = some false := by kernel_rfl
theorem siz180 : sizeIf Try.prog 180 = some 1 := by kernel_rfl
theorem inf180 : Inf Try.prog 180 .nilFunc 1 8 := inf_of (by kernel_rfl)
theorem agg181 : aggOf Try.prog 181 = some false := by kernel_rfl
theorem siz181 : sizeIf Try.prog 181 = some 1 := by kernel_rfl
theorem inf181 : Inf Try.prog 181 .nilFunc 1 8 := inf_of (by kernel_rfl)
theorem agg182 : aggOf Try.prog 182 = some false := by kernel_rfl
theorem siz182 : sizeIf Try.prog 182 = some 1 := by kernel_rfl
theorem inf182 : Inf Try.prog 182 .nilFunc 1 8 := inf_of (by kernel_rfl)
theorem agg183 : aggOf Try.prog 183 = some false := by kernel_rfl
theorem siz183 : sizeIf Try.prog 183 = some 1 := by kernel_rfl
theorem inf183 : Inf Try.prog 183 .nilFunc 1 8 := inf_of (by kernel_rfl)
theorem agg184 : aggOf Try.prog 184 = some false := by kernel_rfl
theorem siz184 : sizeIf Try.prog 184 = some 1 := by kernel_rfl
theorem inf184 : Inf Try.prog 184 .nilFunc 1 8 := inf_of (by kernel_rfl)
theorem agg185 : aggOf Try.prog 185 = some false := by kernel_rfl
theorem siz185 : sizeIf Try.prog 185 = some 1 := by kernel_rfl
theorem agg186 : aggOf Try.prog 186 = some false := by kernel_rfl
theorem siz186 : sizeIf Try.prog 186 = some 1 := by kernel_rfl
theorem inf186 : Inf Try.prog 186 .nilFunc 1 8 := inf_of (by kernel_rfl)
theorem agg187 : aggOf Try.prog 187 = some false := by kernel_rfl
theorem siz187 : sizeIf Try.prog 187 = some 1 := by kernel_rfl
theorem agg188 : aggOf Try.prog 188 = some false := by kernel_rfl
theorem siz188 : sizeIf Try.prog 188 = some 1 := by kernel_rfl
theorem inf188 : Inf Try.prog 188 .nilFunc 1 8 := inf_of (by kernel_rfl)
theorem agg189 : aggOf Try.prog 189 = some false := by kernel_rfl
theorem siz189 : sizeIf Try.prog 189 = some 1 := by kernel_rfl
theorem agg190 : aggOf Try.prog 190 = some false := by kernel_rfl
theorem siz190 : sizeIf Try.prog 190 = some 1 := by kernel_rfl
theorem inf190 : Inf Try.prog 190 .nilFunc 1 8 := inf_of (by kernel_rfl)
theorem agg191 : aggOf Try.prog 191 = some false := by kernel_rfl
theorem siz191 : sizeIf Try.prog 191 = some 1 := by kernel_rfl
theorem inf191 : Inf Try.prog 191 .nilFunc 1 8 := inf_of (by kernel_rfl)
theorem agg192 : aggOf Try.prog 192 = some false := by kernel_rfl
theorem siz192 : sizeIf Try.prog 192 = some 1 := by kernel_rfl
theorem agg193 : aggOf Try.prog 193 = some false := by kernel_rfl
theorem siz193 : sizeIf Try.prog 193 = some 1 := by kernel_rfl
theorem inf193 : Inf Try.prog 193 .nilFunc 1 8 := inf_of (by kernel_rfl)
theorem agg194 : aggOf Try.prog 194 = some true := by kernel_rfl
theorem siz194 : sizeIf Try.prog 194 = some 4 := by kernel_rfl
theorem inf194 : Inf Try.prog 194 (.agg #[(.int .i64 0), (.int .i64 0), (.int .i64 0), (.int .i64 0)]) 4 32 := inf_of (by kernel_rfl)
theorem agg195 : aggOf Try.prog 195 = some false := by kernel_rfl
theorem siz195 : sizeIf Try.prog 195 = some 1 := by kernel_rfl
theorem agg196 : aggOf Try.prog 196 = some false := by kernel_rfl
theorem siz196 : sizeIf Try.prog 196 = some 1 := by kernel_rfl
theorem inf196 : Inf Try.prog 196 .nilFunc 1 8 := inf_of (by kernel_rfl)
theorem agg197 : aggOf Try.prog 197 = some false := by kernel_rfl
theorem siz197 : sizeIf Try.prog 197 = some 1 := by kernel_rfl
theorem inf197 : Inf Try.prog 197 .nilFunc 1 8 := inf_of (by kernel_rfl)
theorem agg198 : aggOf Try.prog 198 = some false := by kernel_rfl
theorem siz198 : sizeIf Try.prog 198 = some 1 := by kernel_rfl
theorem inf198 : Inf Try.prog 198 (.map none) 1 8 := inf_of (by kernel_rfl)
theorem agg199 : aggOf Try.prog 199 = some false := by kernel_rfl
theorem siz199 : sizeIf Try.prog 199 = some 1 := by kernel_rfl
theorem agg200 : aggOf Try.prog 200 = some false := by kernel_rfl
theorem siz200 : sizeIf Try.prog 200 = some 1 := by kernel_rfl
theorem inf200 : Inf Try.prog 200 (.map none) 1 8 := inf_of (by kernel_rfl)
theorem agg201 : aggOf Try.prog 201 = some true := by kernel_rfl
theorem siz201 : sizeIf Try.prog 201 = some 2 := by kernel_rfl
theorem inf201 : Inf Try.prog 201 (.agg #[(.int .i64 0), (.int .i64 0)]) 2 16 := inf_of (by kernel_rfl)
theorem agg202 : aggOf Try.prog 202 = some false := by kernel_rfl
theorem siz202 : sizeIf Try.prog 202 = some 1 := by kernel_rfl
theorem inf202 : Inf Try.prog 202 .nilFunc 1 8 := inf_of (by kernel_rfl)
theorem agg203 : aggOf Try.prog 203 = some false := by kernel_rfl
theorem siz203 : sizeIf Try.prog 203 = some 1 := by kernel_rfl
theorem inf203 : Inf Try.prog 203 .nilFunc 1 8 := inf_of (by kernel_rfl)
theorem agg204 : aggOf Try.prog 204 = some false := by kernel_rfl
theorem siz204 : sizeIf Try.prog 204 = some 1 := by kernel_rfl
theorem inf204 : Inf Try.prog 204 .nilFunc 1 8 := inf_of (by kernel_rfl)
theorem agg205 : aggOf Try.prog 205 = some false := by kernel_rfl
theorem siz205 : sizeIf Try.prog 205 = some 1 := by kernel_rfl
theorem agg206 : aggOf Try.prog 206 = some false := by kernel_rfl
theorem siz206 : sizeIf Try.prog 206 = some 1 := by kernel_rfl
theorem inf206 : Inf Try.prog 206 .nilFunc 1 8 := inf_of (by kernel_rfl)
theorem agg207 : aggOf Try.prog 207 = some false := by kernel_rfl
theorem siz207 : sizeIf Try.prog 207 = some 1 := by kernel_rfl
theorem inf207 : Inf Try.prog 207 .nilFunc 1 8 := inf_of (by kernel_rfl)
theorem agg208 : aggOf Try.prog 208 = some false := by kernel_rfl
theorem siz208 : sizeIf Try.prog 208 = some 1 := by kernel_rfl
theorem inf208 : Inf Try.prog 208 .nilFunc 1 8 := inf_of (by kernel_rfl)
theorem agg209 : aggOf Try.prog 209 = some false := by kernel_rfl
theorem siz209 : sizeIf Try.prog 209 = some 1 := by kernel_rfl
theorem inf209 : Inf Try.prog 209 .nilFunc 1 8 := inf_of (by kernel_rfl)
theorem agg210 : aggOf Try.prog 210 = some false := by kernel_rfl
theorem siz210 : sizeIf Try.prog 210 = some 1 := by kernel_rfl
theorem agg211 : aggOf Try.prog 211 = some false := by kernel_rfl
theorem siz211 : sizeIf Try.prog 211 = some 1 := by kernel_rfl
theorem inf211 : Inf Try.prog 211 .nilFunc 1 8 := inf_of (by kernel_rfl)
theorem agg212 : aggOf Try.prog 212 = some false := by kernel_rfl
theorem siz212 : sizeIf Try.prog 212 = some 1 := by kernel_rfl
theorem inf212 : Inf Try.prog 212 .nilFunc 1 8 := inf_of (by kernel_rfl)
theorem agg213 : aggOf Try.prog 213 = some false := by kernel_rfl
theorem siz213 : sizeIf Try.prog 213 = some 1 := by kernel_rfl
theorem inf213 : Inf Try.prog 213 .nilFunc 1 8 := inf_of (by kernel_rfl)
theorem agg214 : aggOf Try.prog 214 = some false := by kernel_rfl
theorem siz214 : sizeIf Try.prog 214 = some 1 := by kernel_rfl
theorem inf214 : Inf Try.prog 214 .nilFunc 1 8 := inf_of (by kernel_rfl)
theorem agg215 : aggOf Try.prog 215 = some false := by kernel_rfl
theorem siz215 : sizeIf Try.prog 215 = some 1 := by kernel_rfl
theorem inf215 : Inf Try.prog 215 .nilFunc 1 8 := inf_of (by kernel_rfl)
theorem agg216 : aggOf Try.prog 216 = some false := by kernel_rfl
theorem siz216 : sizeIf Try.prog 216 = some 1 := by kernel_rfl
theorem inf216 : Inf Try.prog 216 .nilFunc 1 8 := inf_of (by kernel_rfl)
theorem agg217 : aggOf Try.prog 217 = some false := by kernel_rfl
theorem siz217 : sizeIf Try.prog 217 = some 1 := by kernel_rfl
theorem inf217 : Inf Try.prog 217 .nilFunc 1 8 := inf_of (by kernel_rfl)
theorem agg218 : aggOf Try.prog 218 = some false := by kernel_rfl
theorem siz218 : sizeIf Try.prog 218 = some 1 := by kernel_rfl
theorem inf218 : Inf Try.prog 218 .nilFunc 1 8 := inf_of (by kernel_rfl)
theorem agg219 : aggOf Try.prog 219 = some true := by kernel_rfl
theorem siz219 : sizeIf Try.prog 219 = some 4 := by kernel_rfl
theorem inf219 : Inf Try.prog 219 (.agg #[(.pointer none), (.pointer none), (.pointer none), (.string ⟨#[]⟩)]) 4 40 := inf_of (by kernel_rfl)
theorem agg220 : aggOf Try.prog 220 = some true := by kernel_rfl
theorem siz220 : sizeIf Try.prog 220 = some 4 := by kernel_rfl
theorem inf220 : Inf Try.prog 220 (.agg #[(.pointer none), (.pointer none), (.pointer none), (.string ⟨#[]⟩)]) 4 40 := inf_of (by kernel_rfl)
theorem agg221 : aggOf Try.prog 221 = some true := by kernel_rfl
theorem siz221 : sizeIf Try.prog 221 = some 0 := by kernel_rfl
theorem inf221 : Inf Try.prog 221 (.agg #[]) 0 0 := inf_of (by kernel_rfl)
theorem agg222 : aggOf Try.prog 222 = some true := by kernel_rfl
theorem siz222 : sizeIf Try.prog 222 = some 0 := by kernel_rfl
theorem inf222 : Inf Try.prog 222 (.agg #[]) 0 0 := inf_of (by kernel_rfl)
theorem agg223 : aggOf Try.prog 223 = some true := by kernel_rfl
theorem siz223 : sizeIf Try.prog 223 = some 0 := by kernel_rfl
theorem inf223 : Inf Try.prog 223 (.agg #[]) 0 0 := inf_of (by kernel_rfl)
theorem agg224 : aggOf Try.prog 224 = some false := by kernel_rfl
theorem siz224 : sizeIf Try.prog 224 = some 1 := by kernel_rfl
theorem inf224 : Inf Try.prog 224 (.int .u32 0) 1 4 := inf_of (by kernel_rfl)
theorem agg225 : aggOf Try.prog 225 = some false := by kernel_rfl
theorem siz225 : sizeIf Try.prog 225 = some 1 := by kernel_rfl
theorem inf225 : Inf Try.prog 225 (.int .u8 0) 1 1 := inf_of (by kernel_rfl)
theorem agg226 : aggOf Try.prog 226 = some false := by kernel_rfl
theorem siz226 : sizeIf Try.prog 226 = some 1 := by kernel_rfl
theorem inf226 : Inf Try.prog 226 (.int .u8 0) 1 1 := inf_of (by kernel_rfl)
theorem agg227 : aggOf Try.prog 227 = some false := by kernel_rfl
theorem siz227 : sizeIf Try.prog 227 = some 1 := by kernel_rfl
theorem inf227 : Inf Try.prog 227 .nilFunc 1 8 := inf_of (by kernel_rfl)
theorem agg228 : aggOf Try.prog 228 = some false := by kernel_rfl
theorem siz228 : sizeIf Try.prog 228 = some 1 := by kernel_rfl
theorem inf228 : Inf Try.prog 228 (.pointer none) 1 8 := inf_of (by kernel_rfl)
theorem agg229 : aggOf Try.prog 229 = some false := by kernel_rfl
theorem siz229 : sizeIf Try.prog 229 = some 1 := by kernel_rfl
theorem inf229 : Inf Try.prog 229 (.int .i32 0) 1 4 := inf_of (by kernel_rfl)
theorem agg230 : aggOf Try.prog 230 = some false := by kernel_rfl
theorem siz230 : sizeIf Try.prog 230 = some 1 := by kernel_rfl
theorem inf230 : Inf Try.prog 230 (.int .i32 0) 1 4 := inf_of (by kernel_rfl)
theorem agg231 : aggOf Try.prog 231 = some true := by kernel_rfl
theorem siz231 : sizeIf Try.prog 231 = some 11 := by kernel_rfl
theorem inf231 : Inf Try.prog 231 (.agg #[(.int .u64 0), (.int .u64 0), (.int .u32 0), (.int .u8 0), (.int .u8 0), (.int .u8 0), (.int .u8 0), .nilFunc, (.pointer none), (.int .i32 0), (.int .i32 0)]) 11 48 := inf_of (by kernel_rfl)
theorem agg232 : aggOf Try.prog 232 = some true := by kernel_rfl
theorem siz232 : sizeIf Try.prog 232 = some 11 := by kernel_rfl
theorem inf232 : Inf Try.prog 232 (.agg #[(.int .u64 0), (.int .u64 0), (.int .u32 0), (.int .u8 0), (.int .u8 0), (.int .u8 0), (.int .u8 0), .nilFunc, (.pointer none), (.int .i32 0), (.int .i32 0)]) 11 48 := inf_of (by kernel_rfl)
theorem agg233 : aggOf Try.prog 233 = some false := by kernel_rfl
theorem siz233 : sizeIf Try.prog 233 = some 1 := by kernel_rfl
theorem inf233 : Inf Try.prog 233 (.pointer none) 1 8 := inf_of (by kernel_rfl)
section
variable {fn : Func} {R : Ending → World → Prop} {n : Nat} {w : World} {k : List It} {env : Env} {L l : List Oper} {C : World → Prop} {Q : Act → Prop}
theorem sA (st : List Nat) {k' : List It} {e e' : Exit} {env' : Env} (h : Go.Wk.stepF tab n st 400 k e env = some (k', e', env')) (hk : H Try.prog fn R n k' e' env' w) : H Try.prog fn R n k e env w := stepF_ok tabOk st h hk
theorem qA {l' : List Oper} {env' : Env} (h : stepQF tab n L 400 l env = some (l', env')) (hk : HQ Try.prog C n Q L l' env') : HQ Try.prog C n Q L l env := stepQF_ok tabOk h hk
theorem sB (st : List Nat) {k' : List It} {e e' : Exit} {env' : Env} (h : Go.Wk.stepF tab n st 16 k e env = some (k', e', env')) (hk : H Try.prog fn R n k' e' env' w) : H Try.prog fn R n k e env w := stepF_ok tabOk st h hk
theorem qB {l' : List Oper} {env' : Env} (h : stepQF tab n L 16 l env = some (l', env')) (hk : HQ Try.prog C n Q L l' env') : HQ Try.prog C n Q L l env := stepQF_ok tabOk h hk
theorem sC (st : List Nat) {k' : List It} {e e' : Exit} {env' : Env} (h : Go.Wk.stepF tab n st 3 k e env = some (k', e', env')) (hk : H Try.prog fn R n k' e' env' w) : H Try.prog fn R n k e env w := stepF_ok tabOk st h hk
theorem qC {l' : List Oper} {env' : Env} (h : stepQF tab n L 3 l env = some (l', env')) (hk : HQ Try.prog C n Q L l' env') : HQ Try.prog C n Q L l env := stepQF_ok tabOk h hk
theorem sD (st : List Nat) {k' : List It} {e e' : Exit} {env' : Env} (h : Go.Wk.stepF tab n st 0 k e env = some (k', e', env')) (hk : H Try.prog fn R n k' e' env' w) : H Try.prog fn R n k e env w := stepF_ok tabOk st h hk
theorem qD {l' : List Oper} {env' : Env} (h : stepQF tab n L 0 l env = some (l', env')) (hk : HQ Try.prog C n Q L l' env') : HQ Try.prog C n Q L l env := stepQF_ok tabOk h hk
theorem mA {f : Nat} {dn : List Nat} {i : Nat} {is : List Nat} {f' : Nat} {dn' : List Nat} {env' : Env} (h : runN tab n L 400 f dn env = (i :: is, f', dn', env'))
    (hs : Region.noSelect L.toArray = true) (hf : freeAll L dn (i :: is) = true) (hk : H Try.prog fn R n (.inv (anyS Try.prog C (semK Try.prog fn R k) L f' dn') :: k) .normal env' w) : H Try.prog fn R n (.inv (anyS Try.prog C (semK Try.prog fn R k) L f dn) :: k) .normal env w := mix_run 400 tabOk h hs hf hk
end

end Go.Wk.Ytdelgnflcfhhkaa
