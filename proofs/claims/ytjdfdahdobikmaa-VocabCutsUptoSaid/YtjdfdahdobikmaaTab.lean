import Derived.Test.YtjdfdahdobikmaaProg
import Derived.Test.YtjdfdahdobikmaaOp
import Derived.KernelRfl
set_option linter.unusedVariables false
namespace Go.Wk.Ytjdfdahdobikmaa
open Go Go.Wk Go.Proofs
/-- the types of this seat's program, as far as straight code asks of them -/
def tab : Tab := [
  (2, .int .i64, 1),
  (3, .int .i64, 1),
  (4, .bool, 1),
  (5, .int .u8, 1),
  (6, .int .u8, 1),
  (7, .struct [(0, 1, false), (1, 1, false), (2, 1, false), (3, 1, false)], 4),
  (8, .struct [(0, 1, false), (1, 1, false), (2, 1, false), (3, 1, false)], 4),
  (9, .str, 1),
  (10, .str, 1),
  (11, .str, 1),
  (12, .int .u64, 1),
  (13, .struct [(0, 1, false), (1, 1, false)], 2),
  (14, .struct [(0, 1, false), (1, 1, false)], 2),
  (15, .ptr 92, 1),
  (16, .ptr 95, 1),
  (17, .ptr 104, 1),
  (18, .struct [(0, 1, false)], 1),
  (19, .struct [(0, 1, false)], 1),
  (21, .int .i32, 1),
  (22, .slice 9 1, 1),
  (23, .slice 51 3, 1),
  (24, .struct [(0, 1, false), (1, 1, false)], 2),
  (25, .struct [(0, 1, false), (1, 1, false)], 2),
  (26, .slice 58 3, 1),
  (27, .struct [(0, 1, false), (1, 1, false)], 2),
  (28, .struct [(0, 1, false), (1, 1, false)], 2),
  (30, .int .i64, 1),
  (38, .slice 3 1, 1),
  (50, .struct [(0, 1, false), (1, 1, false), (2, 1, false)], 3),
  (51, .struct [(0, 1, false), (1, 1, false), (2, 1, false)], 3),
  (53, .slice 38 1, 1),
  (58, .struct [(0, 1, false), (1, 1, false), (2, 1, false)], 3),
  (59, .map 9 3, 1),
  (61, .map 62 3, 1),
  (62, .arr 2 3 1 false, 2),
  (68, .ptr 71, 1),
  (69, .slice 5 1, 1),
  (70, .struct [(0, 1, false), (1, 1, false)], 2),
  (71, .struct [(0, 1, false), (1, 1, false)], 2),
  (82, .slice 4 1, 1),
  (86, .ptr 5, 1),
  (87, .ptr 3, 1),
  (91, .struct [(0, 1, false), (1, 1, false), (2, 1, false), (3, 1, false)], 4),
  (92, .struct [(0, 1, false), (1, 1, false), (2, 1, false), (3, 1, false)], 4),
  (93, .arr 0 16 1 false, 0),
  (94, .struct [(0, 0, true)], 0),
  (95, .struct [(0, 0, true)], 0),
  (97, .int .u32, 1),
  (98, .int .u8, 1),
  (99, .int .u8, 1),
  (101, .int .i32, 1),
  (102, .int .i32, 1),
  (103, .struct [(0, 1, false), (1, 1, false), (2, 1, false), (3, 1, false), (4, 1, false), (5, 1, false), (6, 1, false), (7, 1, false), (8, 1, false), (9, 1, false), (10, 1, false)], 11),
  (104, .struct [(0, 1, false), (1, 1, false), (2, 1, false), (3, 1, false), (4, 1, false), (5, 1, false), (6, 1, false), (7, 1, false), (8, 1, false), (9, 1, false), (10, 1, false)], 11)]
theorem tabOk : TabOk Try.prog tab := tabOk_of (by kernel_rfl)
theorem agg0 : aggOf Try.prog 0 = some false := by kernel_rfl
theorem siz0 : sizeIf Try.prog 0 = some 1 := by kernel_rfl
theorem agg1 : aggOf Try.prog 1 = some false := by kernel_rfl
theorem siz1 : sizeIf Try.prog 1 = some 1 := by kernel_rfl
theorem inf1 : Inf Try.prog 1 .nilFunc 1 8 := inf_of (by kernel_rfl)
theorem agg2 : aggOf Try.prog 2 = some false := by kernel_rfl
theorem siz2 : sizeIf Try.prog 2 = some 1 := by kernel_rfl
theorem inf2 : Inf Try.prog 2 (.int .i64 0) 1 8 := inf_of (by kernel_rfl)
theorem agg3 : aggOf Try.prog 3 = some false := by kernel_rfl
theorem siz3 : sizeIf Try.prog 3 = some 1 := by kernel_rfl
theorem inf3 : Inf Try.prog 3 (.int .i64 0) 1 8 := inf_of (by kernel_rfl)
theorem agg4 : aggOf Try.prog 4 = some false := by kernel_rfl
theorem siz4 : sizeIf Try.prog 4 = some 1 := by kernel_rfl
theorem inf4 : Inf Try.prog 4 (.bool false) 1 1 := inf_of (by kernel_rfl)
theorem agg5 : aggOf Try.prog 5 = some false := by kernel_rfl
theorem siz5 : sizeIf Try.prog 5 = some 1 := by kernel_rfl
theorem inf5 : Inf Try.prog 5 (.int .u8 0) 1 1 := inf_of (by kernel_rfl)
theorem agg6 : aggOf Try.prog 6 = some false := by kernel_rfl
theorem siz6 : sizeIf Try.prog 6 = some 1 := by kernel_rfl
theorem inf6 : Inf Try.prog 6 (.int .u8 0) 1 1 := inf_of (by kernel_rfl)
theorem agg7 : aggOf Try.prog 7 = some true := by kernel_rfl
theorem siz7 : sizeIf Try.prog 7 = some 4 := by kernel_rfl
theorem inf7 : Inf Try.prog 7 (.agg #[(.int .i64 0), (.int .i64 0), (.bool false), (.int .u8 0)]) 4 24 := inf_of (by kernel_rfl)
theorem agg8 : aggOf Try.prog 8 = some true := by kernel_rfl
theorem siz8 : sizeIf Try.prog 8 = some 4 := by kernel_rfl
theorem inf8 : Inf Try.prog 8 (.agg #[(.int .i64 0), (.int .i64 0), (.bool false), (.int .u8 0)]) 4 24 := inf_of (by kernel_rfl)
theorem agg9 : aggOf Try.prog 9 = some false := by kernel_rfl
theorem siz9 : sizeIf Try.prog 9 = some 1 := by kernel_rfl
theorem inf9 : Inf Try.prog 9 (.string ⟨#[]⟩) 1 16 := inf_of (by kernel_rfl)
theorem agg10 : aggOf Try.prog 10 = some false := by kernel_rfl
theorem siz10 : sizeIf Try.prog 10 = some 1 := by kernel_rfl
theorem inf10 : Inf Try.prog 10 (.string ⟨#[]⟩) 1 16 := inf_of (by kernel_rfl)
theorem agg11 : aggOf Try.prog 11 = some false := by kernel_rfl
theorem siz11 : sizeIf Try.prog 11 = some 1 := by kernel_rfl
theorem inf11 : Inf Try.prog 11 (.string ⟨#[]⟩) 1 16 := inf_of (by kernel_rfl)
theorem agg12 : aggOf Try.prog 12 = some false := by kernel_rfl
theorem siz12 : sizeIf Try.prog 12 = some 1 := by kernel_rfl
theorem inf12 : Inf Try.prog 12 (.int .u64 0) 1 8 := inf_of (by kernel_rfl)
theorem agg13 : aggOf Try.prog 13 = some true := by kernel_rfl
theorem siz13 : sizeIf Try.prog 13 = some 2 := by kernel_rfl
theorem inf13 : Inf Try.prog 13 (.agg #[(.string ⟨#[]⟩), (.int .u64 0)]) 2 24 := inf_of (by kernel_rfl)
theorem agg14 : aggOf Try.prog 14 = some true := by kernel_rfl
theorem siz14 : sizeIf Try.prog 14 = some 2 := by kernel_rfl
theorem inf14 : Inf Try.prog 14 (.agg #[(.string ⟨#[]⟩), (.int .u64 0)]) 2 24 := inf_of (by kernel_rfl)
theorem agg15 : aggOf Try.prog 15 = some false := by kernel_rfl
theorem siz15 : sizeIf Try.prog 15 = some 1 := by kernel_rfl
theorem inf15 : Inf Try.prog 15 (.pointer none) 1 8 := inf_of (by kernel_rfl)
theorem agg16 : aggOf Try.prog 16 = some false := by kernel_rfl
theorem siz16 : sizeIf Try.prog 16 = some 1 := by kernel_rfl
theorem inf16 : Inf Try.prog 16 (.pointer none) 1 8 := inf_of (by kernel_rfl)
theorem agg17 : aggOf Try.prog 17 = some false := by kernel_rfl
theorem siz17 : sizeIf Try.prog 17 = some 1 := by kernel_rfl
theorem inf17 : Inf Try.prog 17 (.pointer none) 1 8 := inf_of (by kernel_rfl)
theorem agg18 : aggOf Try.prog 18 = some true := by kernel_rfl
theorem siz18 : sizeIf Try.prog 18 = some 1 := by kernel_rfl
theorem inf18 : Inf Try.prog 18 (.agg #[(.pointer none)]) 1 8 := inf_of (by kernel_rfl)
theorem agg19 : aggOf Try.prog 19 = some true := by kernel_rfl
theorem siz19 : sizeIf Try.prog 19 = some 1 := by kernel_rfl
theorem inf19 : Inf Try.prog 19 (.agg #[(.pointer none)]) 1 8 := inf_of (by kernel_rfl)
theorem agg20 : aggOf Try.prog 20 = some false := by kernel_rfl
theorem siz20 : sizeIf Try.prog 20 = some 1 := by kernel_rfl
theorem inf20 : Inf Try.prog 20 .nilIface 1 16 := inf_of (by kernel_rfl)
theorem agg21 : aggOf Try.prog 21 = some false := by kernel_rfl
theorem siz21 : sizeIf Try.prog 21 = some 1 := by kernel_rfl
theorem inf21 : Inf Try.prog 21 (.int .i32 0) 1 4 := inf_of (by kernel_rfl)
theorem agg22 : aggOf Try.prog 22 = some false := by kernel_rfl
theorem siz22 : sizeIf Try.prog 22 = some 1 := by kernel_rfl
theorem inf22 : Inf Try.prog 22 (.slice none 0 0) 1 24 := inf_of (by kernel_rfl)
theorem agg23 : aggOf Try.prog 23 = some false := by kernel_rfl
theorem siz23 : sizeIf Try.prog 23 = some 1 := by kernel_rfl
theorem inf23 : Inf Try.prog 23 (.slice none 0 0) 1 24 := inf_of (by kernel_rfl)
theorem agg24 : aggOf Try.prog 24 = some true := by kernel_rfl
theorem siz24 : sizeIf Try.prog 24 = some 2 := by kernel_rfl
theorem inf24 : Inf Try.prog 24 (.agg #[(.slice none 0 0), (.slice none 0 0)]) 2 48 := inf_of (by kernel_rfl)
theorem agg25 : aggOf Try.prog 25 = some true := by kernel_rfl
theorem siz25 : sizeIf Try.prog 25 = some 2 := by kernel_rfl
theorem inf25 : Inf Try.prog 25 (.agg #[(.slice none 0 0), (.slice none 0 0)]) 2 48 := inf_of (by kernel_rfl)
theorem agg26 : aggOf Try.prog 26 = some false := by kernel_rfl
theorem siz26 : sizeIf Try.prog 26 = some 1 := by kernel_rfl
theorem inf26 : Inf Try.prog 26 (.slice none 0 0) 1 24 := inf_of (by kernel_rfl)
theorem agg27 : aggOf Try.prog 27 = some true := by kernel_rfl
theorem siz27 : sizeIf Try.prog 27 = some 2 := by kernel_rfl
theorem inf27 : Inf Try.prog 27 (.agg #[(.slice none 0 0), (.slice none 0 0)]) 2 48 := inf_of (by kernel_rfl)
theorem agg28 : aggOf Try.prog 28 = some true := by kernel_rfl
theorem siz28 : sizeIf Try.prog 28 = some 2 := by kernel_rfl
theorem inf28 : Inf Try.prog 28 (.agg #[(.slice none 0 0), (.slice none 0 0)]) 2 48 := inf_of (by kernel_rfl)
theorem agg29 : aggOf Try.prog 29 = some false := by kernel_rfl
theorem siz29 : sizeIf Try.prog 29 = some 1 := by kernel_rfl
theorem inf29 : Inf Try.prog 29 .nilFunc 1 8 := inf_of (by kernel_rfl)
theorem agg30 : aggOf Try.prog 30 = some false := by kernel_rfl
theorem siz30 : sizeIf Try.prog 30 = some 1 := by kernel_rfl
theorem inf30 : Inf Try.prog 30 (.int .i64 0) 1 8 := inf_of (by kernel_rfl)
theorem agg31 : aggOf Try.prog 31 = some false := by kernel_rfl
theorem siz31 : sizeIf Try.prog 31 = some 1 := by kernel_rfl
theorem agg32 : aggOf Try.prog 32 = some false := by kernel_rfl
theorem siz32 : sizeIf Try.prog 32 = some 1 := by kernel_rfl
theorem inf32 : Inf Try.prog 32 .nilFunc 1 8 := inf_of (by kernel_rfl)
theorem agg33 : aggOf Try.prog 33 = some false := by kernel_rfl
theorem siz33 : sizeIf Try.prog 33 = some 1 := by kernel_rfl
theorem agg34 : aggOf Try.prog 34 = some false := by kernel_rfl
theorem siz34 : sizeIf Try.prog 34 = some 1 := by kernel_rfl
theorem inf34 : Inf Try.prog 34 .nilFunc 1 8 := inf_of (by kernel_rfl)
theorem agg35 : aggOf Try.prog 35 = some false := by kernel_rfl
theorem siz35 : sizeIf Try.prog 35 = some 1 := by kernel_rfl
theorem inf35 : Inf Try.prog 35 .nilFunc 1 8 := inf_of (by kernel_rfl)
theorem agg36 : aggOf Try.prog 36 = some false := by kernel_rfl
theorem siz36 : sizeIf Try.prog 36 = some 1 := by kernel_rfl
theorem inf36 : Inf Try.prog 36 .nilFunc 1 8 := inf_of (by kernel_rfl)
theorem agg37 : aggOf Try.prog 37 = some false := by kernel_rfl
theorem siz37 : sizeIf Try.prog 37 = some 1 := by kernel_rfl
theorem inf37 : Inf Try.prog 37 .nilFunc 1 8 := inf_of (by kernel_rfl)
theorem agg38 : aggOf Try.prog 38 = some false := by kernel_rfl
theorem siz38 : sizeIf Try.prog 38 = some 1 := by kernel_rfl
theorem inf38 : Inf Try.prog 38 (.slice none 0 0) 1 24 := inf_of (by kernel_rfl)
theorem agg39 : aggOf Try.prog 39 = some false := by kernel_rfl
theorem siz39 : sizeIf Try.prog 39 = some 1 := by kernel_rfl
theorem agg40 : aggOf Try.prog 40 = some false := by kernel_rfl
theorem siz40 : sizeIf Try.prog 40 = some 1 := by kernel_rfl
theorem inf40 : Inf Try.prog 40 .nilFunc 1 8 := inf_of (by kernel_rfl)
theorem agg41 : aggOf Try.prog 41 = some false := by kernel_rfl
theorem siz41 : sizeIf Try.prog 41 = some 1 := by kernel_rfl
theorem agg42 : aggOf Try.prog 42 = some false := by kernel_rfl
theorem siz42 : sizeIf Try.prog 42 = some 1 := by kernel_rfl
theorem inf42 : Inf Try.prog 42 .nilFunc 1 8 := inf_of (by kernel_rfl)
theorem agg43 : aggOf Try.prog 43 = some false := by kernel_rfl
theorem siz43 : sizeIf Try.prog 43 = some 1 := by kernel_rfl
theorem inf43 : Inf Try.prog 43 .nilFunc 1 8 := inf_of (by kernel_rfl)
theorem agg44 : aggOf Try.prog 44 = some false := by kernel_rfl
theorem siz44 : sizeIf Try.prog 44 = some 1 := by kernel_rfl
theorem inf44 : Inf Try.prog 44 .nilFunc 1 8 := inf_of (by kernel_rfl)
theorem agg45 : aggOf Try.prog 45 = some false := by kernel_rfl
theorem siz45 : sizeIf Try.prog 45 = some 1 := by kernel_rfl
theorem agg46 : aggOf Try.prog 46 = some false := by kernel_rfl
theorem siz46 : sizeIf Try.prog 46 = some 1 := by kernel_rfl
theorem inf46 : Inf Try.prog 46 .nilFunc 1 8 := inf_of (by kernel_rfl)
theorem agg47 : aggOf Try.prog 47 = some false := by kernel_rfl
theorem siz47 : sizeIf Try.prog 47 = some 1 := by kernel_rfl
theorem agg48 : aggOf Try.prog 48 = some false := by kernel_rfl
theorem siz48 : sizeIf Try.prog 48 = some 1 := by kernel_rfl
theorem inf48 : Inf Try.prog 48 .nilFunc 1 8 := inf_of (by kernel_rfl)
theorem agg49 : aggOf Try.prog 49 = some false := by kernel_rfl
theorem siz49 : sizeIf Try.prog 49 = some 1 := by kernel_rfl
theorem inf49 : Inf Try.prog 49 .nilFunc 1 8 := inf_of (by kernel_rfl)
theorem agg50 : aggOf Try.prog 50 = some true := by kernel_rfl
theorem siz50 : sizeIf Try.prog 50 = some 3 := by kernel_rfl
theorem inf50 : Inf Try.prog 50 (.agg #[(.int .i64 0), (.int .i64 0), (.int .i64 0)]) 3 24 := inf_of (by kernel_rfl)
theorem agg51 : aggOf Try.prog 51 = some true := by kernel_rfl
theorem siz51 : sizeIf Try.prog 51 = some 3 := by kernel_rfl
theorem inf51 : Inf Try.prog 51 (.agg #[(.int .i64 0), (.int .i64 0), (.int .i64 0)]) 3 24 := inf_of (by kernel_rfl)
theorem agg52 : aggOf Try.prog 52 = some false := by kernel_rfl
theorem siz52 : sizeIf Try.prog 52 = some 1 := by kernel_rfl
theorem inf52 : Inf Try.prog 52 .nilFunc 1 8 := inf_of (by kernel_rfl)
theorem agg53 : aggOf Try.prog 53 = some false := by kernel_rfl
theorem siz53 : sizeIf Try.prog 53 = some 1 := by kernel_rfl
theorem inf53 : Inf Try.prog 53 (.slice none 0 0) 1 24 := inf_of (by kernel_rfl)
theorem agg54 : aggOf Try.prog 54 = some false := by kernel_rfl
theorem siz54 : sizeIf Try.prog 54 = some 1 := by kernel_rfl
theorem inf54 : Inf Try.prog 54 .nilFunc 1 8 := inf_of (by kernel_rfl)
theorem agg55 : aggOf Try.prog 55 = some false := by kernel_rfl
theorem siz55 : sizeIf Try.prog 55 = some 1 := by kernel_rfl
theorem inf55 : Inf Try.prog 55 .nilFunc 1 8 := inf_of (by kernel_rfl)
theorem agg56 : aggOf Try.prog 56 = some false := by kernel_rfl
theorem siz56 : sizeIf Try.prog 56 = some 1 := by kernel_rfl
theorem inf56 : Inf Try.prog 56 .nilFunc 1 8 := inf_of (by kernel_rfl)
theorem agg57 : aggOf Try.prog 57 = some false := by kernel_rfl
theorem siz57 : sizeIf Try.prog 57 = some 1 := by kernel_rfl
theorem inf57 : Inf Try.prog 57 .nilFunc 1 8 := inf_of (by kernel_rfl)
theorem agg58 : aggOf Try.prog 58 = some true := by kernel_rfl
theorem siz58 : sizeIf Try.prog 58 = some 3 := by kernel_rfl
theorem inf58 : Inf Try.prog 58 (.agg #[(.int .i64 0), (.int .i64 0), (.int .i64 0)]) 3 24 := inf_of (by kernel_rfl)
theorem agg59 : aggOf Try.prog 59 = some false := by kernel_rfl
theorem siz59 : sizeIf Try.prog 59 = some 1 := by kernel_rfl
theorem inf59 : Inf Try.prog 59 (.map none) 1 8 := inf_of (by kernel_rfl)
theorem agg60 : aggOf Try.prog 60 = some false := by kernel_rfl
theorem siz60 : sizeIf Try.prog 60 = some 1 := by kernel_rfl
theorem agg61 : aggOf Try.prog 61 = some false := by kernel_rfl
theorem siz61 : sizeIf Try.prog 61 = some 1 := by kernel_rfl
theorem inf61 : Inf Try.prog 61 (.map none) 1 8 := inf_of (by kernel_rfl)
theorem agg62 : aggOf Try.prog 62 = some true := by kernel_rfl
theorem siz62 : sizeIf Try.prog 62 = some 2 := by kernel_rfl
theorem inf62 : Inf Try.prog 62 (.agg #[(.int .i64 0), (.int .i64 0)]) 2 16 := inf_of (by kernel_rfl)
theorem agg63 : aggOf Try.prog 63 = some false := by kernel_rfl
theorem siz63 : sizeIf Try.prog 63 = some 1 := by kernel_rfl
theorem inf63 : Inf Try.prog 63 .nilFunc 1 8 := inf_of (by kernel_rfl)
theorem agg64 : aggOf Try.prog 64 = some false := by kernel_rfl
theorem siz64 : sizeIf Try.prog 64 = some 1 := by kernel_rfl
theorem inf64 : Inf Try.prog 64 .nilFunc 1 8 := inf_of (by kernel_rfl)
theorem agg65 : aggOf Try.prog 65 = some false := by kernel_rfl
theorem siz65 : sizeIf Try.prog 65 = some 1 := by kernel_rfl
theorem inf65 : Inf Try.prog 65 .nilFunc 1 8 := inf_of (by kernel_rfl)
theorem agg66 : aggOf Try.prog 66 = some false := by kernel_rfl
theorem siz66 : sizeIf Try.prog 66 = some 1 := by kernel_rfl
theorem inf66 : Inf Try.prog 66 .nilFunc 1 8 := inf_of (by kernel_rfl)
theorem agg67 : aggOf Try.prog 67 = some false := by kernel_rfl
theorem siz67 : sizeIf Try.prog 67 = some 1 := by kernel_rfl
theorem inf67 : Inf Try.prog 67 .nilFunc 1 8 := inf_of (by kernel_rfl)
theorem agg68 : aggOf Try.prog 68 = some false := by kernel_rfl
theorem siz68 : sizeIf Try.prog 68 = some 1 := by kernel_rfl
theorem inf68 : Inf Try.prog 68 (.pointer none) 1 8 := inf_of (by kernel_rfl)
theorem agg69 : aggOf Try.prog 69 = some false := by kernel_rfl
theorem siz69 : sizeIf Try.prog 69 = some 1 := by kernel_rfl
theorem inf69 : Inf Try.prog 69 (.slice none 0 0) 1 24 := inf_of (by kernel_rfl)
theorem agg70 : aggOf Try.prog 70 = some true := by kernel_rfl
theorem siz70 : sizeIf Try.prog 70 = some 2 := by kernel_rfl
theorem inf70 : Inf Try.prog 70 (.agg #[(.pointer none), (.slice none 0 0)]) 2 32 := inf_of (by kernel_rfl)
theorem agg71 : aggOf Try.prog 71 = some true := by kernel_rfl
theorem siz71 : sizeIf Try.prog 71 = some 2 := by kernel_rfl
theorem inf71 : Inf Try.prog 71 (.agg #[(.pointer none), (.slice none 0 0)]) 2 32 := inf_of (by kernel_rfl)
theorem agg72 : aggOf Try.prog 72 = some false := by kernel_rfl
theorem siz72 : sizeIf Try.prog 72 = some 1 := by kernel_rfl
theorem inf72 : Inf Try.prog 72 .nilIface 1 16 := inf_of (by kernel_rfl)
theorem agg73 : aggOf Try.prog 73 = some false := by kernel_rfl
theorem siz73 : sizeIf Try.prog 73 = some 1 := by kernel_rfl
theorem inf73 : Inf Try.prog 73 .nilIface 1 16 := inf_of (by kernel_rfl)
theorem agg74 : aggOf Try.prog 74 = some false := by kernel_rfl
theorem siz74 : sizeIf Try.prog 74 = some 1 := by kernel_rfl
theorem agg75 : aggOf Try.prog 75 = some false := by kernel_rfl
theorem siz75 : sizeIf Try.prog 75 = some 1 := by kernel_rfl
theorem inf75 : Inf Try.prog 75 .nilFunc 1 8 := inf_of (by kernel_rfl)
theorem agg76 : aggOf Try.prog 76 = some false := by kernel_rfl
theorem siz76 : sizeIf Try.prog 76 = some 1 := by kernel_rfl
theorem inf76 : Inf Try.prog 76 .nilFunc 1 8 := inf_of (by kernel_rfl)
theorem agg77 : aggOf Try.prog 77 = some false := by kernel_rfl
theorem siz77 : sizeIf Try.prog 77 = some 1 := by kernel_rfl
theorem inf77 : Inf Try.prog 77 .nilFunc 1 8 := inf_of (by kernel_rfl)
theorem agg78 : aggOf Try.prog 78 = some false := by kernel_rfl
theorem siz78 : sizeIf Try.prog 78 = some 1 := by kernel_rfl
theorem inf78 : Inf Try.prog 78 .nilFunc 1 8 := inf_of (by kernel_rfl)
theorem agg79 : aggOf Try.prog 79 = some false := by kernel_rfl
theorem siz79 : sizeIf Try.prog 79 = some 1 := by kernel_rfl
theorem inf79 : Inf Try.prog 79 .nilFunc 1 8 := inf_of (by kernel_rfl)
theorem agg80 : aggOf Try.prog 80 = some false := by kernel_rfl
theorem siz80 : sizeIf Try.prog 80 = some 1 := by kernel_rfl
theorem inf80 : Inf Try.prog 80 .nilFunc 1 8 := inf_of (by kernel_rfl)
theorem agg81 : aggOf Try.prog 81 = some false := by kernel_rfl
theorem siz81 : sizeIf Try.prog 81 = some 1 := by kernel_rfl
theorem inf81 : Inf Try.prog 81 .nilFunc 1 8 := inf_of (by kernel_rfl)
theorem agg82 : aggOf Try.prog 82 = some false := by kernel_rfl
theorem siz82 : sizeIf Try.prog 82 = some 1 := by kernel_rfl
theorem inf82 : Inf Try.prog 82 (.slice none 0 0) 1 24 := inf_of (by kernel_rfl)
theorem agg83 : aggOf Try.prog 83 = some false := by kernel_rfl
theorem siz83 : sizeIf Try.prog 83 = some 1 := by kernel_rfl
theorem inf83 : Inf Try.prog 83 .nilFunc 1 8 := inf_of (by kernel_rfl)
theorem agg84 : aggOf Try.prog 84 = some false := by kernel_rfl
theorem siz84 : sizeIf Try.prog 84 = some 1 := by kernel_rfl
theorem inf84 : Inf Try.prog 84 .nilFunc 1 8 := inf_of (by kernel_rfl)
theorem agg85 : aggOf Try.prog 85 = some false := by kernel_rfl
theorem siz85 : sizeIf Try.prog 85 = some 1 := by kernel_rfl
theorem inf85 : Inf Try.prog 85 .nilFunc 1 8 := inf_of (by kernel_rfl)
theorem agg86 : aggOf Try.prog 86 = some false := by kernel_rfl
theorem siz86 : sizeIf Try.prog 86 = some 1 := by kernel_rfl
theorem inf86 : Inf Try.prog 86 (.pointer none) 1 8 := inf_of (by kernel_rfl)
theorem agg87 : aggOf Try.prog 87 = some false := by kernel_rfl
theorem siz87 : sizeIf Try.prog 87 = some 1 := by kernel_rfl
theorem inf87 : Inf Try.prog 87 (.pointer none) 1 8 := inf_of (by kernel_rfl)
theorem agg88 : aggOf Try.prog 88 = some false := by kernel_rfl
theorem siz88 : sizeIf Try.prog 88 = some 1 := by kernel_rfl
theorem inf88 : Inf Try.prog 88 (.pointer none) 1 8 := inf_of (by kernel_rfl)
theorem agg89 : aggOf Try.prog 89 = some false := by kernel_rfl
theorem siz89 : sizeIf Try.prog 89 = some 1 := by kernel_rfl
theorem inf89 : Inf Try.prog 89 .nilFunc 1 8 := inf_of (by kernel_rfl)
theorem agg90 : aggOf Try.prog 90 = some false := by kernel_rfl
theorem siz90 : sizeIf Try.prog 90 = some 1 := by kernel_rfl
theorem inf90 : Inf Try.prog 90 .nilFunc 1 8 := inf_of (by kernel_rfl)
theorem agg91 : aggOf Try.prog 91 = some true := by kernel_rfl
theorem siz91 : sizeIf Try.prog 91 = some 4 := by kernel_rfl
theorem inf91 : Inf Try.prog 91 (.agg #[(.pointer none), (.pointer none), (.pointer none), (.string ⟨#[]⟩)]) 4 40 := inf_of (by kernel_rfl)
theorem agg92 : aggOf Try.prog 92 = some true := by kernel_rfl
theorem siz92 : sizeIf Try.prog 92 = some 4 := by kernel_rfl
theorem inf92 : Inf Try.prog 92 (.agg #[(.pointer none), (.pointer none), (.pointer none), (.string ⟨#[]⟩)]) 4 40 := inf_of (by kernel_rfl)
theorem agg93 : aggOf Try.prog 93 = some true := by kernel_rfl
theorem siz93 : sizeIf Try.prog 93 = some 0 := by kernel_rfl
theorem inf93 : Inf Try.prog 93 (.agg #[]) 0 0 := inf_of (by kernel_rfl)
theorem agg94 : aggOf Try.prog 94 = some true := by kernel_rfl
theorem siz94 : sizeIf Try.prog 94 = some 0 := by kernel_rfl
theorem inf94 : Inf Try.prog 94 (.agg #[]) 0 0 := inf_of (by kernel_rfl)
theorem agg95 : aggOf Try.prog 95 = some true := by kernel_rfl
theorem siz95 : sizeIf Try.prog 95 = some 0 := by kernel_rfl
theorem inf95 : Inf Try.prog 95 (.agg #[]) 0 0 := inf_of (by kernel_rfl)
theorem agg96 : aggOf Try.prog 96 = some false := by kernel_rfl
theorem siz96 : sizeIf Try.prog 96 = some 1 := by kernel_rfl
theorem inf96 : Inf Try.prog 96 .nilFunc 1 8 := inf_of (by kernel_rfl)
theorem agg97 : aggOf Try.prog 97 = some false := by kernel_rfl
theorem siz97 : sizeIf Try.prog 97 = some 1 := by kernel_rfl
theorem inf97 : Inf Try.prog 97 (.int .u32 0) 1 4 := inf_of (by kernel_rfl)
theorem agg98 : aggOf Try.prog 98 = some false := by kernel_rfl
theorem siz98 : sizeIf Try.prog 98 = some 1 := by kernel_rfl
theorem inf98 : Inf Try.prog 98 (.int .u8 0) 1 1 := inf_of (by kernel_rfl)
theorem agg99 : aggOf Try.prog 99 = some false := by kernel_rfl
theorem siz99 : sizeIf Try.prog 99 = some 1 := by kernel_rfl
theorem inf99 : Inf Try.prog 99 (.int .u8 0) 1 1 := inf_of (by kernel_rfl)
theorem agg100 : aggOf Try.prog 100 = some false := by kernel_rfl
theorem siz100 : sizeIf Try.prog 100 = some 1 := by kernel_rfl
theorem inf100 : Inf Try.prog 100 .nilFunc 1 8 := inf_of (by kernel_rfl)
theorem agg101 : aggOf Try.prog 101 = some false := by kernel_rfl
theorem siz101 : sizeIf Try.prog 101 = some 1 := by kernel_rfl
theorem inf101 : Inf Try.prog 101 (.int .i32 0) 1 4 := inf_of (by kernel_rfl)
theorem agg102 : aggOf Try.prog 102 = some false := by kernel_rfl
theorem siz102 : sizeIf Try.prog 102 = some 1 := by kernel_rfl
theorem inf102 : Inf Try.prog 102 (.int .i32 0) 1 4 := inf_of (by kernel_rfl)
theorem agg103 : aggOf Try.prog 103 = some true := by kernel_rfl
theorem siz103 : sizeIf Try.prog 103 = some 11 := by kernel_rfl
theorem inf103 : Inf Try.prog 103 (.agg #[(.int .u64 0), (.int .u64 0), (.int .u32 0), (.int .u8 0), (.int .u8 0), (.int .u8 0), (.int .u8 0), .nilFunc, (.pointer none), (.int .i32 0), (.int .i32 0)]) 11 48 := inf_of (by kernel_rfl)
theorem agg104 : aggOf Try.prog 104 = some true := by kernel_rfl
theorem siz104 : sizeIf Try.prog 104 = some 11 := by kernel_rfl
theorem inf104 : Inf Try.prog 104 (.agg #[(.int .u64 0), (.int .u64 0), (.int .u32 0), (.int .u8 0), (.int .u8 0), (.int .u8 0), (.int .u8 0), .nilFunc, (.pointer none), (.int .i32 0), (.int .i32 0)]) 11 48 := inf_of (by kernel_rfl)
end Go.Wk.Ytjdfdahdobikmaa
