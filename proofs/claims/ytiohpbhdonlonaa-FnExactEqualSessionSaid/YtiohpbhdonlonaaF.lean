/- Facts of the program: sizes, zero values and fields of its types. -/
import Derived.Test.YtiohpbhdonlonaaProg
import Derived.Test.YtiohpbhdonlonaaW18
import Derived.KernelRfl
namespace Go.VC.F
open Go Go.VC
open Go.Proofs
theorem sz3 : szOf Try.prog 3 = some 1 := by kernel_rfl
theorem co3 : Program.cellsOf Try.prog 3 = 1 := by kernel_rfl
theorem ag3 : aggB Try.prog 3 = false := by kernel_rfl
theorem zv3 : wpO.zvOf Try.prog 3 = some [.int .i64 0] := by kernel_rfl
theorem un3 : Try.prog.underlying 3 = some (.int .i64) := by kernel_rfl
theorem sz4 : szOf Try.prog 4 = some 1 := by kernel_rfl
theorem ag4 : aggB Try.prog 4 = false := by kernel_rfl
theorem zv4 : wpO.zvOf Try.prog 4 = some [.bool false] := by kernel_rfl
theorem un4 : Try.prog.underlying 4 = some .bool := by kernel_rfl
theorem sz9 : szOf Try.prog 9 = some 1 := by kernel_rfl
theorem co9 : Program.cellsOf Try.prog 9 = 1 := by kernel_rfl
theorem by9 : Program.bytesOf Try.prog 9 = 16 := by kernel_rfl
theorem ag9 : aggB Try.prog 9 = false := by kernel_rfl
theorem zv9 : wpO.zvOf Try.prog 9 = some [.string ⟨#[]⟩] := by kernel_rfl
theorem un9 : Try.prog.underlying 9 = some .string := by kernel_rfl
theorem co35 : Program.cellsOf Try.prog 35 = 1 := by kernel_rfl
theorem un35 : Try.prog.underlying 35 = some (.slice 261) := by kernel_rfl
theorem co37 : Program.cellsOf Try.prog 37 = 1 := by kernel_rfl
theorem st37 : strOf Try.prog 37 = some [(35, 0)] := by kernel_rfl
theorem sz38 : szOf Try.prog 38 = some 1 := by kernel_rfl
theorem co38 : Program.cellsOf Try.prog 38 = 1 := by kernel_rfl
theorem ag38 : aggB Try.prog 38 = false := by kernel_rfl
theorem zv38 : wpO.zvOf Try.prog 38 = some [.slice none 0 0] := by kernel_rfl
theorem sb38 : slB Try.prog 38 = true := by kernel_rfl
theorem un38 : Try.prog.underlying 38 = some (.slice 9) := by kernel_rfl
theorem el38 : elOf Try.prog 38 = some (9, 1) := by kernel_rfl
theorem ap38 : apOf Try.prog 38 = some (9, 1, 16, [.string ⟨#[]⟩]) := by kernel_rfl
theorem sz46 : szOf Try.prog 46 = some 1 := by kernel_rfl
theorem co46 : Program.cellsOf Try.prog 46 = 1 := by kernel_rfl
theorem ag46 : aggB Try.prog 46 = false := by kernel_rfl
theorem zv46 : wpO.zvOf Try.prog 46 = some [.slice none 0 0] := by kernel_rfl
theorem sb46 : slB Try.prog 46 = true := by kernel_rfl
theorem un46 : Try.prog.underlying 46 = some (.slice 268) := by kernel_rfl
theorem el46 : elOf Try.prog 46 = some (268, 2) := by kernel_rfl
theorem ap46 : apOf Try.prog 46 = some (268, 2, 40, [.string ⟨#[]⟩, .slice none 0 0]) := by kernel_rfl
theorem sz48 : szOf Try.prog 48 = some 1 := by kernel_rfl
theorem co48 : Program.cellsOf Try.prog 48 = 1 := by kernel_rfl
theorem ag48 : aggB Try.prog 48 = true := by kernel_rfl
theorem zv48 : wpO.zvOf Try.prog 48 = some [.slice none 0 0] := by kernel_rfl
theorem st48 : strOf Try.prog 48 = some [(46, 0)] := by kernel_rfl
theorem fl48_0 : fldOf Try.prog 48 0 = some (0, 46) := by kernel_rfl
theorem pl48 : plOf Try.prog 48 = some ([(0, 1)], [.slice none 0 0]) := by kernel_rfl
theorem co50 : Program.cellsOf Try.prog 50 = 2 := by kernel_rfl
theorem st50 : strOf Try.prog 50 = some [(9, 0), (9, 1)] := by kernel_rfl
theorem sz54 : szOf Try.prog 54 = some 1 := by kernel_rfl
theorem ag54 : aggB Try.prog 54 = false := by kernel_rfl
theorem zv54 : wpO.zvOf Try.prog 54 = some [.slice none 0 0] := by kernel_rfl
theorem sb54 : slB Try.prog 54 = true := by kernel_rfl
theorem un54 : Try.prog.underlying 54 = some (.slice 251) := by kernel_rfl
theorem el54 : elOf Try.prog 54 = some (251, 2) := by kernel_rfl
theorem ap54 : apOf Try.prog 54 = some (251, 2, 40, [.string ⟨#[]⟩, .slice none 0 0]) := by kernel_rfl
theorem sz56 : szOf Try.prog 56 = some 1 := by kernel_rfl
theorem ag56 : aggB Try.prog 56 = true := by kernel_rfl
theorem zv56 : wpO.zvOf Try.prog 56 = some [.slice none 0 0] := by kernel_rfl
theorem fl56_0 : fldOf Try.prog 56 0 = some (0, 54) := by kernel_rfl
theorem pl56 : plOf Try.prog 56 = some ([(0, 1)], [.slice none 0 0]) := by kernel_rfl
theorem sz62 : szOf Try.prog 62 = some 1 := by kernel_rfl
theorem co62 : Program.cellsOf Try.prog 62 = 1 := by kernel_rfl
theorem ag62 : aggB Try.prog 62 = false := by kernel_rfl
theorem zv62 : wpO.zvOf Try.prog 62 = some [.slice none 0 0] := by kernel_rfl
theorem sb62 : slB Try.prog 62 = true := by kernel_rfl
theorem un62 : Try.prog.underlying 62 = some (.slice 64) := by kernel_rfl
theorem el62 : elOf Try.prog 62 = some (64, 3) := by kernel_rfl
theorem ap62 : apOf Try.prog 62 = some (64, 3, 56, [.int .i64 0, .slice none 0 0, .slice none 0 0]) := by kernel_rfl
theorem sz64 : szOf Try.prog 64 = some 3 := by kernel_rfl
theorem co64 : Program.cellsOf Try.prog 64 = 3 := by kernel_rfl
theorem by64 : Program.bytesOf Try.prog 64 = 56 := by kernel_rfl
theorem ag64 : aggB Try.prog 64 = true := by kernel_rfl
theorem zv64 : wpO.zvOf Try.prog 64 = some [.int .i64 0, .slice none 0 0, .slice none 0 0] := by kernel_rfl
theorem st64 : strOf Try.prog 64 = some [(3, 0), (38, 1), (62, 2)] := by kernel_rfl
theorem fl64_0 : fldOf Try.prog 64 0 = some (0, 3) := by kernel_rfl
theorem fl64_1 : fldOf Try.prog 64 1 = some (1, 38) := by kernel_rfl
theorem fl64_2 : fldOf Try.prog 64 2 = some (2, 62) := by kernel_rfl
theorem pl64 : plOf Try.prog 64 = some ([(0, 1), (1, 1), (2, 1)], [.int .i64 0, .slice none 0 0, .slice none 0 0]) := by kernel_rfl
theorem sz65 : szOf Try.prog 65 = some 1 := by kernel_rfl
theorem co65 : Program.cellsOf Try.prog 65 = 1 := by kernel_rfl
theorem ag65 : aggB Try.prog 65 = false := by kernel_rfl
theorem zv65 : wpO.zvOf Try.prog 65 = some [.slice none 0 0] := by kernel_rfl
theorem sb65 : slB Try.prog 65 = true := by kernel_rfl
theorem un65 : Try.prog.underlying 65 = some (.slice 67) := by kernel_rfl
theorem el65 : elOf Try.prog 65 = some (67, 8) := by kernel_rfl
theorem ap65 : apOf Try.prog 65 = some (67, 8, 136, [.int .i64 0, .string ⟨#[]⟩, .int .i64 0, .int .i64 0, .slice none 0 0, .slice none 0 0, .slice none 0 0, .slice none 0 0]) := by kernel_rfl
theorem sz67 : szOf Try.prog 67 = some 8 := by kernel_rfl
theorem co67 : Program.cellsOf Try.prog 67 = 8 := by kernel_rfl
theorem by67 : Program.bytesOf Try.prog 67 = 136 := by kernel_rfl
theorem ag67 : aggB Try.prog 67 = true := by kernel_rfl
theorem zv67 : wpO.zvOf Try.prog 67 = some [.int .i64 0, .string ⟨#[]⟩, .int .i64 0, .int .i64 0, .slice none 0 0, .slice none 0 0, .slice none 0 0, .slice none 0 0] := by kernel_rfl
theorem st67 : strOf Try.prog 67 = some [(3, 0), (9, 1), (3, 2), (64, 3), (38, 6), (65, 7)] := by kernel_rfl
theorem fl67_0 : fldOf Try.prog 67 0 = some (0, 3) := by kernel_rfl
theorem fl67_1 : fldOf Try.prog 67 1 = some (1, 9) := by kernel_rfl
theorem fl67_2 : fldOf Try.prog 67 2 = some (2, 3) := by kernel_rfl
theorem fl67_3 : fldOf Try.prog 67 3 = some (3, 64) := by kernel_rfl
theorem fl67_4 : fldOf Try.prog 67 4 = some (6, 38) := by kernel_rfl
theorem fl67_5 : fldOf Try.prog 67 5 = some (7, 65) := by kernel_rfl
theorem pl67 : plOf Try.prog 67 = some ([(0, 1), (1, 1), (2, 1), (3, 3), (6, 1), (7, 1)], [.int .i64 0, .string ⟨#[]⟩, .int .i64 0, .int .i64 0, .slice none 0 0, .slice none 0 0, .slice none 0 0, .slice none 0 0]) := by kernel_rfl
theorem co69 : Program.cellsOf Try.prog 69 = 11 := by kernel_rfl
theorem st69 : strOf Try.prog 69 = some [(9, 0), (67, 1), (38, 9), (9, 10)] := by kernel_rfl
theorem sz72 : szOf Try.prog 72 = some 1 := by kernel_rfl
theorem ag72 : aggB Try.prog 72 = false := by kernel_rfl
theorem zv72 : wpO.zvOf Try.prog 72 = some [.slice none 0 0] := by kernel_rfl
theorem sb72 : slB Try.prog 72 = true := by kernel_rfl
theorem un72 : Try.prog.underlying 72 = some (.slice 74) := by kernel_rfl
theorem el72 : elOf Try.prog 72 = some (74, 3) := by kernel_rfl
theorem ap72 : apOf Try.prog 72 = some (74, 3, 56, [.int .i64 0, .slice none 0 0, .slice none 0 0]) := by kernel_rfl
theorem sz74 : szOf Try.prog 74 = some 3 := by kernel_rfl
theorem ag74 : aggB Try.prog 74 = true := by kernel_rfl
theorem zv74 : wpO.zvOf Try.prog 74 = some [.int .i64 0, .slice none 0 0, .slice none 0 0] := by kernel_rfl
theorem fl74_0 : fldOf Try.prog 74 0 = some (0, 3) := by kernel_rfl
theorem fl74_1 : fldOf Try.prog 74 1 = some (1, 38) := by kernel_rfl
theorem fl74_2 : fldOf Try.prog 74 2 = some (2, 72) := by kernel_rfl
theorem pl74 : plOf Try.prog 74 = some ([(0, 1), (1, 1), (2, 1)], [.int .i64 0, .slice none 0 0, .slice none 0 0]) := by kernel_rfl
theorem sz75 : szOf Try.prog 75 = some 1 := by kernel_rfl
theorem ag75 : aggB Try.prog 75 = false := by kernel_rfl
theorem zv75 : wpO.zvOf Try.prog 75 = some [.slice none 0 0] := by kernel_rfl
theorem sb75 : slB Try.prog 75 = true := by kernel_rfl
theorem un75 : Try.prog.underlying 75 = some (.slice 77) := by kernel_rfl
theorem el75 : elOf Try.prog 75 = some (77, 8) := by kernel_rfl
theorem ap75 : apOf Try.prog 75 = some (77, 8, 136, [.int .i64 0, .string ⟨#[]⟩, .int .i64 0, .int .i64 0, .slice none 0 0, .slice none 0 0, .slice none 0 0, .slice none 0 0]) := by kernel_rfl
theorem sz77 : szOf Try.prog 77 = some 8 := by kernel_rfl
theorem ag77 : aggB Try.prog 77 = true := by kernel_rfl
theorem zv77 : wpO.zvOf Try.prog 77 = some [.int .i64 0, .string ⟨#[]⟩, .int .i64 0, .int .i64 0, .slice none 0 0, .slice none 0 0, .slice none 0 0, .slice none 0 0] := by kernel_rfl
theorem fl77_0 : fldOf Try.prog 77 0 = some (0, 3) := by kernel_rfl
theorem fl77_1 : fldOf Try.prog 77 1 = some (1, 9) := by kernel_rfl
theorem fl77_2 : fldOf Try.prog 77 2 = some (2, 3) := by kernel_rfl
theorem fl77_3 : fldOf Try.prog 77 3 = some (3, 74) := by kernel_rfl
theorem fl77_4 : fldOf Try.prog 77 4 = some (6, 38) := by kernel_rfl
theorem fl77_5 : fldOf Try.prog 77 5 = some (7, 75) := by kernel_rfl
theorem pl77 : plOf Try.prog 77 = some ([(0, 1), (1, 1), (2, 1), (3, 3), (6, 1), (7, 1)], [.int .i64 0, .string ⟨#[]⟩, .int .i64 0, .int .i64 0, .slice none 0 0, .slice none 0 0, .slice none 0 0, .slice none 0 0]) := by kernel_rfl
theorem sz99 : szOf Try.prog 99 = some 1 := by kernel_rfl
theorem ag99 : aggB Try.prog 99 = false := by kernel_rfl
theorem zv99 : wpO.zvOf Try.prog 99 = some [.slice none 0 0] := by kernel_rfl
theorem sb99 : slB Try.prog 99 = true := by kernel_rfl
theorem un99 : Try.prog.underlying 99 = some (.slice 207) := by kernel_rfl
theorem el99 : elOf Try.prog 99 = some (207, 4) := by kernel_rfl
theorem ap99 : apOf Try.prog 99 = some (207, 4, 72, [.string ⟨#[]⟩, .int .i64 0, .slice none 0 0, .slice none 0 0]) := by kernel_rfl
theorem sz101 : szOf Try.prog 101 = some 1 := by kernel_rfl
theorem ag101 : aggB Try.prog 101 = true := by kernel_rfl
theorem zv101 : wpO.zvOf Try.prog 101 = some [.slice none 0 0] := by kernel_rfl
theorem fl101_0 : fldOf Try.prog 101 0 = some (0, 99) := by kernel_rfl
theorem pl101 : plOf Try.prog 101 = some ([(0, 1)], [.slice none 0 0]) := by kernel_rfl
theorem co121 : Program.cellsOf Try.prog 121 = 1 := by kernel_rfl
theorem un121 : Try.prog.underlying 121 = some (.slice 123) := by kernel_rfl
theorem co123 : Program.cellsOf Try.prog 123 = 13 := by kernel_rfl
theorem by123 : Program.bytesOf Try.prog 123 = 224 := by kernel_rfl
theorem st123 : strOf Try.prog 123 = some [(3, 0), (9, 1), (9, 2), (67, 3), (65, 11), (121, 12)] := by kernel_rfl
theorem sz132 : szOf Try.prog 132 = some 1 := by kernel_rfl
theorem co132 : Program.cellsOf Try.prog 132 = 1 := by kernel_rfl
theorem ag132 : aggB Try.prog 132 = false := by kernel_rfl
theorem zv132 : wpO.zvOf Try.prog 132 = some [.slice none 0 0] := by kernel_rfl
theorem sb132 : slB Try.prog 132 = true := by kernel_rfl
theorem un132 : Try.prog.underlying 132 = some (.slice 310) := by kernel_rfl
theorem el132 : elOf Try.prog 132 = some (310, 4) := by kernel_rfl
theorem ap132 : apOf Try.prog 132 = some (310, 4, 72, [.string ⟨#[]⟩, .int .i64 0, .slice none 0 0, .slice none 0 0]) := by kernel_rfl
theorem sz134 : szOf Try.prog 134 = some 1 := by kernel_rfl
theorem co134 : Program.cellsOf Try.prog 134 = 1 := by kernel_rfl
theorem ag134 : aggB Try.prog 134 = true := by kernel_rfl
theorem zv134 : wpO.zvOf Try.prog 134 = some [.slice none 0 0] := by kernel_rfl
theorem st134 : strOf Try.prog 134 = some [(132, 0)] := by kernel_rfl
theorem fl134_0 : fldOf Try.prog 134 0 = some (0, 132) := by kernel_rfl
theorem pl134 : plOf Try.prog 134 = some ([(0, 1)], [.slice none 0 0]) := by kernel_rfl
theorem sz141 : szOf Try.prog 141 = some 18 := by kernel_rfl
theorem co141 : Program.cellsOf Try.prog 141 = 18 := by kernel_rfl
theorem ag141 : aggB Try.prog 141 = true := by kernel_rfl
theorem zv141 : wpO.zvOf Try.prog 141 = some [.slice none 0 0, .slice none 0 0, .int .i64 0, .string ⟨#[]⟩, .int .i64 0, .int .i64 0, .slice none 0 0, .slice none 0 0, .slice none 0 0, .slice none 0 0, .int .i64 0, .string ⟨#[]⟩, .int .i64 0, .int .i64 0, .slice none 0 0, .slice none 0 0, .slice none 0 0, .slice none 0 0] := by kernel_rfl
theorem st141 : strOf Try.prog 141 = some [(134, 0), (48, 1), (67, 2), (67, 10)] := by kernel_rfl
theorem fl141_0 : fldOf Try.prog 141 0 = some (0, 134) := by kernel_rfl
theorem fl141_1 : fldOf Try.prog 141 1 = some (1, 48) := by kernel_rfl
theorem fl141_2 : fldOf Try.prog 141 2 = some (2, 67) := by kernel_rfl
theorem fl141_3 : fldOf Try.prog 141 3 = some (10, 67) := by kernel_rfl
theorem pl141 : plOf Try.prog 141 = some ([(0, 1), (1, 1), (2, 8), (10, 8)], [.slice none 0 0, .slice none 0 0, .int .i64 0, .string ⟨#[]⟩, .int .i64 0, .int .i64 0, .slice none 0 0, .slice none 0 0, .slice none 0 0, .slice none 0 0, .int .i64 0, .string ⟨#[]⟩, .int .i64 0, .int .i64 0, .slice none 0 0, .slice none 0 0, .slice none 0 0, .slice none 0 0]) := by kernel_rfl
theorem sz145 : szOf Try.prog 145 = some 18 := by kernel_rfl
theorem ag145 : aggB Try.prog 145 = true := by kernel_rfl
theorem zv145 : wpO.zvOf Try.prog 145 = some [.slice none 0 0, .slice none 0 0, .int .i64 0, .string ⟨#[]⟩, .int .i64 0, .int .i64 0, .slice none 0 0, .slice none 0 0, .slice none 0 0, .slice none 0 0, .int .i64 0, .string ⟨#[]⟩, .int .i64 0, .int .i64 0, .slice none 0 0, .slice none 0 0, .slice none 0 0, .slice none 0 0] := by kernel_rfl
theorem fl145_0 : fldOf Try.prog 145 0 = some (0, 101) := by kernel_rfl
theorem fl145_1 : fldOf Try.prog 145 1 = some (1, 56) := by kernel_rfl
theorem fl145_2 : fldOf Try.prog 145 2 = some (2, 77) := by kernel_rfl
theorem fl145_3 : fldOf Try.prog 145 3 = some (10, 77) := by kernel_rfl
theorem pl145 : plOf Try.prog 145 = some ([(0, 1), (1, 1), (2, 8), (10, 8)], [.slice none 0 0, .slice none 0 0, .int .i64 0, .string ⟨#[]⟩, .int .i64 0, .int .i64 0, .slice none 0 0, .slice none 0 0, .slice none 0 0, .slice none 0 0, .int .i64 0, .string ⟨#[]⟩, .int .i64 0, .int .i64 0, .slice none 0 0, .slice none 0 0, .slice none 0 0, .slice none 0 0]) := by kernel_rfl
theorem sz153 : szOf Try.prog 153 = some 1 := by kernel_rfl
theorem ag153 : aggB Try.prog 153 = false := by kernel_rfl
theorem zv153 : wpO.zvOf Try.prog 153 = some [.slice none 0 0] := by kernel_rfl
theorem sb153 : slB Try.prog 153 = true := by kernel_rfl
theorem un153 : Try.prog.underlying 153 = some (.slice 3) := by kernel_rfl
theorem el153 : elOf Try.prog 153 = some (3, 1) := by kernel_rfl
theorem ap153 : apOf Try.prog 153 = some (3, 1, 8, [.int .i64 0]) := by kernel_rfl
theorem sz167 : szOf Try.prog 167 = some 1 := by kernel_rfl
theorem ag167 : aggB Try.prog 167 = false := by kernel_rfl
theorem zv167 : wpO.zvOf Try.prog 167 = some [.slice none 0 0] := by kernel_rfl
theorem sb167 : slB Try.prog 167 = true := by kernel_rfl
theorem un167 : Try.prog.underlying 167 = some (.slice 170) := by kernel_rfl
theorem el167 : elOf Try.prog 167 = some (170, 4) := by kernel_rfl
theorem ap167 : apOf Try.prog 167 = some (170, 4, 64, [.int .i64 0, .int .i64 0, .slice none 0 0, .slice none 0 0]) := by kernel_rfl
theorem sz170 : szOf Try.prog 170 = some 4 := by kernel_rfl
theorem ag170 : aggB Try.prog 170 = true := by kernel_rfl
theorem zv170 : wpO.zvOf Try.prog 170 = some [.int .i64 0, .int .i64 0, .slice none 0 0, .slice none 0 0] := by kernel_rfl
theorem fl170_0 : fldOf Try.prog 170 0 = some (0, 3) := by kernel_rfl
theorem fl170_1 : fldOf Try.prog 170 1 = some (1, 3) := by kernel_rfl
theorem fl170_2 : fldOf Try.prog 170 2 = some (2, 38) := by kernel_rfl
theorem fl170_3 : fldOf Try.prog 170 3 = some (3, 167) := by kernel_rfl
theorem pl170 : plOf Try.prog 170 = some ([(0, 1), (1, 1), (2, 1), (3, 1)], [.int .i64 0, .int .i64 0, .slice none 0 0, .slice none 0 0]) := by kernel_rfl
theorem sz178 : szOf Try.prog 178 = some 1 := by kernel_rfl
theorem ag178 : aggB Try.prog 178 = false := by kernel_rfl
theorem zv178 : wpO.zvOf Try.prog 178 = some [.nilFunc] := by kernel_rfl
theorem sz181 : szOf Try.prog 181 = some 1 := by kernel_rfl
theorem co181 : Program.cellsOf Try.prog 181 = 1 := by kernel_rfl
theorem ag181 : aggB Try.prog 181 = false := by kernel_rfl
theorem zv181 : wpO.zvOf Try.prog 181 = some [.slice none 0 0] := by kernel_rfl
theorem sb181 : slB Try.prog 181 = true := by kernel_rfl
theorem un181 : Try.prog.underlying 181 = some (.slice 183) := by kernel_rfl
theorem el181 : elOf Try.prog 181 = some (183, 4) := by kernel_rfl
theorem ap181 : apOf Try.prog 181 = some (183, 4, 64, [.int .i64 0, .int .i64 0, .slice none 0 0, .slice none 0 0]) := by kernel_rfl
theorem sz183 : szOf Try.prog 183 = some 4 := by kernel_rfl
theorem co183 : Program.cellsOf Try.prog 183 = 4 := by kernel_rfl
theorem by183 : Program.bytesOf Try.prog 183 = 64 := by kernel_rfl
theorem ag183 : aggB Try.prog 183 = true := by kernel_rfl
theorem zv183 : wpO.zvOf Try.prog 183 = some [.int .i64 0, .int .i64 0, .slice none 0 0, .slice none 0 0] := by kernel_rfl
theorem st183 : strOf Try.prog 183 = some [(3, 0), (3, 1), (38, 2), (181, 3)] := by kernel_rfl
theorem fl183_0 : fldOf Try.prog 183 0 = some (0, 3) := by kernel_rfl
theorem fl183_1 : fldOf Try.prog 183 1 = some (1, 3) := by kernel_rfl
theorem fl183_2 : fldOf Try.prog 183 2 = some (2, 38) := by kernel_rfl
theorem fl183_3 : fldOf Try.prog 183 3 = some (3, 181) := by kernel_rfl
theorem pl183 : plOf Try.prog 183 = some ([(0, 1), (1, 1), (2, 1), (3, 1)], [.int .i64 0, .int .i64 0, .slice none 0 0, .slice none 0 0]) := by kernel_rfl
theorem co185 : Program.cellsOf Try.prog 185 = 5 := by kernel_rfl
theorem st185 : strOf Try.prog 185 = some [(183, 0), (37, 4)] := by kernel_rfl
theorem sz191 : szOf Try.prog 191 = some 1 := by kernel_rfl
theorem ag191 : aggB Try.prog 191 = false := by kernel_rfl
theorem zv191 : wpO.zvOf Try.prog 191 = some [.nilFunc] := by kernel_rfl
theorem sz207 : szOf Try.prog 207 = some 4 := by kernel_rfl
theorem ag207 : aggB Try.prog 207 = true := by kernel_rfl
theorem zv207 : wpO.zvOf Try.prog 207 = some [.string ⟨#[]⟩, .int .i64 0, .slice none 0 0, .slice none 0 0] := by kernel_rfl
theorem fl207_0 : fldOf Try.prog 207 0 = some (0, 9) := by kernel_rfl
theorem fl207_1 : fldOf Try.prog 207 1 = some (1, 74) := by kernel_rfl
theorem pl207 : plOf Try.prog 207 = some ([(0, 1), (1, 3)], [.string ⟨#[]⟩, .int .i64 0, .slice none 0 0, .slice none 0 0]) := by kernel_rfl
theorem sz251 : szOf Try.prog 251 = some 2 := by kernel_rfl
theorem ag251 : aggB Try.prog 251 = true := by kernel_rfl
theorem zv251 : wpO.zvOf Try.prog 251 = some [.string ⟨#[]⟩, .slice none 0 0] := by kernel_rfl
theorem fl251_0 : fldOf Try.prog 251 0 = some (0, 9) := by kernel_rfl
theorem fl251_1 : fldOf Try.prog 251 1 = some (1, 167) := by kernel_rfl
theorem pl251 : plOf Try.prog 251 = some ([(0, 1), (1, 1)], [.string ⟨#[]⟩, .slice none 0 0]) := by kernel_rfl
theorem co261 : Program.cellsOf Try.prog 261 = 2 := by kernel_rfl
theorem by261 : Program.bytesOf Try.prog 261 = 32 := by kernel_rfl
theorem st261 : strOf Try.prog 261 = some [(3, 0), (38, 1)] := by kernel_rfl
theorem sz268 : szOf Try.prog 268 = some 2 := by kernel_rfl
theorem co268 : Program.cellsOf Try.prog 268 = 2 := by kernel_rfl
theorem by268 : Program.bytesOf Try.prog 268 = 40 := by kernel_rfl
theorem ag268 : aggB Try.prog 268 = true := by kernel_rfl
theorem zv268 : wpO.zvOf Try.prog 268 = some [.string ⟨#[]⟩, .slice none 0 0] := by kernel_rfl
theorem st268 : strOf Try.prog 268 = some [(9, 0), (181, 1)] := by kernel_rfl
theorem fl268_0 : fldOf Try.prog 268 0 = some (0, 9) := by kernel_rfl
theorem fl268_1 : fldOf Try.prog 268 1 = some (1, 181) := by kernel_rfl
theorem pl268 : plOf Try.prog 268 = some ([(0, 1), (1, 1)], [.string ⟨#[]⟩, .slice none 0 0]) := by kernel_rfl
theorem sz272 : szOf Try.prog 272 = some 1 := by kernel_rfl
theorem ag272 : aggB Try.prog 272 = false := by kernel_rfl
theorem zv272 : wpO.zvOf Try.prog 272 = some [.nilFunc] := by kernel_rfl
theorem sz274 : szOf Try.prog 274 = some 1 := by kernel_rfl
theorem ag274 : aggB Try.prog 274 = false := by kernel_rfl
theorem zv274 : wpO.zvOf Try.prog 274 = some [.nilFunc] := by kernel_rfl
theorem sz289 : szOf Try.prog 289 = some 1 := by kernel_rfl
theorem ag289 : aggB Try.prog 289 = false := by kernel_rfl
theorem zv289 : wpO.zvOf Try.prog 289 = some [.nilFunc] := by kernel_rfl
theorem sz310 : szOf Try.prog 310 = some 4 := by kernel_rfl
theorem co310 : Program.cellsOf Try.prog 310 = 4 := by kernel_rfl
theorem by310 : Program.bytesOf Try.prog 310 = 72 := by kernel_rfl
theorem ag310 : aggB Try.prog 310 = true := by kernel_rfl
theorem zv310 : wpO.zvOf Try.prog 310 = some [.string ⟨#[]⟩, .int .i64 0, .slice none 0 0, .slice none 0 0] := by kernel_rfl
theorem st310 : strOf Try.prog 310 = some [(9, 0), (64, 1)] := by kernel_rfl
theorem fl310_0 : fldOf Try.prog 310 0 = some (0, 9) := by kernel_rfl
theorem fl310_1 : fldOf Try.prog 310 1 = some (1, 64) := by kernel_rfl
theorem pl310 : plOf Try.prog 310 = some ([(0, 1), (1, 3)], [.string ⟨#[]⟩, .int .i64 0, .slice none 0 0, .slice none 0 0]) := by kernel_rfl
theorem okf33 : fnOk Try.prog 33 = true := by kernel_rfl
theorem okf36 : fnOk Try.prog 36 = true := by kernel_rfl
theorem okf38 : fnOk Try.prog 38 = true := by kernel_rfl
theorem okf39 : fnOk Try.prog 39 = true := by kernel_rfl
theorem okf42 : fnOk Try.prog 42 = true := by kernel_rfl
theorem okf45 : fnOk Try.prog 45 = true := by kernel_rfl
theorem okf63 : fnOk Try.prog 63 = true := by kernel_rfl
theorem okf82 : fnOk Try.prog 82 = true := by kernel_rfl
theorem okf84 : fnOk Try.prog 84 = true := by kernel_rfl
theorem okf88 : fnOk Try.prog 88 = true := by kernel_rfl
theorem okf89 : fnOk Try.prog 89 = true := by kernel_rfl
theorem okf90 : fnOk Try.prog 90 = true := by kernel_rfl
theorem okf91 : fnOk Try.prog 91 = true := by kernel_rfl
theorem okf92 : fnOk Try.prog 92 = true := by kernel_rfl
theorem okf115 : fnOk Try.prog 115 = true := by kernel_rfl
theorem okf117 : fnOk Try.prog 117 = true := by kernel_rfl
theorem okf120 : fnOk Try.prog 120 = true := by kernel_rfl
theorem okf121 : fnOk Try.prog 121 = true := by kernel_rfl
theorem okf122 : fnOk Try.prog 122 = true := by kernel_rfl
theorem okf123 : fnOk Try.prog 123 = true := by kernel_rfl
theorem okf124 : fnOk Try.prog 124 = true := by kernel_rfl
theorem okf125 : fnOk Try.prog 125 = true := by kernel_rfl
theorem okf126 : fnOk Try.prog 126 = true := by kernel_rfl
theorem okf127 : fnOk Try.prog 127 = true := by kernel_rfl
theorem okf129 : fnOk Try.prog 129 = true := by kernel_rfl
theorem okf134 : fnOk Try.prog 134 = true := by kernel_rfl
theorem okf148 : fnOk Try.prog 148 = true := by kernel_rfl
theorem okf164 : fnOk Try.prog 164 = true := by kernel_rfl
theorem okf169 : fnOk Try.prog 169 = true := by kernel_rfl
theorem okf172 : fnOk Try.prog 172 = true := by kernel_rfl
theorem okf174 : fnOk Try.prog 174 = true := by kernel_rfl
theorem okf180 : fnOk Try.prog 180 = true := by kernel_rfl
theorem okf185 : fnOk Try.prog 185 = true := by kernel_rfl
theorem okf186 : fnOk Try.prog 186 = true := by kernel_rfl
theorem okf187 : fnOk Try.prog 187 = true := by kernel_rfl
theorem okf188 : fnOk Try.prog 188 = true := by kernel_rfl
theorem okf198 : fnOk Try.prog 198 = true := by kernel_rfl
theorem okf201 : fnOk Try.prog 201 = true := by kernel_rfl
theorem okf204 : fnOk Try.prog 204 = true := by kernel_rfl
theorem okf207 : fnOk Try.prog 207 = true := by kernel_rfl
theorem okf208 : fnOk Try.prog 208 = true := by kernel_rfl
theorem okf209 : fnOk Try.prog 209 = true := by kernel_rfl
theorem okf210 : fnOk Try.prog 210 = true := by kernel_rfl
theorem okf211 : fnOk Try.prog 211 = true := by kernel_rfl
theorem okf212 : fnOk Try.prog 212 = true := by kernel_rfl
theorem okf213 : fnOk Try.prog 213 = true := by kernel_rfl
theorem okf214 : fnOk Try.prog 214 = true := by kernel_rfl
theorem okf215 : fnOk Try.prog 215 = true := by kernel_rfl
theorem okf216 : fnOk Try.prog 216 = true := by kernel_rfl
theorem okf217 : fnOk Try.prog 217 = true := by kernel_rfl
theorem okf218 : fnOk Try.prog 218 = true := by kernel_rfl
theorem okf221 : fnOk Try.prog 221 = true := by kernel_rfl
theorem okf227 : fnOk Try.prog 227 = true := by kernel_rfl
theorem okf243 : fnOk Try.prog 243 = true := by kernel_rfl
theorem okf247 : fnOk Try.prog 247 = true := by kernel_rfl
theorem okf248 : fnOk Try.prog 248 = true := by kernel_rfl
theorem okf255 : fnOk Try.prog 255 = true := by kernel_rfl
theorem okf256 : fnOk Try.prog 256 = true := by kernel_rfl
theorem okf257 : fnOk Try.prog 257 = true := by kernel_rfl
theorem okf258 : fnOk Try.prog 258 = true := by kernel_rfl
theorem okf259 : fnOk Try.prog 259 = true := by kernel_rfl
theorem okf264 : fnOk Try.prog 264 = true := by kernel_rfl
theorem okf265 : fnOk Try.prog 265 = true := by kernel_rfl
theorem okf267 : fnOk Try.prog 267 = true := by kernel_rfl
theorem okf268 : fnOk Try.prog 268 = true := by kernel_rfl
theorem okf269 : fnOk Try.prog 269 = true := by kernel_rfl
theorem okf270 : fnOk Try.prog 270 = true := by kernel_rfl
theorem okf271 : fnOk Try.prog 271 = true := by kernel_rfl
theorem okf272 : fnOk Try.prog 272 = true := by kernel_rfl
theorem okf273 : fnOk Try.prog 273 = true := by kernel_rfl
theorem okf274 : fnOk Try.prog 274 = true := by kernel_rfl
theorem okf308 : fnOk Try.prog 308 = true := by kernel_rfl
theorem okf309 : fnOk Try.prog 309 = true := by kernel_rfl
theorem mixed : Try.prog.follows .mixedOrders = true := by kernel_rfl
end Go.VC.F

