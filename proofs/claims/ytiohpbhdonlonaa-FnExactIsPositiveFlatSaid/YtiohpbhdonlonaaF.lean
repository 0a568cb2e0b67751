/- Facts of the program: sizes, zero values and fields of its types. -/
import Derived.Test.YtiohpbhdonlonaaProg
import Derived.Test.YtiohpbhdonlonaaW18
import Derived.KernelRfl
namespace Go.VC.F
open Go Go.VC
open Go.Proofs
theorem sz3 : szOf Try.prog 3 = some 1 := by kernel_rfl
theorem co3 : Program.cellsOf Try.prog 3 = 1 := by kernel_rfl
theorem ag3 : aggB Try.prog 3 = false := by kernel_rfl
theorem zv3 : wpO.zvOf Try.prog 3 = some [.int .i64 0] := by kernel_rfl
theorem un3 : Try.prog.underlying 3 = some (.int .i64) := by kernel_rfl
theorem sz4 : szOf Try.prog 4 = some 1 := by kernel_rfl
theorem ag4 : aggB Try.prog 4 = false := by kernel_rfl
theorem zv4 : wpO.zvOf Try.prog 4 = some [.bool false] := by kernel_rfl
theorem un4 : Try.prog.underlying 4 = some .bool := by kernel_rfl
theorem sz9 : szOf Try.prog 9 = some 1 := by kernel_rfl
theorem co9 : Program.cellsOf Try.prog 9 = 1 := by kernel_rfl
theorem by9 : Program.bytesOf Try.prog 9 = 16 := by kernel_rfl
theorem ag9 : aggB Try.prog 9 = false := by kernel_rfl
theorem zv9 : wpO.zvOf Try.prog 9 = some [.string ⟨#[]⟩] := by kernel_rfl
theorem un9 : Try.prog.underlying 9 = some .string := by kernel_rfl
theorem co35 : Program.cellsOf Try.prog 35 = 1 := by kernel_rfl
theorem un35 : Try.prog.underlying 35 = some (.slice 261) := by kernel_rfl
theorem co37 : Program.cellsOf Try.prog 37 = 1 := by kernel_rfl
theorem st37 : strOf Try.prog 37 = some [(35, 0)] := by kernel_rfl
theorem sz38 : szOf Try.prog 38 = some 1 := by kernel_rfl
theorem co38 : Program.cellsOf Try.prog 38 = 1 := by kernel_rfl
theorem ag38 : aggB Try.prog 38 = false := by kernel_rfl
theorem zv38 : wpO.zvOf Try.prog 38 = some [.slice none 0 0] := by kernel_rfl
theorem sb38 : slB Try.prog 38 = true := by kernel_rfl
theorem un38 : Try.prog.underlying 38 = some (.slice 9) := by kernel_rfl
theorem el38 : elOf Try.prog 38 = some (9, 1) := by kernel_rfl
theorem ap38 : apOf Try.prog 38 = some (9, 1, 16, [.string ⟨#[]⟩]) := by kernel_rfl
theorem co46 : Program.cellsOf Try.prog 46 = 1 := by kernel_rfl
theorem un46 : Try.prog.underlying 46 = some (.slice 268) := by kernel_rfl
theorem co48 : Program.cellsOf Try.prog 48 = 1 := by kernel_rfl
theorem st48 : strOf Try.prog 48 = some [(46, 0)] := by kernel_rfl
theorem co50 : Program.cellsOf Try.prog 50 = 2 := by kernel_rfl
theorem st50 : strOf Try.prog 50 = some [(9, 0), (9, 1)] := by kernel_rfl
theorem sz62 : szOf Try.prog 62 = some 1 := by kernel_rfl
theorem co62 : Program.cellsOf Try.prog 62 = 1 := by kernel_rfl
theorem ag62 : aggB Try.prog 62 = false := by kernel_rfl
theorem zv62 : wpO.zvOf Try.prog 62 = some [.slice none 0 0] := by kernel_rfl
theorem sb62 : slB Try.prog 62 = true := by kernel_rfl
theorem un62 : Try.prog.underlying 62 = some (.slice 64) := by kernel_rfl
theorem el62 : elOf Try.prog 62 = some (64, 3) := by kernel_rfl
theorem ap62 : apOf Try.prog 62 = some (64, 3, 56, [.int .i64 0, .slice none 0 0, .slice none 0 0]) := by kernel_rfl
theorem sz64 : szOf Try.prog 64 = some 3 := by kernel_rfl
theorem co64 : Program.cellsOf Try.prog 64 = 3 := by kernel_rfl
theorem by64 : Program.bytesOf Try.prog 64 = 56 := by kernel_rfl
theorem ag64 : aggB Try.prog 64 = true := by kernel_rfl
theorem zv64 : wpO.zvOf Try.prog 64 = some [.int .i64 0, .slice none 0 0, .slice none 0 0] := by kernel_rfl
theorem st64 : strOf Try.prog 64 = some [(3, 0), (38, 1), (62, 2)] := by kernel_rfl
theorem fl64_0 : fldOf Try.prog 64 0 = some (0, 3) := by kernel_rfl
theorem fl64_1 : fldOf Try.prog 64 1 = some (1, 38) := by kernel_rfl
theorem fl64_2 : fldOf Try.prog 64 2 = some (2, 62) := by kernel_rfl
theorem pl64 : plOf Try.prog 64 = some ([(0, 1), (1, 1), (2, 1)], [.int .i64 0, .slice none 0 0, .slice none 0 0]) := by kernel_rfl
theorem sz65 : szOf Try.prog 65 = some 1 := by kernel_rfl
theorem co65 : Program.cellsOf Try.prog 65 = 1 := by kernel_rfl
theorem ag65 : aggB Try.prog 65 = false := by kernel_rfl
theorem zv65 : wpO.zvOf Try.prog 65 = some [.slice none 0 0] := by kernel_rfl
theorem sb65 : slB Try.prog 65 = true := by kernel_rfl
theorem un65 : Try.prog.underlying 65 = some (.slice 67) := by kernel_rfl
theorem el65 : elOf Try.prog 65 = some (67, 8) := by kernel_rfl
theorem ap65 : apOf Try.prog 65 = some (67, 8, 136, [.int .i64 0, .string ⟨#[]⟩, .int .i64 0, .int .i64 0, .slice none 0 0, .slice none 0 0, .slice none 0 0, .slice none 0 0]) := by kernel_rfl
theorem sz67 : szOf Try.prog 67 = some 8 := by kernel_rfl
theorem co67 : Program.cellsOf Try.prog 67 = 8 := by kernel_rfl
theorem by67 : Program.bytesOf Try.prog 67 = 136 := by kernel_rfl
theorem ag67 : aggB Try.prog 67 = true := by kernel_rfl
theorem zv67 : wpO.zvOf Try.prog 67 = some [.int .i64 0, .string ⟨#[]⟩, .int .i64 0, .int .i64 0, .slice none 0 0, .slice none 0 0, .slice none 0 0, .slice none 0 0] := by kernel_rfl
theorem st67 : strOf Try.prog 67 = some [(3, 0), (9, 1), (3, 2), (64, 3), (38, 6), (65, 7)] := by kernel_rfl
theorem fl67_0 : fldOf Try.prog 67 0 = some (0, 3) := by kernel_rfl
theorem fl67_1 : fldOf Try.prog 67 1 = some (1, 9) := by kernel_rfl
theorem fl67_2 : fldOf Try.prog 67 2 = some (2, 3) := by kernel_rfl
theorem fl67_3 : fldOf Try.prog 67 3 = some (3, 64) := by kernel_rfl
theorem fl67_4 : fldOf Try.prog 67 4 = some (6, 38) := by kernel_rfl
theorem fl67_5 : fldOf Try.prog 67 5 = some (7, 65) := by kernel_rfl
theorem pl67 : plOf Try.prog 67 = some ([(0, 1), (1, 1), (2, 1), (3, 3), (6, 1), (7, 1)], [.int .i64 0, .string ⟨#[]⟩, .int .i64 0, .int .i64 0, .slice none 0 0, .slice none 0 0, .slice none 0 0, .slice none 0 0]) := by kernel_rfl
theorem co69 : Program.cellsOf Try.prog 69 = 11 := by kernel_rfl
theorem st69 : strOf Try.prog 69 = some [(9, 0), (67, 1), (38, 9), (9, 10)] := by kernel_rfl
theorem sz72 : szOf Try.prog 72 = some 1 := by kernel_rfl
theorem ag72 : aggB Try.prog 72 = false := by kernel_rfl
theorem zv72 : wpO.zvOf Try.prog 72 = some [.slice none 0 0] := by kernel_rfl
theorem sb72 : slB Try.prog 72 = true := by kernel_rfl
theorem un72 : Try.prog.underlying 72 = some (.slice 74) := by kernel_rfl
theorem el72 : elOf Try.prog 72 = some (74, 3) := by kernel_rfl
theorem ap72 : apOf Try.prog 72 = some (74, 3, 56, [.int .i64 0, .slice none 0 0, .slice none 0 0]) := by kernel_rfl
theorem sz74 : szOf Try.prog 74 = some 3 := by kernel_rfl
theorem ag74 : aggB Try.prog 74 = true := by kernel_rfl
theorem zv74 : wpO.zvOf Try.prog 74 = some [.int .i64 0, .slice none 0 0, .slice none 0 0] := by kernel_rfl
theorem fl74_0 : fldOf Try.prog 74 0 = some (0, 3) := by kernel_rfl
theorem fl74_1 : fldOf Try.prog 74 1 = some (1, 38) := by kernel_rfl
theorem fl74_2 : fldOf Try.prog 74 2 = some (2, 72) := by kernel_rfl
theorem pl74 : plOf Try.prog 74 = some ([(0, 1), (1, 1), (2, 1)], [.int .i64 0, .slice none 0 0, .slice none 0 0]) := by kernel_rfl
theorem sz75 : szOf Try.prog 75 = some 1 := by kernel_rfl
theorem ag75 : aggB Try.prog 75 = false := by kernel_rfl
theorem zv75 : wpO.zvOf Try.prog 75 = some [.slice none 0 0] := by kernel_rfl
theorem sb75 : slB Try.prog 75 = true := by kernel_rfl
theorem un75 : Try.prog.underlying 75 = some (.slice 77) := by kernel_rfl
theorem el75 : elOf Try.prog 75 = some (77, 8) := by kernel_rfl
theorem ap75 : apOf Try.prog 75 = some (77, 8, 136, [.int .i64 0, .string ⟨#[]⟩, .int .i64 0, .int .i64 0, .slice none 0 0, .slice none 0 0, .slice none 0 0, .slice none 0 0]) := by kernel_rfl
theorem sz77 : szOf Try.prog 77 = some 8 := by kernel_rfl
theorem ag77 : aggB Try.prog 77 = true := by kernel_rfl
theorem zv77 : wpO.zvOf Try.prog 77 = some [.int .i64 0, .string ⟨#[]⟩, .int .i64 0, .int .i64 0, .slice none 0 0, .slice none 0 0, .slice none 0 0, .slice none 0 0] := by kernel_rfl
theorem fl77_0 : fldOf Try.prog 77 0 = some (0, 3) := by kernel_rfl
theorem fl77_1 : fldOf Try.prog 77 1 = some (1, 9) := by kernel_rfl
theorem fl77_2 : fldOf Try.prog 77 2 = some (2, 3) := by kernel_rfl
theorem fl77_3 : fldOf Try.prog 77 3 = some (3, 74) := by kernel_rfl
theorem fl77_4 : fldOf Try.prog 77 4 = some (6, 38) := by kernel_rfl
theorem fl77_5 : fldOf Try.prog 77 5 = some (7, 75) := by kernel_rfl
theorem pl77 : plOf Try.prog 77 = some ([(0, 1), (1, 1), (2, 1), (3, 3), (6, 1), (7, 1)], [.int .i64 0, .string ⟨#[]⟩, .int .i64 0, .int .i64 0, .slice none 0 0, .slice none 0 0, .slice none 0 0, .slice none 0 0]) := by kernel_rfl
theorem sz88 : szOf Try.prog 88 = some 1 := by kernel_rfl
theorem co88 : Program.cellsOf Try.prog 88 = 1 := by kernel_rfl
theorem ag88 : aggB Try.prog 88 = false := by kernel_rfl
theorem zv88 : wpO.zvOf Try.prog 88 = some [.slice none 0 0] := by kernel_rfl
theorem sb88 : slB Try.prog 88 = true := by kernel_rfl
theorem un88 : Try.prog.underlying 88 = some (.slice 283) := by kernel_rfl
theorem el88 : elOf Try.prog 88 = some (283, 13) := by kernel_rfl
theorem ap88 : apOf Try.prog 88 = some (283, 13, 208, [.int .i64 0, .int .i64 0, .int .i64 0, .slice none 0 0, .int .i64 0, .string ⟨#[]⟩, .int .i64 0, .int .i64 0, .slice none 0 0, .slice none 0 0, .slice none 0 0, .slice none 0 0, .slice none 0 0]) := by kernel_rfl
theorem sz90 : szOf Try.prog 90 = some 2 := by kernel_rfl
theorem co90 : Program.cellsOf Try.prog 90 = 2 := by kernel_rfl
theorem ag90 : aggB Try.prog 90 = true := by kernel_rfl
theorem zv90 : wpO.zvOf Try.prog 90 = some [.slice none 0 0, .slice none 0 0] := by kernel_rfl
theorem st90 : strOf Try.prog 90 = some [(38, 0), (88, 1)] := by kernel_rfl
theorem fl90_0 : fldOf Try.prog 90 0 = some (0, 38) := by kernel_rfl
theorem fl90_1 : fldOf Try.prog 90 1 = some (1, 88) := by kernel_rfl
theorem pl90 : plOf Try.prog 90 = some ([(0, 1), (1, 1)], [.slice none 0 0, .slice none 0 0]) := by kernel_rfl
theorem sz93 : szOf Try.prog 93 = some 1 := by kernel_rfl
theorem ag93 : aggB Try.prog 93 = false := by kernel_rfl
theorem zv93 : wpO.zvOf Try.prog 93 = some [.slice none 0 0] := by kernel_rfl
theorem sb93 : slB Try.prog 93 = true := by kernel_rfl
theorem un93 : Try.prog.underlying 93 = some (.slice 197) := by kernel_rfl
theorem el93 : elOf Try.prog 93 = some (197, 13) := by kernel_rfl
theorem ap93 : apOf Try.prog 93 = some (197, 13, 208, [.int .i64 0, .int .i64 0, .int .i64 0, .slice none 0 0, .int .i64 0, .string ⟨#[]⟩, .int .i64 0, .int .i64 0, .slice none 0 0, .slice none 0 0, .slice none 0 0, .slice none 0 0, .slice none 0 0]) := by kernel_rfl
theorem sz95 : szOf Try.prog 95 = some 2 := by kernel_rfl
theorem ag95 : aggB Try.prog 95 = true := by kernel_rfl
theorem zv95 : wpO.zvOf Try.prog 95 = some [.slice none 0 0, .slice none 0 0] := by kernel_rfl
theorem fl95_0 : fldOf Try.prog 95 0 = some (0, 38) := by kernel_rfl
theorem fl95_1 : fldOf Try.prog 95 1 = some (1, 93) := by kernel_rfl
theorem pl95 : plOf Try.prog 95 = some ([(0, 1), (1, 1)], [.slice none 0 0, .slice none 0 0]) := by kernel_rfl
theorem co121 : Program.cellsOf Try.prog 121 = 1 := by kernel_rfl
theorem un121 : Try.prog.underlying 121 = some (.slice 123) := by kernel_rfl
theorem co123 : Program.cellsOf Try.prog 123 = 13 := by kernel_rfl
theorem by123 : Program.bytesOf Try.prog 123 = 224 := by kernel_rfl
theorem st123 : strOf Try.prog 123 = some [(3, 0), (9, 1), (9, 2), (67, 3), (65, 11), (121, 12)] := by kernel_rfl
theorem co132 : Program.cellsOf Try.prog 132 = 1 := by kernel_rfl
theorem un132 : Try.prog.underlying 132 = some (.slice 310) := by kernel_rfl
theorem co134 : Program.cellsOf Try.prog 134 = 1 := by kernel_rfl
theorem st134 : strOf Try.prog 134 = some [(132, 0)] := by kernel_rfl
theorem co141 : Program.cellsOf Try.prog 141 = 18 := by kernel_rfl
theorem st141 : strOf Try.prog 141 = some [(134, 0), (48, 1), (67, 2), (67, 10)] := by kernel_rfl
theorem co181 : Program.cellsOf Try.prog 181 = 1 := by kernel_rfl
theorem un181 : Try.prog.underlying 181 = some (.slice 183) := by kernel_rfl
theorem co183 : Program.cellsOf Try.prog 183 = 4 := by kernel_rfl
theorem by183 : Program.bytesOf Try.prog 183 = 64 := by kernel_rfl
theorem st183 : strOf Try.prog 183 = some [(3, 0), (3, 1), (38, 2), (181, 3)] := by kernel_rfl
theorem co185 : Program.cellsOf Try.prog 185 = 5 := by kernel_rfl
theorem st185 : strOf Try.prog 185 = some [(183, 0), (37, 4)] := by kernel_rfl
theorem sz194 : szOf Try.prog 194 = some 1 := by kernel_rfl
theorem ag194 : aggB Try.prog 194 = false := by kernel_rfl
theorem zv194 : wpO.zvOf Try.prog 194 = some [.nilFunc] := by kernel_rfl
theorem sz195 : szOf Try.prog 195 = some 1 := by kernel_rfl
theorem ag195 : aggB Try.prog 195 = false := by kernel_rfl
theorem zv195 : wpO.zvOf Try.prog 195 = some [.slice none 0 0] := by kernel_rfl
theorem sb195 : slB Try.prog 195 = true := by kernel_rfl
theorem un195 : Try.prog.underlying 195 = some (.slice 365) := by kernel_rfl
theorem el195 : elOf Try.prog 195 = some (365, 2) := by kernel_rfl
theorem ap195 : apOf Try.prog 195 = some (365, 2, 32, [.string ⟨#[]⟩, .string ⟨#[]⟩]) := by kernel_rfl
theorem sz197 : szOf Try.prog 197 = some 13 := by kernel_rfl
theorem ag197 : aggB Try.prog 197 = true := by kernel_rfl
theorem zv197 : wpO.zvOf Try.prog 197 = some [.int .i64 0, .int .i64 0, .int .i64 0, .slice none 0 0, .int .i64 0, .string ⟨#[]⟩, .int .i64 0, .int .i64 0, .slice none 0 0, .slice none 0 0, .slice none 0 0, .slice none 0 0, .slice none 0 0] := by kernel_rfl
theorem fl197_0 : fldOf Try.prog 197 0 = some (0, 3) := by kernel_rfl
theorem fl197_1 : fldOf Try.prog 197 1 = some (1, 3) := by kernel_rfl
theorem fl197_2 : fldOf Try.prog 197 2 = some (2, 3) := by kernel_rfl
theorem fl197_3 : fldOf Try.prog 197 3 = some (3, 195) := by kernel_rfl
theorem fl197_4 : fldOf Try.prog 197 4 = some (4, 77) := by kernel_rfl
theorem fl197_5 : fldOf Try.prog 197 5 = some (12, 75) := by kernel_rfl
theorem pl197 : plOf Try.prog 197 = some ([(0, 1), (1, 1), (2, 1), (3, 1), (4, 8), (12, 1)], [.int .i64 0, .int .i64 0, .int .i64 0, .slice none 0 0, .int .i64 0, .string ⟨#[]⟩, .int .i64 0, .int .i64 0, .slice none 0 0, .slice none 0 0, .slice none 0 0, .slice none 0 0, .slice none 0 0]) := by kernel_rfl
theorem sz199 : szOf Try.prog 199 = some 1 := by kernel_rfl
theorem ag199 : aggB Try.prog 199 = false := by kernel_rfl
theorem zv199 : wpO.zvOf Try.prog 199 = some [.pointer none] := by kernel_rfl
theorem un199 : Try.prog.underlying 199 = some (.pointer 197) := by kernel_rfl
theorem sz201 : szOf Try.prog 201 = some 1 := by kernel_rfl
theorem ag201 : aggB Try.prog 201 = false := by kernel_rfl
theorem zv201 : wpO.zvOf Try.prog 201 = some [.pointer none] := by kernel_rfl
theorem un201 : Try.prog.underlying 201 = some (.pointer 77) := by kernel_rfl
theorem co261 : Program.cellsOf Try.prog 261 = 2 := by kernel_rfl
theorem by261 : Program.bytesOf Try.prog 261 = 32 := by kernel_rfl
theorem st261 : strOf Try.prog 261 = some [(3, 0), (38, 1)] := by kernel_rfl
theorem co268 : Program.cellsOf Try.prog 268 = 2 := by kernel_rfl
theorem by268 : Program.bytesOf Try.prog 268 = 40 := by kernel_rfl
theorem st268 : strOf Try.prog 268 = some [(9, 0), (181, 1)] := by kernel_rfl
theorem sz281 : szOf Try.prog 281 = some 1 := by kernel_rfl
theorem co281 : Program.cellsOf Try.prog 281 = 1 := by kernel_rfl
theorem ag281 : aggB Try.prog 281 = false := by kernel_rfl
theorem zv281 : wpO.zvOf Try.prog 281 = some [.slice none 0 0] := by kernel_rfl
theorem sb281 : slB Try.prog 281 = true := by kernel_rfl
theorem un281 : Try.prog.underlying 281 = some (.slice 364) := by kernel_rfl
theorem el281 : elOf Try.prog 281 = some (364, 2) := by kernel_rfl
theorem ap281 : apOf Try.prog 281 = some (364, 2, 32, [.string ⟨#[]⟩, .string ⟨#[]⟩]) := by kernel_rfl
theorem sz283 : szOf Try.prog 283 = some 13 := by kernel_rfl
theorem co283 : Program.cellsOf Try.prog 283 = 13 := by kernel_rfl
theorem by283 : Program.bytesOf Try.prog 283 = 208 := by kernel_rfl
theorem ag283 : aggB Try.prog 283 = true := by kernel_rfl
theorem zv283 : wpO.zvOf Try.prog 283 = some [.int .i64 0, .int .i64 0, .int .i64 0, .slice none 0 0, .int .i64 0, .string ⟨#[]⟩, .int .i64 0, .int .i64 0, .slice none 0 0, .slice none 0 0, .slice none 0 0, .slice none 0 0, .slice none 0 0] := by kernel_rfl
theorem st283 : strOf Try.prog 283 = some [(3, 0), (3, 1), (3, 2), (281, 3), (67, 4), (65, 12)] := by kernel_rfl
theorem fl283_0 : fldOf Try.prog 283 0 = some (0, 3) := by kernel_rfl
theorem fl283_1 : fldOf Try.prog 283 1 = some (1, 3) := by kernel_rfl
theorem fl283_2 : fldOf Try.prog 283 2 = some (2, 3) := by kernel_rfl
theorem fl283_3 : fldOf Try.prog 283 3 = some (3, 281) := by kernel_rfl
theorem fl283_4 : fldOf Try.prog 283 4 = some (4, 67) := by kernel_rfl
theorem fl283_5 : fldOf Try.prog 283 5 = some (12, 65) := by kernel_rfl
theorem pl283 : plOf Try.prog 283 = some ([(0, 1), (1, 1), (2, 1), (3, 1), (4, 8), (12, 1)], [.int .i64 0, .int .i64 0, .int .i64 0, .slice none 0 0, .int .i64 0, .string ⟨#[]⟩, .int .i64 0, .int .i64 0, .slice none 0 0, .slice none 0 0, .slice none 0 0, .slice none 0 0, .slice none 0 0]) := by kernel_rfl
theorem co310 : Program.cellsOf Try.prog 310 = 4 := by kernel_rfl
theorem by310 : Program.bytesOf Try.prog 310 = 72 := by kernel_rfl
theorem st310 : strOf Try.prog 310 = some [(9, 0), (64, 1)] := by kernel_rfl
theorem sz364 : szOf Try.prog 364 = some 2 := by kernel_rfl
theorem co364 : Program.cellsOf Try.prog 364 = 2 := by kernel_rfl
theorem by364 : Program.bytesOf Try.prog 364 = 32 := by kernel_rfl
theorem ag364 : aggB Try.prog 364 = true := by kernel_rfl
theorem zv364 : wpO.zvOf Try.prog 364 = some [.string ⟨#[]⟩, .string ⟨#[]⟩] := by kernel_rfl
theorem st364 : strOf Try.prog 364 = some [(9, 0), (9, 1)] := by kernel_rfl
theorem fl364_0 : fldOf Try.prog 364 0 = some (0, 9) := by kernel_rfl
theorem fl364_1 : fldOf Try.prog 364 1 = some (1, 9) := by kernel_rfl
theorem pl364 : plOf Try.prog 364 = some ([(0, 1), (1, 1)], [.string ⟨#[]⟩, .string ⟨#[]⟩]) := by kernel_rfl
theorem sz365 : szOf Try.prog 365 = some 2 := by kernel_rfl
theorem ag365 : aggB Try.prog 365 = true := by kernel_rfl
theorem zv365 : wpO.zvOf Try.prog 365 = some [.string ⟨#[]⟩, .string ⟨#[]⟩] := by kernel_rfl
theorem fl365_0 : fldOf Try.prog 365 0 = some (0, 9) := by kernel_rfl
theorem fl365_1 : fldOf Try.prog 365 1 = some (1, 9) := by kernel_rfl
theorem pl365 : plOf Try.prog 365 = some ([(0, 1), (1, 1)], [.string ⟨#[]⟩, .string ⟨#[]⟩]) := by kernel_rfl
theorem okf33 : fnOk Try.prog 33 = true := by kernel_rfl
theorem okf36 : fnOk Try.prog 36 = true := by kernel_rfl
theorem okf38 : fnOk Try.prog 38 = true := by kernel_rfl
theorem okf56 : fnOk Try.prog 56 = true := by kernel_rfl
theorem okf57 : fnOk Try.prog 57 = true := by kernel_rfl
theorem okf58 : fnOk Try.prog 58 = true := by kernel_rfl
theorem okf59 : fnOk Try.prog 59 = true := by kernel_rfl
theorem okf60 : fnOk Try.prog 60 = true := by kernel_rfl
theorem okf121 : fnOk Try.prog 121 = true := by kernel_rfl
theorem okf124 : fnOk Try.prog 124 = true := by kernel_rfl
theorem okf127 : fnOk Try.prog 127 = true := by kernel_rfl
theorem okf137 : fnOk Try.prog 137 = true := by kernel_rfl
theorem okf138 : fnOk Try.prog 138 = true := by kernel_rfl
theorem okf139 : fnOk Try.prog 139 = true := by kernel_rfl
theorem okf140 : fnOk Try.prog 140 = true := by kernel_rfl
theorem okf141 : fnOk Try.prog 141 = true := by kernel_rfl
theorem okf142 : fnOk Try.prog 142 = true := by kernel_rfl
theorem okf143 : fnOk Try.prog 143 = true := by kernel_rfl
theorem okf164 : fnOk Try.prog 164 = true := by kernel_rfl
theorem okf169 : fnOk Try.prog 169 = true := by kernel_rfl
theorem okf172 : fnOk Try.prog 172 = true := by kernel_rfl
theorem okf209 : fnOk Try.prog 209 = true := by kernel_rfl
theorem okf211 : fnOk Try.prog 211 = true := by kernel_rfl
theorem okf214 : fnOk Try.prog 214 = true := by kernel_rfl
theorem okf222 : fnOk Try.prog 222 = true := by kernel_rfl
theorem okf223 : fnOk Try.prog 223 = true := by kernel_rfl
theorem okf224 : fnOk Try.prog 224 = true := by kernel_rfl
theorem okf225 : fnOk Try.prog 225 = true := by kernel_rfl
theorem okf269 : fnOk Try.prog 269 = true := by kernel_rfl
theorem okf270 : fnOk Try.prog 270 = true := by kernel_rfl
theorem okf272 : fnOk Try.prog 272 = true := by kernel_rfl
theorem okf275 : fnOk Try.prog 275 = true := by kernel_rfl
theorem okf276 : fnOk Try.prog 276 = true := by kernel_rfl
theorem okf277 : fnOk Try.prog 277 = true := by kernel_rfl
theorem okf310 : fnOk Try.prog 310 = true := by kernel_rfl
theorem okf311 : fnOk Try.prog 311 = true := by kernel_rfl
theorem okf312 : fnOk Try.prog 312 = true := by kernel_rfl
theorem mixed : Try.prog.follows .mixedOrders = true := by kernel_rfl
end Go.VC.F

