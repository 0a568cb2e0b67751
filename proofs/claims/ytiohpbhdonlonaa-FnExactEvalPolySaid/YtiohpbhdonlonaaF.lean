/- Facts of the program: sizes, zero values and fields of its types. -/
import Derived.Test.YtiohpbhdonlonaaProg
import Derived.Test.YtiohpbhdonlonaaW18
import Derived.KernelRfl
namespace Go.VC.F
open Go Go.VC
open Go.Proofs
theorem sz3 : szOf Try.prog 3 = some 1 := by kernel_rfl
theorem co3 : Program.cellsOf Try.prog 3 = 1 := by kernel_rfl
theorem ag3 : aggB Try.prog 3 = false := by kernel_rfl
theorem zv3 : wpO.zvOf Try.prog 3 = some [.int .i64 0] := by kernel_rfl
theorem un3 : Try.prog.underlying 3 = some (.int .i64) := by kernel_rfl
theorem sz4 : szOf Try.prog 4 = some 1 := by kernel_rfl
theorem ag4 : aggB Try.prog 4 = false := by kernel_rfl
theorem zv4 : wpO.zvOf Try.prog 4 = some [.bool false] := by kernel_rfl
theorem un4 : Try.prog.underlying 4 = some .bool := by kernel_rfl
theorem sz5 : szOf Try.prog 5 = some 1 := by kernel_rfl
theorem ag5 : aggB Try.prog 5 = false := by kernel_rfl
theorem zv5 : wpO.zvOf Try.prog 5 = some [.int .u8 0] := by kernel_rfl
theorem un5 : Try.prog.underlying 5 = some (.int .u8) := by kernel_rfl
theorem sz9 : szOf Try.prog 9 = some 1 := by kernel_rfl
theorem co9 : Program.cellsOf Try.prog 9 = 1 := by kernel_rfl
theorem by9 : Program.bytesOf Try.prog 9 = 16 := by kernel_rfl
theorem ag9 : aggB Try.prog 9 = false := by kernel_rfl
theorem zv9 : wpO.zvOf Try.prog 9 = some [.string ⟨#[]⟩] := by kernel_rfl
theorem un9 : Try.prog.underlying 9 = some .string := by kernel_rfl
theorem sz22 : szOf Try.prog 22 = some 1 := by kernel_rfl
theorem ag22 : aggB Try.prog 22 = false := by kernel_rfl
theorem zv22 : wpO.zvOf Try.prog 22 = some [.slice none 0 0] := by kernel_rfl
theorem sb22 : slB Try.prog 22 = true := by kernel_rfl
theorem un22 : Try.prog.underlying 22 = some (.slice 149) := by kernel_rfl
theorem el22 : elOf Try.prog 22 = some (149, 2) := by kernel_rfl
theorem ap22 : apOf Try.prog 22 = some (149, 2, 32, [.int .i64 0, .slice none 0 0]) := by kernel_rfl
theorem sz24 : szOf Try.prog 24 = some 1 := by kernel_rfl
theorem ag24 : aggB Try.prog 24 = true := by kernel_rfl
theorem zv24 : wpO.zvOf Try.prog 24 = some [.slice none 0 0] := by kernel_rfl
theorem fl24_0 : fldOf Try.prog 24 0 = some (0, 22) := by kernel_rfl
theorem pl24 : plOf Try.prog 24 = some ([(0, 1)], [.slice none 0 0]) := by kernel_rfl
theorem sz28 : szOf Try.prog 28 = some 1 := by kernel_rfl
theorem ag28 : aggB Try.prog 28 = false := by kernel_rfl
theorem zv28 : wpO.zvOf Try.prog 28 = some [.nilFunc] := by kernel_rfl
theorem sz35 : szOf Try.prog 35 = some 1 := by kernel_rfl
theorem co35 : Program.cellsOf Try.prog 35 = 1 := by kernel_rfl
theorem ag35 : aggB Try.prog 35 = false := by kernel_rfl
theorem zv35 : wpO.zvOf Try.prog 35 = some [.slice none 0 0] := by kernel_rfl
theorem sb35 : slB Try.prog 35 = true := by kernel_rfl
theorem un35 : Try.prog.underlying 35 = some (.slice 261) := by kernel_rfl
theorem el35 : elOf Try.prog 35 = some (261, 2) := by kernel_rfl
theorem ap35 : apOf Try.prog 35 = some (261, 2, 32, [.int .i64 0, .slice none 0 0]) := by kernel_rfl
theorem sz37 : szOf Try.prog 37 = some 1 := by kernel_rfl
theorem co37 : Program.cellsOf Try.prog 37 = 1 := by kernel_rfl
theorem ag37 : aggB Try.prog 37 = true := by kernel_rfl
theorem zv37 : wpO.zvOf Try.prog 37 = some [.slice none 0 0] := by kernel_rfl
theorem st37 : strOf Try.prog 37 = some [(35, 0)] := by kernel_rfl
theorem fl37_0 : fldOf Try.prog 37 0 = some (0, 35) := by kernel_rfl
theorem pl37 : plOf Try.prog 37 = some ([(0, 1)], [.slice none 0 0]) := by kernel_rfl
theorem sz38 : szOf Try.prog 38 = some 1 := by kernel_rfl
theorem co38 : Program.cellsOf Try.prog 38 = 1 := by kernel_rfl
theorem ag38 : aggB Try.prog 38 = false := by kernel_rfl
theorem zv38 : wpO.zvOf Try.prog 38 = some [.slice none 0 0] := by kernel_rfl
theorem sb38 : slB Try.prog 38 = true := by kernel_rfl
theorem un38 : Try.prog.underlying 38 = some (.slice 9) := by kernel_rfl
theorem el38 : elOf Try.prog 38 = some (9, 1) := by kernel_rfl
theorem ap38 : apOf Try.prog 38 = some (9, 1, 16, [.string ⟨#[]⟩]) := by kernel_rfl
theorem co46 : Program.cellsOf Try.prog 46 = 1 := by kernel_rfl
theorem un46 : Try.prog.underlying 46 = some (.slice 268) := by kernel_rfl
theorem co48 : Program.cellsOf Try.prog 48 = 1 := by kernel_rfl
theorem st48 : strOf Try.prog 48 = some [(46, 0)] := by kernel_rfl
theorem co50 : Program.cellsOf Try.prog 50 = 2 := by kernel_rfl
theorem st50 : strOf Try.prog 50 = some [(9, 0), (9, 1)] := by kernel_rfl
theorem co62 : Program.cellsOf Try.prog 62 = 1 := by kernel_rfl
theorem un62 : Try.prog.underlying 62 = some (.slice 64) := by kernel_rfl
theorem co64 : Program.cellsOf Try.prog 64 = 3 := by kernel_rfl
theorem by64 : Program.bytesOf Try.prog 64 = 56 := by kernel_rfl
theorem st64 : strOf Try.prog 64 = some [(3, 0), (38, 1), (62, 2)] := by kernel_rfl
theorem co65 : Program.cellsOf Try.prog 65 = 1 := by kernel_rfl
theorem un65 : Try.prog.underlying 65 = some (.slice 67) := by kernel_rfl
theorem co67 : Program.cellsOf Try.prog 67 = 8 := by kernel_rfl
theorem by67 : Program.bytesOf Try.prog 67 = 136 := by kernel_rfl
theorem st67 : strOf Try.prog 67 = some [(3, 0), (9, 1), (3, 2), (64, 3), (38, 6), (65, 7)] := by kernel_rfl
theorem co69 : Program.cellsOf Try.prog 69 = 11 := by kernel_rfl
theorem st69 : strOf Try.prog 69 = some [(9, 0), (67, 1), (38, 9), (9, 10)] := by kernel_rfl
theorem co121 : Program.cellsOf Try.prog 121 = 1 := by kernel_rfl
theorem un121 : Try.prog.underlying 121 = some (.slice 123) := by kernel_rfl
theorem co123 : Program.cellsOf Try.prog 123 = 13 := by kernel_rfl
theorem by123 : Program.bytesOf Try.prog 123 = 224 := by kernel_rfl
theorem st123 : strOf Try.prog 123 = some [(3, 0), (9, 1), (9, 2), (67, 3), (65, 11), (121, 12)] := by kernel_rfl
theorem co132 : Program.cellsOf Try.prog 132 = 1 := by kernel_rfl
theorem un132 : Try.prog.underlying 132 = some (.slice 310) := by kernel_rfl
theorem co134 : Program.cellsOf Try.prog 134 = 1 := by kernel_rfl
theorem st134 : strOf Try.prog 134 = some [(132, 0)] := by kernel_rfl
theorem co141 : Program.cellsOf Try.prog 141 = 18 := by kernel_rfl
theorem st141 : strOf Try.prog 141 = some [(134, 0), (48, 1), (67, 2), (67, 10)] := by kernel_rfl
theorem sz149 : szOf Try.prog 149 = some 2 := by kernel_rfl
theorem ag149 : aggB Try.prog 149 = true := by kernel_rfl
theorem zv149 : wpO.zvOf Try.prog 149 = some [.int .i64 0, .slice none 0 0] := by kernel_rfl
theorem fl149_0 : fldOf Try.prog 149 0 = some (0, 3) := by kernel_rfl
theorem fl149_1 : fldOf Try.prog 149 1 = some (1, 38) := by kernel_rfl
theorem pl149 : plOf Try.prog 149 = some ([(0, 1), (1, 1)], [.int .i64 0, .slice none 0 0]) := by kernel_rfl
theorem sz153 : szOf Try.prog 153 = some 1 := by kernel_rfl
theorem ag153 : aggB Try.prog 153 = false := by kernel_rfl
theorem zv153 : wpO.zvOf Try.prog 153 = some [.slice none 0 0] := by kernel_rfl
theorem sb153 : slB Try.prog 153 = true := by kernel_rfl
theorem un153 : Try.prog.underlying 153 = some (.slice 3) := by kernel_rfl
theorem el153 : elOf Try.prog 153 = some (3, 1) := by kernel_rfl
theorem ap153 : apOf Try.prog 153 = some (3, 1, 8, [.int .i64 0]) := by kernel_rfl
theorem co181 : Program.cellsOf Try.prog 181 = 1 := by kernel_rfl
theorem un181 : Try.prog.underlying 181 = some (.slice 183) := by kernel_rfl
theorem co183 : Program.cellsOf Try.prog 183 = 4 := by kernel_rfl
theorem by183 : Program.bytesOf Try.prog 183 = 64 := by kernel_rfl
theorem st183 : strOf Try.prog 183 = some [(3, 0), (3, 1), (38, 2), (181, 3)] := by kernel_rfl
theorem co185 : Program.cellsOf Try.prog 185 = 5 := by kernel_rfl
theorem st185 : strOf Try.prog 185 = some [(183, 0), (37, 4)] := by kernel_rfl
theorem sz261 : szOf Try.prog 261 = some 2 := by kernel_rfl
theorem co261 : Program.cellsOf Try.prog 261 = 2 := by kernel_rfl
theorem by261 : Program.bytesOf Try.prog 261 = 32 := by kernel_rfl
theorem ag261 : aggB Try.prog 261 = true := by kernel_rfl
theorem zv261 : wpO.zvOf Try.prog 261 = some [.int .i64 0, .slice none 0 0] := by kernel_rfl
theorem st261 : strOf Try.prog 261 = some [(3, 0), (38, 1)] := by kernel_rfl
theorem fl261_0 : fldOf Try.prog 261 0 = some (0, 3) := by kernel_rfl
theorem fl261_1 : fldOf Try.prog 261 1 = some (1, 38) := by kernel_rfl
theorem pl261 : plOf Try.prog 261 = some ([(0, 1), (1, 1)], [.int .i64 0, .slice none 0 0]) := by kernel_rfl
theorem co268 : Program.cellsOf Try.prog 268 = 2 := by kernel_rfl
theorem by268 : Program.bytesOf Try.prog 268 = 40 := by kernel_rfl
theorem st268 : strOf Try.prog 268 = some [(9, 0), (181, 1)] := by kernel_rfl
theorem co310 : Program.cellsOf Try.prog 310 = 4 := by kernel_rfl
theorem by310 : Program.bytesOf Try.prog 310 = 72 := by kernel_rfl
theorem st310 : strOf Try.prog 310 = some [(9, 0), (64, 1)] := by kernel_rfl
theorem sz341 : szOf Try.prog 341 = some 1 := by kernel_rfl
theorem ag341 : aggB Try.prog 341 = false := by kernel_rfl
theorem zv341 : wpO.zvOf Try.prog 341 = some [.slice none 0 0] := by kernel_rfl
theorem sb341 : slB Try.prog 341 = true := by kernel_rfl
theorem un341 : Try.prog.underlying 341 = some (.slice 5) := by kernel_rfl
theorem el341 : elOf Try.prog 341 = some (5, 1) := by kernel_rfl
theorem ap341 : apOf Try.prog 341 = some (5, 1, 1, [.int .u8 0]) := by kernel_rfl
theorem okf20 : fnOk Try.prog 20 = true := by kernel_rfl
theorem okf21 : fnOk Try.prog 21 = true := by kernel_rfl
theorem okf22 : fnOk Try.prog 22 = true := by kernel_rfl
theorem okf23 : fnOk Try.prog 23 = true := by kernel_rfl
theorem okf24 : fnOk Try.prog 24 = true := by kernel_rfl
theorem okf25 : fnOk Try.prog 25 = true := by kernel_rfl
theorem okf26 : fnOk Try.prog 26 = true := by kernel_rfl
theorem okf32 : fnOk Try.prog 32 = true := by kernel_rfl
theorem okf33 : fnOk Try.prog 33 = true := by kernel_rfl
theorem okf34 : fnOk Try.prog 34 = true := by kernel_rfl
theorem okf35 : fnOk Try.prog 35 = true := by kernel_rfl
theorem okf36 : fnOk Try.prog 36 = true := by kernel_rfl
theorem okf37 : fnOk Try.prog 37 = true := by kernel_rfl
theorem okf38 : fnOk Try.prog 38 = true := by kernel_rfl
theorem okf95 : fnOk Try.prog 95 = true := by kernel_rfl
theorem okf96 : fnOk Try.prog 96 = true := by kernel_rfl
theorem okf97 : fnOk Try.prog 97 = true := by kernel_rfl
theorem okf98 : fnOk Try.prog 98 = true := by kernel_rfl
theorem okf107 : fnOk Try.prog 107 = true := by kernel_rfl
theorem okf108 : fnOk Try.prog 108 = true := by kernel_rfl
theorem okf109 : fnOk Try.prog 109 = true := by kernel_rfl
theorem okf110 : fnOk Try.prog 110 = true := by kernel_rfl
theorem okf111 : fnOk Try.prog 111 = true := by kernel_rfl
theorem okf112 : fnOk Try.prog 112 = true := by kernel_rfl
theorem okf113 : fnOk Try.prog 113 = true := by kernel_rfl
theorem okf114 : fnOk Try.prog 114 = true := by kernel_rfl
theorem okf192 : fnOk Try.prog 192 = true := by kernel_rfl
theorem okf193 : fnOk Try.prog 193 = true := by kernel_rfl
theorem okf194 : fnOk Try.prog 194 = true := by kernel_rfl
theorem okf196 : fnOk Try.prog 196 = true := by kernel_rfl
theorem okf197 : fnOk Try.prog 197 = true := by kernel_rfl
theorem okf198 : fnOk Try.prog 198 = true := by kernel_rfl
theorem okf199 : fnOk Try.prog 199 = true := by kernel_rfl
theorem okf200 : fnOk Try.prog 200 = true := by kernel_rfl
theorem okf201 : fnOk Try.prog 201 = true := by kernel_rfl
theorem okf202 : fnOk Try.prog 202 = true := by kernel_rfl
theorem okf203 : fnOk Try.prog 203 = true := by kernel_rfl
theorem okf216 : fnOk Try.prog 216 = true := by kernel_rfl
theorem okf228 : fnOk Try.prog 228 = true := by kernel_rfl
theorem okf247 : fnOk Try.prog 247 = true := by kernel_rfl
theorem okf263 : fnOk Try.prog 263 = true := by kernel_rfl
theorem okf264 : fnOk Try.prog 264 = true := by kernel_rfl
theorem okf303 : fnOk Try.prog 303 = true := by kernel_rfl
theorem okf308 : fnOk Try.prog 308 = true := by kernel_rfl
theorem okf309 : fnOk Try.prog 309 = true := by kernel_rfl
theorem mixed : Try.prog.follows .mixedOrders = true := by kernel_rfl
end Go.VC.F

