/- Facts of the program: sizes, zero values and fields of its types. -/
import Derived.Test.YtiohpbhdonlonaaProg
import Derived.Test.YtiohpbhdonlonaaW18
import Derived.KernelRfl
namespace Go.VC.F
open Go Go.VC
open Go.Proofs
theorem sz3 : szOf Try.prog 3 = some 1 := by kernel_rfl
theorem co3 : Program.cellsOf Try.prog 3 = 1 := by kernel_rfl
theorem ag3 : aggB Try.prog 3 = false := by kernel_rfl
theorem zv3 : wpO.zvOf Try.prog 3 = some [.int .i64 0] := by kernel_rfl
theorem un3 : Try.prog.underlying 3 = some (.int .i64) := by kernel_rfl
theorem sz4 : szOf Try.prog 4 = some 1 := by kernel_rfl
theorem ag4 : aggB Try.prog 4 = false := by kernel_rfl
theorem zv4 : wpO.zvOf Try.prog 4 = some [.bool false] := by kernel_rfl
theorem un4 : Try.prog.underlying 4 = some .bool := by kernel_rfl
theorem sz9 : szOf Try.prog 9 = some 1 := by kernel_rfl
theorem co9 : Program.cellsOf Try.prog 9 = 1 := by kernel_rfl
theorem by9 : Program.bytesOf Try.prog 9 = 16 := by kernel_rfl
theorem ag9 : aggB Try.prog 9 = false := by kernel_rfl
theorem zv9 : wpO.zvOf Try.prog 9 = some [.string ⟨#[]⟩] := by kernel_rfl
theorem un9 : Try.prog.underlying 9 = some .string := by kernel_rfl
theorem co35 : Program.cellsOf Try.prog 35 = 1 := by kernel_rfl
theorem un35 : Try.prog.underlying 35 = some (.slice 261) := by kernel_rfl
theorem co37 : Program.cellsOf Try.prog 37 = 1 := by kernel_rfl
theorem st37 : strOf Try.prog 37 = some [(35, 0)] := by kernel_rfl
theorem sz38 : szOf Try.prog 38 = some 1 := by kernel_rfl
theorem co38 : Program.cellsOf Try.prog 38 = 1 := by kernel_rfl
theorem ag38 : aggB Try.prog 38 = false := by kernel_rfl
theorem zv38 : wpO.zvOf Try.prog 38 = some [.slice none 0 0] := by kernel_rfl
theorem sb38 : slB Try.prog 38 = true := by kernel_rfl
theorem un38 : Try.prog.underlying 38 = some (.slice 9) := by kernel_rfl
theorem el38 : elOf Try.prog 38 = some (9, 1) := by kernel_rfl
theorem ap38 : apOf Try.prog 38 = some (9, 1, 16, [.string ⟨#[]⟩]) := by kernel_rfl
theorem co46 : Program.cellsOf Try.prog 46 = 1 := by kernel_rfl
theorem un46 : Try.prog.underlying 46 = some (.slice 268) := by kernel_rfl
theorem co48 : Program.cellsOf Try.prog 48 = 1 := by kernel_rfl
theorem st48 : strOf Try.prog 48 = some [(46, 0)] := by kernel_rfl
theorem co50 : Program.cellsOf Try.prog 50 = 2 := by kernel_rfl
theorem st50 : strOf Try.prog 50 = some [(9, 0), (9, 1)] := by kernel_rfl
theorem sz62 : szOf Try.prog 62 = some 1 := by kernel_rfl
theorem co62 : Program.cellsOf Try.prog 62 = 1 := by kernel_rfl
theorem ag62 : aggB Try.prog 62 = false := by kernel_rfl
theorem zv62 : wpO.zvOf Try.prog 62 = some [.slice none 0 0] := by kernel_rfl
theorem sb62 : slB Try.prog 62 = true := by kernel_rfl
theorem un62 : Try.prog.underlying 62 = some (.slice 64) := by kernel_rfl
theorem el62 : elOf Try.prog 62 = some (64, 3) := by kernel_rfl
theorem ap62 : apOf Try.prog 62 = some (64, 3, 56, [.int .i64 0, .slice none 0 0, .slice none 0 0]) := by kernel_rfl
theorem sz64 : szOf Try.prog 64 = some 3 := by kernel_rfl
theorem co64 : Program.cellsOf Try.prog 64 = 3 := by kernel_rfl
theorem by64 : Program.bytesOf Try.prog 64 = 56 := by kernel_rfl
theorem ag64 : aggB Try.prog 64 = true := by kernel_rfl
theorem zv64 : wpO.zvOf Try.prog 64 = some [.int .i64 0, .slice none 0 0, .slice none 0 0] := by kernel_rfl
theorem st64 : strOf Try.prog 64 = some [(3, 0), (38, 1), (62, 2)] := by kernel_rfl
theorem fl64_0 : fldOf Try.prog 64 0 = some (0, 3) := by kernel_rfl
theorem fl64_1 : fldOf Try.prog 64 1 = some (1, 38) := by kernel_rfl
theorem fl64_2 : fldOf Try.prog 64 2 = some (2, 62) := by kernel_rfl
theorem pl64 : plOf Try.prog 64 = some ([(0, 1), (1, 1), (2, 1)], [.int .i64 0, .slice none 0 0, .slice none 0 0]) := by kernel_rfl
theorem sz65 : szOf Try.prog 65 = some 1 := by kernel_rfl
theorem co65 : Program.cellsOf Try.prog 65 = 1 := by kernel_rfl
theorem ag65 : aggB Try.prog 65 = false := by kernel_rfl
theorem zv65 : wpO.zvOf Try.prog 65 = some [.slice none 0 0] := by kernel_rfl
theorem sb65 : slB Try.prog 65 = true := by kernel_rfl
theorem un65 : Try.prog.underlying 65 = some (.slice 67) := by kernel_rfl
theorem el65 : elOf Try.prog 65 = some (67, 8) := by kernel_rfl
theorem ap65 : apOf Try.prog 65 = some (67, 8, 136, [.int .i64 0, .string ⟨#[]⟩, .int .i64 0, .int .i64 0, .slice none 0 0, .slice none 0 0, .slice none 0 0, .slice none 0 0]) := by kernel_rfl
theorem sz67 : szOf Try.prog 67 = some 8 := by kernel_rfl
theorem co67 : Program.cellsOf Try.prog 67 = 8 := by kernel_rfl
theorem by67 : Program.bytesOf Try.prog 67 = 136 := by kernel_rfl
theorem ag67 : aggB Try.prog 67 = true := by kernel_rfl
theorem zv67 : wpO.zvOf Try.prog 67 = some [.int .i64 0, .string ⟨#[]⟩, .int .i64 0, .int .i64 0, .slice none 0 0, .slice none 0 0, .slice none 0 0, .slice none 0 0] := by kernel_rfl
theorem st67 : strOf Try.prog 67 = some [(3, 0), (9, 1), (3, 2), (64, 3), (38, 6), (65, 7)] := by kernel_rfl
theorem fl67_0 : fldOf Try.prog 67 0 = some (0, 3) := by kernel_rfl
theorem fl67_1 : fldOf Try.prog 67 1 = some (1, 9) := by kernel_rfl
theorem fl67_2 : fldOf Try.prog 67 2 = some (2, 3) := by kernel_rfl
theorem fl67_3 : fldOf Try.prog 67 3 = some (3, 64) := by kernel_rfl
theorem fl67_4 : fldOf Try.prog 67 4 = some (6, 38) := by kernel_rfl
theorem fl67_5 : fldOf Try.prog 67 5 = some (7, 65) := by kernel_rfl
theorem pl67 : plOf Try.prog 67 = some ([(0, 1), (1, 1), (2, 1), (3, 3), (6, 1), (7, 1)], [.int .i64 0, .string ⟨#[]⟩, .int .i64 0, .int .i64 0, .slice none 0 0, .slice none 0 0, .slice none 0 0, .slice none 0 0]) := by kernel_rfl
theorem co69 : Program.cellsOf Try.prog 69 = 11 := by kernel_rfl
theorem st69 : strOf Try.prog 69 = some [(9, 0), (67, 1), (38, 9), (9, 10)] := by kernel_rfl
theorem sz72 : szOf Try.prog 72 = some 1 := by kernel_rfl
theorem ag72 : aggB Try.prog 72 = false := by kernel_rfl
theorem zv72 : wpO.zvOf Try.prog 72 = some [.slice none 0 0] := by kernel_rfl
theorem sb72 : slB Try.prog 72 = true := by kernel_rfl
theorem un72 : Try.prog.underlying 72 = some (.slice 74) := by kernel_rfl
theorem el72 : elOf Try.prog 72 = some (74, 3) := by kernel_rfl
theorem ap72 : apOf Try.prog 72 = some (74, 3, 56, [.int .i64 0, .slice none 0 0, .slice none 0 0]) := by kernel_rfl
theorem sz74 : szOf Try.prog 74 = some 3 := by kernel_rfl
theorem ag74 : aggB Try.prog 74 = true := by kernel_rfl
theorem zv74 : wpO.zvOf Try.prog 74 = some [.int .i64 0, .slice none 0 0, .slice none 0 0] := by kernel_rfl
theorem fl74_0 : fldOf Try.prog 74 0 = some (0, 3) := by kernel_rfl
theorem fl74_1 : fldOf Try.prog 74 1 = some (1, 38) := by kernel_rfl
theorem fl74_2 : fldOf Try.prog 74 2 = some (2, 72) := by kernel_rfl
theorem pl74 : plOf Try.prog 74 = some ([(0, 1), (1, 1), (2, 1)], [.int .i64 0, .slice none 0 0, .slice none 0 0]) := by kernel_rfl
theorem sz75 : szOf Try.prog 75 = some 1 := by kernel_rfl
theorem ag75 : aggB Try.prog 75 = false := by kernel_rfl
theorem zv75 : wpO.zvOf Try.prog 75 = some [.slice none 0 0] := by kernel_rfl
theorem sb75 : slB Try.prog 75 = true := by kernel_rfl
theorem un75 : Try.prog.underlying 75 = some (.slice 77) := by kernel_rfl
theorem el75 : elOf Try.prog 75 = some (77, 8) := by kernel_rfl
theorem ap75 : apOf Try.prog 75 = some (77, 8, 136, [.int .i64 0, .string ⟨#[]⟩, .int .i64 0, .int .i64 0, .slice none 0 0, .slice none 0 0, .slice none 0 0, .slice none 0 0]) := by kernel_rfl
theorem sz77 : szOf Try.prog 77 = some 8 := by kernel_rfl
theorem ag77 : aggB Try.prog 77 = true := by kernel_rfl
theorem zv77 : wpO.zvOf Try.prog 77 = some [.int .i64 0, .string ⟨#[]⟩, .int .i64 0, .int .i64 0, .slice none 0 0, .slice none 0 0, .slice none 0 0, .slice none 0 0] := by kernel_rfl
theorem fl77_0 : fldOf Try.prog 77 0 = some (0, 3) := by kernel_rfl
theorem fl77_1 : fldOf Try.prog 77 1 = some (1, 9) := by kernel_rfl
theorem fl77_2 : fldOf Try.prog 77 2 = some (2, 3) := by kernel_rfl
theorem fl77_3 : fldOf Try.prog 77 3 = some (3, 74) := by kernel_rfl
theorem fl77_4 : fldOf Try.prog 77 4 = some (6, 38) := by kernel_rfl
theorem fl77_5 : fldOf Try.prog 77 5 = some (7, 75) := by kernel_rfl
theorem pl77 : plOf Try.prog 77 = some ([(0, 1), (1, 1), (2, 1), (3, 3), (6, 1), (7, 1)], [.int .i64 0, .string ⟨#[]⟩, .int .i64 0, .int .i64 0, .slice none 0 0, .slice none 0 0, .slice none 0 0, .slice none 0 0]) := by kernel_rfl
theorem co88 : Program.cellsOf Try.prog 88 = 1 := by kernel_rfl
theorem un88 : Try.prog.underlying 88 = some (.slice 283) := by kernel_rfl
theorem co90 : Program.cellsOf Try.prog 90 = 2 := by kernel_rfl
theorem st90 : strOf Try.prog 90 = some [(38, 0), (88, 1)] := by kernel_rfl
theorem sz106 : szOf Try.prog 106 = some 1 := by kernel_rfl
theorem co106 : Program.cellsOf Try.prog 106 = 1 := by kernel_rfl
theorem ag106 : aggB Try.prog 106 = false := by kernel_rfl
theorem zv106 : wpO.zvOf Try.prog 106 = some [.slice none 0 0] := by kernel_rfl
theorem sb106 : slB Try.prog 106 = true := by kernel_rfl
theorem un106 : Try.prog.underlying 106 = some (.slice 297) := by kernel_rfl
theorem el106 : elOf Try.prog 106 = some (297, 21) := by kernel_rfl
theorem ap106 : apOf Try.prog 106 = some (297, 21, 376, [.slice none 0 0, .int .i64 0, .string ⟨#[]⟩, .int .i64 0, .int .i64 0, .slice none 0 0, .slice none 0 0, .slice none 0 0, .slice none 0 0, .int .i64 0, .int .i64 0, .string ⟨#[]⟩, .int .i64 0, .int .i64 0, .slice none 0 0, .slice none 0 0, .slice none 0 0, .slice none 0 0, .slice none 0 0, .slice none 0 0, .slice none 0 0]) := by kernel_rfl
theorem sz108 : szOf Try.prog 108 = some 1 := by kernel_rfl
theorem co108 : Program.cellsOf Try.prog 108 = 1 := by kernel_rfl
theorem ag108 : aggB Try.prog 108 = true := by kernel_rfl
theorem zv108 : wpO.zvOf Try.prog 108 = some [.slice none 0 0] := by kernel_rfl
theorem st108 : strOf Try.prog 108 = some [(106, 0)] := by kernel_rfl
theorem fl108_0 : fldOf Try.prog 108 0 = some (0, 106) := by kernel_rfl
theorem pl108 : plOf Try.prog 108 = some ([(0, 1)], [.slice none 0 0]) := by kernel_rfl
theorem sz111 : szOf Try.prog 111 = some 1 := by kernel_rfl
theorem ag111 : aggB Try.prog 111 = false := by kernel_rfl
theorem zv111 : wpO.zvOf Try.prog 111 = some [.slice none 0 0] := by kernel_rfl
theorem sb111 : slB Try.prog 111 = true := by kernel_rfl
theorem un111 : Try.prog.underlying 111 = some (.slice 216) := by kernel_rfl
theorem el111 : elOf Try.prog 111 = some (216, 21) := by kernel_rfl
theorem ap111 : apOf Try.prog 111 = some (216, 21, 376, [.slice none 0 0, .int .i64 0, .string ⟨#[]⟩, .int .i64 0, .int .i64 0, .slice none 0 0, .slice none 0 0, .slice none 0 0, .slice none 0 0, .int .i64 0, .int .i64 0, .string ⟨#[]⟩, .int .i64 0, .int .i64 0, .slice none 0 0, .slice none 0 0, .slice none 0 0, .slice none 0 0, .slice none 0 0, .slice none 0 0, .slice none 0 0]) := by kernel_rfl
theorem sz113 : szOf Try.prog 113 = some 1 := by kernel_rfl
theorem ag113 : aggB Try.prog 113 = true := by kernel_rfl
theorem zv113 : wpO.zvOf Try.prog 113 = some [.slice none 0 0] := by kernel_rfl
theorem fl113_0 : fldOf Try.prog 113 0 = some (0, 111) := by kernel_rfl
theorem pl113 : plOf Try.prog 113 = some ([(0, 1)], [.slice none 0 0]) := by kernel_rfl
theorem co121 : Program.cellsOf Try.prog 121 = 1 := by kernel_rfl
theorem un121 : Try.prog.underlying 121 = some (.slice 123) := by kernel_rfl
theorem co123 : Program.cellsOf Try.prog 123 = 13 := by kernel_rfl
theorem by123 : Program.bytesOf Try.prog 123 = 224 := by kernel_rfl
theorem st123 : strOf Try.prog 123 = some [(3, 0), (9, 1), (9, 2), (67, 3), (65, 11), (121, 12)] := by kernel_rfl
theorem co132 : Program.cellsOf Try.prog 132 = 1 := by kernel_rfl
theorem un132 : Try.prog.underlying 132 = some (.slice 310) := by kernel_rfl
theorem co134 : Program.cellsOf Try.prog 134 = 1 := by kernel_rfl
theorem st134 : strOf Try.prog 134 = some [(132, 0)] := by kernel_rfl
theorem co141 : Program.cellsOf Try.prog 141 = 18 := by kernel_rfl
theorem st141 : strOf Try.prog 141 = some [(134, 0), (48, 1), (67, 2), (67, 10)] := by kernel_rfl
theorem co181 : Program.cellsOf Try.prog 181 = 1 := by kernel_rfl
theorem un181 : Try.prog.underlying 181 = some (.slice 183) := by kernel_rfl
theorem co183 : Program.cellsOf Try.prog 183 = 4 := by kernel_rfl
theorem by183 : Program.bytesOf Try.prog 183 = 64 := by kernel_rfl
theorem st183 : strOf Try.prog 183 = some [(3, 0), (3, 1), (38, 2), (181, 3)] := by kernel_rfl
theorem co185 : Program.cellsOf Try.prog 185 = 5 := by kernel_rfl
theorem st185 : strOf Try.prog 185 = some [(183, 0), (37, 4)] := by kernel_rfl
theorem sz195 : szOf Try.prog 195 = some 1 := by kernel_rfl
theorem ag195 : aggB Try.prog 195 = false := by kernel_rfl
theorem zv195 : wpO.zvOf Try.prog 195 = some [.slice none 0 0] := by kernel_rfl
theorem sb195 : slB Try.prog 195 = true := by kernel_rfl
theorem un195 : Try.prog.underlying 195 = some (.slice 365) := by kernel_rfl
theorem el195 : elOf Try.prog 195 = some (365, 2) := by kernel_rfl
theorem ap195 : apOf Try.prog 195 = some (365, 2, 32, [.string ⟨#[]⟩, .string ⟨#[]⟩]) := by kernel_rfl
theorem sz212 : szOf Try.prog 212 = some 1 := by kernel_rfl
theorem ag212 : aggB Try.prog 212 = false := by kernel_rfl
theorem zv212 : wpO.zvOf Try.prog 212 = some [.slice none 0 0] := by kernel_rfl
theorem sb212 : slB Try.prog 212 = true := by kernel_rfl
theorem un212 : Try.prog.underlying 212 = some (.slice 214) := by kernel_rfl
theorem el212 : elOf Try.prog 212 = some (214, 12) := by kernel_rfl
theorem ap212 : apOf Try.prog 212 = some (214, 12, 216, [.int .i64 0, .int .i64 0, .string ⟨#[]⟩, .int .i64 0, .int .i64 0, .slice none 0 0, .slice none 0 0, .slice none 0 0, .slice none 0 0, .slice none 0 0, .slice none 0 0, .slice none 0 0]) := by kernel_rfl
theorem sz214 : szOf Try.prog 214 = some 12 := by kernel_rfl
theorem ag214 : aggB Try.prog 214 = true := by kernel_rfl
theorem zv214 : wpO.zvOf Try.prog 214 = some [.int .i64 0, .int .i64 0, .string ⟨#[]⟩, .int .i64 0, .int .i64 0, .slice none 0 0, .slice none 0 0, .slice none 0 0, .slice none 0 0, .slice none 0 0, .slice none 0 0, .slice none 0 0] := by kernel_rfl
theorem fl214_0 : fldOf Try.prog 214 0 = some (0, 3) := by kernel_rfl
theorem fl214_1 : fldOf Try.prog 214 1 = some (1, 77) := by kernel_rfl
theorem fl214_2 : fldOf Try.prog 214 2 = some (9, 38) := by kernel_rfl
theorem fl214_3 : fldOf Try.prog 214 3 = some (10, 212) := by kernel_rfl
theorem fl214_4 : fldOf Try.prog 214 4 = some (11, 113) := by kernel_rfl
theorem pl214 : plOf Try.prog 214 = some ([(0, 1), (1, 8), (9, 1), (10, 1), (11, 1)], [.int .i64 0, .int .i64 0, .string ⟨#[]⟩, .int .i64 0, .int .i64 0, .slice none 0 0, .slice none 0 0, .slice none 0 0, .slice none 0 0, .slice none 0 0, .slice none 0 0, .slice none 0 0]) := by kernel_rfl
theorem sz216 : szOf Try.prog 216 = some 21 := by kernel_rfl
theorem ag216 : aggB Try.prog 216 = true := by kernel_rfl
theorem zv216 : wpO.zvOf Try.prog 216 = some [.slice none 0 0, .int .i64 0, .string ⟨#[]⟩, .int .i64 0, .int .i64 0, .slice none 0 0, .slice none 0 0, .slice none 0 0, .slice none 0 0, .int .i64 0, .int .i64 0, .string ⟨#[]⟩, .int .i64 0, .int .i64 0, .slice none 0 0, .slice none 0 0, .slice none 0 0, .slice none 0 0, .slice none 0 0, .slice none 0 0, .slice none 0 0] := by kernel_rfl
theorem fl216_0 : fldOf Try.prog 216 0 = some (0, 195) := by kernel_rfl
theorem fl216_1 : fldOf Try.prog 216 1 = some (1, 77) := by kernel_rfl
theorem fl216_2 : fldOf Try.prog 216 2 = some (9, 214) := by kernel_rfl
theorem pl216 : plOf Try.prog 216 = some ([(0, 1), (1, 8), (9, 12)], [.slice none 0 0, .int .i64 0, .string ⟨#[]⟩, .int .i64 0, .int .i64 0, .slice none 0 0, .slice none 0 0, .slice none 0 0, .slice none 0 0, .int .i64 0, .int .i64 0, .string ⟨#[]⟩, .int .i64 0, .int .i64 0, .slice none 0 0, .slice none 0 0, .slice none 0 0, .slice none 0 0, .slice none 0 0, .slice none 0 0, .slice none 0 0]) := by kernel_rfl
theorem sz217 : szOf Try.prog 217 = some 1 := by kernel_rfl
theorem ag217 : aggB Try.prog 217 = false := by kernel_rfl
theorem zv217 : wpO.zvOf Try.prog 217 = some [.slice none 0 0] := by kernel_rfl
theorem sb217 : slB Try.prog 217 = true := by kernel_rfl
theorem un217 : Try.prog.underlying 217 = some (.slice 113) := by kernel_rfl
theorem el217 : elOf Try.prog 217 = some (113, 1) := by kernel_rfl
theorem ap217 : apOf Try.prog 217 = some (113, 1, 24, [.slice none 0 0]) := by kernel_rfl
theorem sz221 : szOf Try.prog 221 = some 1 := by kernel_rfl
theorem ag221 : aggB Try.prog 221 = false := by kernel_rfl
theorem zv221 : wpO.zvOf Try.prog 221 = some [.pointer none] := by kernel_rfl
theorem un221 : Try.prog.underlying 221 = some (.pointer 113) := by kernel_rfl
theorem sz222 : szOf Try.prog 222 = some 1 := by kernel_rfl
theorem ag222 : aggB Try.prog 222 = false := by kernel_rfl
theorem zv222 : wpO.zvOf Try.prog 222 = some [.nilFunc] := by kernel_rfl
theorem sz226 : szOf Try.prog 226 = some 1 := by kernel_rfl
theorem ag226 : aggB Try.prog 226 = false := by kernel_rfl
theorem zv226 : wpO.zvOf Try.prog 226 = some [.pointer none] := by kernel_rfl
theorem un226 : Try.prog.underlying 226 = some (.pointer 214) := by kernel_rfl
theorem co261 : Program.cellsOf Try.prog 261 = 2 := by kernel_rfl
theorem by261 : Program.bytesOf Try.prog 261 = 32 := by kernel_rfl
theorem st261 : strOf Try.prog 261 = some [(3, 0), (38, 1)] := by kernel_rfl
theorem co268 : Program.cellsOf Try.prog 268 = 2 := by kernel_rfl
theorem by268 : Program.bytesOf Try.prog 268 = 40 := by kernel_rfl
theorem st268 : strOf Try.prog 268 = some [(9, 0), (181, 1)] := by kernel_rfl
theorem sz281 : szOf Try.prog 281 = some 1 := by kernel_rfl
theorem co281 : Program.cellsOf Try.prog 281 = 1 := by kernel_rfl
theorem ag281 : aggB Try.prog 281 = false := by kernel_rfl
theorem zv281 : wpO.zvOf Try.prog 281 = some [.slice none 0 0] := by kernel_rfl
theorem sb281 : slB Try.prog 281 = true := by kernel_rfl
theorem un281 : Try.prog.underlying 281 = some (.slice 364) := by kernel_rfl
theorem el281 : elOf Try.prog 281 = some (364, 2) := by kernel_rfl
theorem ap281 : apOf Try.prog 281 = some (364, 2, 32, [.string ⟨#[]⟩, .string ⟨#[]⟩]) := by kernel_rfl
theorem co283 : Program.cellsOf Try.prog 283 = 13 := by kernel_rfl
theorem by283 : Program.bytesOf Try.prog 283 = 208 := by kernel_rfl
theorem st283 : strOf Try.prog 283 = some [(3, 0), (3, 1), (3, 2), (281, 3), (67, 4), (65, 12)] := by kernel_rfl
theorem sz293 : szOf Try.prog 293 = some 1 := by kernel_rfl
theorem co293 : Program.cellsOf Try.prog 293 = 1 := by kernel_rfl
theorem ag293 : aggB Try.prog 293 = false := by kernel_rfl
theorem zv293 : wpO.zvOf Try.prog 293 = some [.slice none 0 0] := by kernel_rfl
theorem sb293 : slB Try.prog 293 = true := by kernel_rfl
theorem un293 : Try.prog.underlying 293 = some (.slice 295) := by kernel_rfl
theorem el293 : elOf Try.prog 293 = some (295, 12) := by kernel_rfl
theorem ap293 : apOf Try.prog 293 = some (295, 12, 216, [.int .i64 0, .int .i64 0, .string ⟨#[]⟩, .int .i64 0, .int .i64 0, .slice none 0 0, .slice none 0 0, .slice none 0 0, .slice none 0 0, .slice none 0 0, .slice none 0 0, .slice none 0 0]) := by kernel_rfl
theorem sz295 : szOf Try.prog 295 = some 12 := by kernel_rfl
theorem co295 : Program.cellsOf Try.prog 295 = 12 := by kernel_rfl
theorem by295 : Program.bytesOf Try.prog 295 = 216 := by kernel_rfl
theorem ag295 : aggB Try.prog 295 = true := by kernel_rfl
theorem zv295 : wpO.zvOf Try.prog 295 = some [.int .i64 0, .int .i64 0, .string ⟨#[]⟩, .int .i64 0, .int .i64 0, .slice none 0 0, .slice none 0 0, .slice none 0 0, .slice none 0 0, .slice none 0 0, .slice none 0 0, .slice none 0 0] := by kernel_rfl
theorem st295 : strOf Try.prog 295 = some [(3, 0), (67, 1), (38, 9), (293, 10), (108, 11)] := by kernel_rfl
theorem fl295_0 : fldOf Try.prog 295 0 = some (0, 3) := by kernel_rfl
theorem fl295_1 : fldOf Try.prog 295 1 = some (1, 67) := by kernel_rfl
theorem fl295_2 : fldOf Try.prog 295 2 = some (9, 38) := by kernel_rfl
theorem fl295_3 : fldOf Try.prog 295 3 = some (10, 293) := by kernel_rfl
theorem fl295_4 : fldOf Try.prog 295 4 = some (11, 108) := by kernel_rfl
theorem pl295 : plOf Try.prog 295 = some ([(0, 1), (1, 8), (9, 1), (10, 1), (11, 1)], [.int .i64 0, .int .i64 0, .string ⟨#[]⟩, .int .i64 0, .int .i64 0, .slice none 0 0, .slice none 0 0, .slice none 0 0, .slice none 0 0, .slice none 0 0, .slice none 0 0, .slice none 0 0]) := by kernel_rfl
theorem sz297 : szOf Try.prog 297 = some 21 := by kernel_rfl
theorem co297 : Program.cellsOf Try.prog 297 = 21 := by kernel_rfl
theorem by297 : Program.bytesOf Try.prog 297 = 376 := by kernel_rfl
theorem ag297 : aggB Try.prog 297 = true := by kernel_rfl
theorem zv297 : wpO.zvOf Try.prog 297 = some [.slice none 0 0, .int .i64 0, .string ⟨#[]⟩, .int .i64 0, .int .i64 0, .slice none 0 0, .slice none 0 0, .slice none 0 0, .slice none 0 0, .int .i64 0, .int .i64 0, .string ⟨#[]⟩, .int .i64 0, .int .i64 0, .slice none 0 0, .slice none 0 0, .slice none 0 0, .slice none 0 0, .slice none 0 0, .slice none 0 0, .slice none 0 0] := by kernel_rfl
theorem st297 : strOf Try.prog 297 = some [(281, 0), (67, 1), (295, 9)] := by kernel_rfl
theorem fl297_0 : fldOf Try.prog 297 0 = some (0, 281) := by kernel_rfl
theorem fl297_1 : fldOf Try.prog 297 1 = some (1, 67) := by kernel_rfl
theorem fl297_2 : fldOf Try.prog 297 2 = some (9, 295) := by kernel_rfl
theorem pl297 : plOf Try.prog 297 = some ([(0, 1), (1, 8), (9, 12)], [.slice none 0 0, .int .i64 0, .string ⟨#[]⟩, .int .i64 0, .int .i64 0, .slice none 0 0, .slice none 0 0, .slice none 0 0, .slice none 0 0, .int .i64 0, .int .i64 0, .string ⟨#[]⟩, .int .i64 0, .int .i64 0, .slice none 0 0, .slice none 0 0, .slice none 0 0, .slice none 0 0, .slice none 0 0, .slice none 0 0, .slice none 0 0]) := by kernel_rfl
theorem co310 : Program.cellsOf Try.prog 310 = 4 := by kernel_rfl
theorem by310 : Program.bytesOf Try.prog 310 = 72 := by kernel_rfl
theorem st310 : strOf Try.prog 310 = some [(9, 0), (64, 1)] := by kernel_rfl
theorem sz364 : szOf Try.prog 364 = some 2 := by kernel_rfl
theorem co364 : Program.cellsOf Try.prog 364 = 2 := by kernel_rfl
theorem by364 : Program.bytesOf Try.prog 364 = 32 := by kernel_rfl
theorem ag364 : aggB Try.prog 364 = true := by kernel_rfl
theorem zv364 : wpO.zvOf Try.prog 364 = some [.string ⟨#[]⟩, .string ⟨#[]⟩] := by kernel_rfl
theorem st364 : strOf Try.prog 364 = some [(9, 0), (9, 1)] := by kernel_rfl
theorem fl364_0 : fldOf Try.prog 364 0 = some (0, 9) := by kernel_rfl
theorem fl364_1 : fldOf Try.prog 364 1 = some (1, 9) := by kernel_rfl
theorem pl364 : plOf Try.prog 364 = some ([(0, 1), (1, 1)], [.string ⟨#[]⟩, .string ⟨#[]⟩]) := by kernel_rfl
theorem sz365 : szOf Try.prog 365 = some 2 := by kernel_rfl
theorem ag365 : aggB Try.prog 365 = true := by kernel_rfl
theorem zv365 : wpO.zvOf Try.prog 365 = some [.string ⟨#[]⟩, .string ⟨#[]⟩] := by kernel_rfl
theorem fl365_0 : fldOf Try.prog 365 0 = some (0, 9) := by kernel_rfl
theorem fl365_1 : fldOf Try.prog 365 1 = some (1, 9) := by kernel_rfl
theorem pl365 : plOf Try.prog 365 = some ([(0, 1), (1, 1)], [.string ⟨#[]⟩, .string ⟨#[]⟩]) := by kernel_rfl
theorem okf33 : fnOk Try.prog 33 = true := by kernel_rfl
theorem okf36 : fnOk Try.prog 36 = true := by kernel_rfl
theorem okf38 : fnOk Try.prog 38 = true := by kernel_rfl
theorem okf66 : fnOk Try.prog 66 = true := by kernel_rfl
theorem okf67 : fnOk Try.prog 67 = true := by kernel_rfl
theorem okf68 : fnOk Try.prog 68 = true := by kernel_rfl
theorem okf69 : fnOk Try.prog 69 = true := by kernel_rfl
theorem okf70 : fnOk Try.prog 70 = true := by kernel_rfl
theorem okf121 : fnOk Try.prog 121 = true := by kernel_rfl
theorem okf124 : fnOk Try.prog 124 = true := by kernel_rfl
theorem okf127 : fnOk Try.prog 127 = true := by kernel_rfl
theorem okf151 : fnOk Try.prog 151 = true := by kernel_rfl
theorem okf152 : fnOk Try.prog 152 = true := by kernel_rfl
theorem okf153 : fnOk Try.prog 153 = true := by kernel_rfl
theorem okf154 : fnOk Try.prog 154 = true := by kernel_rfl
theorem okf155 : fnOk Try.prog 155 = true := by kernel_rfl
theorem okf156 : fnOk Try.prog 156 = true := by kernel_rfl
theorem okf164 : fnOk Try.prog 164 = true := by kernel_rfl
theorem okf169 : fnOk Try.prog 169 = true := by kernel_rfl
theorem okf172 : fnOk Try.prog 172 = true := by kernel_rfl
theorem okf209 : fnOk Try.prog 209 = true := by kernel_rfl
theorem okf211 : fnOk Try.prog 211 = true := by kernel_rfl
theorem okf214 : fnOk Try.prog 214 = true := by kernel_rfl
theorem okf231 : fnOk Try.prog 231 = true := by kernel_rfl
theorem okf232 : fnOk Try.prog 232 = true := by kernel_rfl
theorem okf233 : fnOk Try.prog 233 = true := by kernel_rfl
theorem okf269 : fnOk Try.prog 269 = true := by kernel_rfl
theorem okf270 : fnOk Try.prog 270 = true := by kernel_rfl
theorem okf272 : fnOk Try.prog 272 = true := by kernel_rfl
theorem okf275 : fnOk Try.prog 275 = true := by kernel_rfl
theorem okf276 : fnOk Try.prog 276 = true := by kernel_rfl
theorem okf277 : fnOk Try.prog 277 = true := by kernel_rfl
theorem okf281 : fnOk Try.prog 281 = true := by kernel_rfl
theorem okf282 : fnOk Try.prog 282 = true := by kernel_rfl
theorem okf283 : fnOk Try.prog 283 = true := by kernel_rfl
theorem okf310 : fnOk Try.prog 310 = true := by kernel_rfl
theorem okf311 : fnOk Try.prog 311 = true := by kernel_rfl
theorem okf312 : fnOk Try.prog 312 = true := by kernel_rfl
theorem okf320 : fnOk Try.prog 320 = true := by kernel_rfl
theorem okf321 : fnOk Try.prog 321 = true := by kernel_rfl
theorem okf322 : fnOk Try.prog 322 = true := by kernel_rfl
theorem mixed : Try.prog.follows .mixedOrders = true := by kernel_rfl
end Go.VC.F

