/- Facts of the program: sizes, zero values and fields of its types. -/
import Derived.Test.YtepmlphjnppajaaProg
import Derived.Test.YtepmlphjnppajaaGW3
import Derived.KernelRfl
import Derived.Test.YtepmlphjnppajaaGW4
namespace Go.VC.F
open Go Go.VC
open Go.Proofs
theorem sz3 : szOf Try.prog 3 = some 1 := by kernel_rfl
theorem co3 : Program.cellsOf Try.prog 3 = 1 := by kernel_rfl
theorem ag3 : aggB Try.prog 3 = false := by kernel_rfl
theorem zv3 : wpO.zvOf Try.prog 3 = some [.int .i64 0] := by kernel_rfl
theorem un3 : Try.prog.underlying 3 = some (.int .i64) := by kernel_rfl
theorem sz4 : szOf Try.prog 4 = some 1 := by kernel_rfl
theorem ag4 : aggB Try.prog 4 = false := by kernel_rfl
theorem zv4 : wpO.zvOf Try.prog 4 = some [.bool false] := by kernel_rfl
theorem un4 : Try.prog.underlying 4 = some .bool := by kernel_rfl
theorem sz9 : szOf Try.prog 9 = some 1 := by kernel_rfl
theorem co9 : Program.cellsOf Try.prog 9 = 1 := by kernel_rfl
theorem by9 : Program.bytesOf Try.prog 9 = 16 := by kernel_rfl
theorem ag9 : aggB Try.prog 9 = false := by kernel_rfl
theorem zv9 : wpO.zvOf Try.prog 9 = some [.string ⟨#[]⟩] := by kernel_rfl
theorem un9 : Try.prog.underlying 9 = some .string := by kernel_rfl
theorem sz27 : szOf Try.prog 27 = some 1 := by kernel_rfl
theorem co27 : Program.cellsOf Try.prog 27 = 1 := by kernel_rfl
theorem ag27 : aggB Try.prog 27 = false := by kernel_rfl
theorem zv27 : wpO.zvOf Try.prog 27 = some [.slice none 0 0] := by kernel_rfl
theorem sb27 : slB Try.prog 27 = true := by kernel_rfl
theorem un27 : Try.prog.underlying 27 = some (.slice 167) := by kernel_rfl
theorem el27 : elOf Try.prog 27 = some (167, 2) := by kernel_rfl
theorem ap27 : apOf Try.prog 27 = some (167, 2, 40, [.string ⟨#[]⟩, .slice none 0 0]) := by kernel_rfl
theorem sz29 : szOf Try.prog 29 = some 1 := by kernel_rfl
theorem co29 : Program.cellsOf Try.prog 29 = 1 := by kernel_rfl
theorem ag29 : aggB Try.prog 29 = true := by kernel_rfl
theorem zv29 : wpO.zvOf Try.prog 29 = some [.slice none 0 0] := by kernel_rfl
theorem st29 : strOf Try.prog 29 = some [(27, 0)] := by kernel_rfl
theorem fl29_0 : fldOf Try.prog 29 0 = some (0, 27) := by kernel_rfl
theorem pl29 : plOf Try.prog 29 = some ([(0, 1)], [.slice none 0 0]) := by kernel_rfl
theorem sz31 : szOf Try.prog 31 = some 2 := by kernel_rfl
theorem co31 : Program.cellsOf Try.prog 31 = 2 := by kernel_rfl
theorem ag31 : aggB Try.prog 31 = true := by kernel_rfl
theorem zv31 : wpO.zvOf Try.prog 31 = some [.string ⟨#[]⟩, .string ⟨#[]⟩] := by kernel_rfl
theorem st31 : strOf Try.prog 31 = some [(9, 0), (9, 1)] := by kernel_rfl
theorem fl31_0 : fldOf Try.prog 31 0 = some (0, 9) := by kernel_rfl
theorem fl31_1 : fldOf Try.prog 31 1 = some (1, 9) := by kernel_rfl
theorem pl31 : plOf Try.prog 31 = some ([(0, 1), (1, 1)], [.string ⟨#[]⟩, .string ⟨#[]⟩]) := by kernel_rfl
theorem sz35 : szOf Try.prog 35 = some 1 := by kernel_rfl
theorem ag35 : aggB Try.prog 35 = false := by kernel_rfl
theorem zv35 : wpO.zvOf Try.prog 35 = some [.slice none 0 0] := by kernel_rfl
theorem sb35 : slB Try.prog 35 = true := by kernel_rfl
theorem un35 : Try.prog.underlying 35 = some (.slice 156) := by kernel_rfl
theorem el35 : elOf Try.prog 35 = some (156, 2) := by kernel_rfl
theorem ap35 : apOf Try.prog 35 = some (156, 2, 40, [.string ⟨#[]⟩, .slice none 0 0]) := by kernel_rfl
theorem sz37 : szOf Try.prog 37 = some 1 := by kernel_rfl
theorem ag37 : aggB Try.prog 37 = true := by kernel_rfl
theorem zv37 : wpO.zvOf Try.prog 37 = some [.slice none 0 0] := by kernel_rfl
theorem fl37_0 : fldOf Try.prog 37 0 = some (0, 35) := by kernel_rfl
theorem pl37 : plOf Try.prog 37 = some ([(0, 1)], [.slice none 0 0]) := by kernel_rfl
theorem sz39 : szOf Try.prog 39 = some 2 := by kernel_rfl
theorem ag39 : aggB Try.prog 39 = true := by kernel_rfl
theorem zv39 : wpO.zvOf Try.prog 39 = some [.string ⟨#[]⟩, .string ⟨#[]⟩] := by kernel_rfl
theorem fl39_0 : fldOf Try.prog 39 0 = some (0, 9) := by kernel_rfl
theorem fl39_1 : fldOf Try.prog 39 1 = some (1, 9) := by kernel_rfl
theorem pl39 : plOf Try.prog 39 = some ([(0, 1), (1, 1)], [.string ⟨#[]⟩, .string ⟨#[]⟩]) := by kernel_rfl
theorem co50 : Program.cellsOf Try.prog 50 = 1 := by kernel_rfl
theorem un50 : Try.prog.underlying 50 = some (.slice 179) := by kernel_rfl
theorem co52 : Program.cellsOf Try.prog 52 = 1 := by kernel_rfl
theorem st52 : strOf Try.prog 52 = some [(50, 0)] := by kernel_rfl
theorem sz63 : szOf Try.prog 63 = some 1 := by kernel_rfl
theorem co63 : Program.cellsOf Try.prog 63 = 1 := by kernel_rfl
theorem ag63 : aggB Try.prog 63 = false := by kernel_rfl
theorem zv63 : wpO.zvOf Try.prog 63 = some [.slice none 0 0] := by kernel_rfl
theorem sb63 : slB Try.prog 63 = true := by kernel_rfl
theorem un63 : Try.prog.underlying 63 = some (.slice 9) := by kernel_rfl
theorem el63 : elOf Try.prog 63 = some (9, 1) := by kernel_rfl
theorem ap63 : apOf Try.prog 63 = some (9, 1, 16, [.string ⟨#[]⟩]) := by kernel_rfl
theorem sz64 : szOf Try.prog 64 = some 1 := by kernel_rfl
theorem co64 : Program.cellsOf Try.prog 64 = 1 := by kernel_rfl
theorem ag64 : aggB Try.prog 64 = false := by kernel_rfl
theorem zv64 : wpO.zvOf Try.prog 64 = some [.slice none 0 0] := by kernel_rfl
theorem sb64 : slB Try.prog 64 = true := by kernel_rfl
theorem un64 : Try.prog.underlying 64 = some (.slice 66) := by kernel_rfl
theorem el64 : elOf Try.prog 64 = some (66, 3) := by kernel_rfl
theorem ap64 : apOf Try.prog 64 = some (66, 3, 56, [.int .i64 0, .slice none 0 0, .slice none 0 0]) := by kernel_rfl
theorem sz66 : szOf Try.prog 66 = some 3 := by kernel_rfl
theorem co66 : Program.cellsOf Try.prog 66 = 3 := by kernel_rfl
theorem by66 : Program.bytesOf Try.prog 66 = 56 := by kernel_rfl
theorem ag66 : aggB Try.prog 66 = true := by kernel_rfl
theorem zv66 : wpO.zvOf Try.prog 66 = some [.int .i64 0, .slice none 0 0, .slice none 0 0] := by kernel_rfl
theorem st66 : strOf Try.prog 66 = some [(3, 0), (63, 1), (64, 2)] := by kernel_rfl
theorem fl66_0 : fldOf Try.prog 66 0 = some (0, 3) := by kernel_rfl
theorem fl66_1 : fldOf Try.prog 66 1 = some (1, 63) := by kernel_rfl
theorem fl66_2 : fldOf Try.prog 66 2 = some (2, 64) := by kernel_rfl
theorem pl66 : plOf Try.prog 66 = some ([(0, 1), (1, 1), (2, 1)], [.int .i64 0, .slice none 0 0, .slice none 0 0]) := by kernel_rfl
theorem sz67 : szOf Try.prog 67 = some 1 := by kernel_rfl
theorem co67 : Program.cellsOf Try.prog 67 = 1 := by kernel_rfl
theorem ag67 : aggB Try.prog 67 = false := by kernel_rfl
theorem zv67 : wpO.zvOf Try.prog 67 = some [.slice none 0 0] := by kernel_rfl
theorem sb67 : slB Try.prog 67 = true := by kernel_rfl
theorem un67 : Try.prog.underlying 67 = some (.slice 69) := by kernel_rfl
theorem el67 : elOf Try.prog 67 = some (69, 8) := by kernel_rfl
theorem ap67 : apOf Try.prog 67 = some (69, 8, 136, [.int .i64 0, .string ⟨#[]⟩, .int .i64 0, .int .i64 0, .slice none 0 0, .slice none 0 0, .slice none 0 0, .slice none 0 0]) := by kernel_rfl
theorem sz69 : szOf Try.prog 69 = some 8 := by kernel_rfl
theorem co69 : Program.cellsOf Try.prog 69 = 8 := by kernel_rfl
theorem by69 : Program.bytesOf Try.prog 69 = 136 := by kernel_rfl
theorem ag69 : aggB Try.prog 69 = true := by kernel_rfl
theorem zv69 : wpO.zvOf Try.prog 69 = some [.int .i64 0, .string ⟨#[]⟩, .int .i64 0, .int .i64 0, .slice none 0 0, .slice none 0 0, .slice none 0 0, .slice none 0 0] := by kernel_rfl
theorem st69 : strOf Try.prog 69 = some [(3, 0), (9, 1), (3, 2), (66, 3), (63, 6), (67, 7)] := by kernel_rfl
theorem fl69_0 : fldOf Try.prog 69 0 = some (0, 3) := by kernel_rfl
theorem fl69_1 : fldOf Try.prog 69 1 = some (1, 9) := by kernel_rfl
theorem fl69_2 : fldOf Try.prog 69 2 = some (2, 3) := by kernel_rfl
theorem fl69_3 : fldOf Try.prog 69 3 = some (3, 66) := by kernel_rfl
theorem fl69_4 : fldOf Try.prog 69 4 = some (6, 63) := by kernel_rfl
theorem fl69_5 : fldOf Try.prog 69 5 = some (7, 67) := by kernel_rfl
theorem pl69 : plOf Try.prog 69 = some ([(0, 1), (1, 1), (2, 1), (3, 3), (6, 1), (7, 1)], [.int .i64 0, .string ⟨#[]⟩, .int .i64 0, .int .i64 0, .slice none 0 0, .slice none 0 0, .slice none 0 0, .slice none 0 0]) := by kernel_rfl
theorem sz70 : szOf Try.prog 70 = some 1 := by kernel_rfl
theorem co70 : Program.cellsOf Try.prog 70 = 1 := by kernel_rfl
theorem ag70 : aggB Try.prog 70 = false := by kernel_rfl
theorem zv70 : wpO.zvOf Try.prog 70 = some [.slice none 0 0] := by kernel_rfl
theorem sb70 : slB Try.prog 70 = true := by kernel_rfl
theorem un70 : Try.prog.underlying 70 = some (.slice 72) := by kernel_rfl
theorem el70 : elOf Try.prog 70 = some (72, 13) := by kernel_rfl
theorem ap70 : apOf Try.prog 70 = some (72, 13, 224, [.int .i64 0, .string ⟨#[]⟩, .string ⟨#[]⟩, .int .i64 0, .string ⟨#[]⟩, .int .i64 0, .int .i64 0, .slice none 0 0, .slice none 0 0, .slice none 0 0, .slice none 0 0, .slice none 0 0, .slice none 0 0]) := by kernel_rfl
theorem sz72 : szOf Try.prog 72 = some 13 := by kernel_rfl
theorem co72 : Program.cellsOf Try.prog 72 = 13 := by kernel_rfl
theorem by72 : Program.bytesOf Try.prog 72 = 224 := by kernel_rfl
theorem ag72 : aggB Try.prog 72 = true := by kernel_rfl
theorem zv72 : wpO.zvOf Try.prog 72 = some [.int .i64 0, .string ⟨#[]⟩, .string ⟨#[]⟩, .int .i64 0, .string ⟨#[]⟩, .int .i64 0, .int .i64 0, .slice none 0 0, .slice none 0 0, .slice none 0 0, .slice none 0 0, .slice none 0 0, .slice none 0 0] := by kernel_rfl
theorem st72 : strOf Try.prog 72 = some [(3, 0), (9, 1), (9, 2), (69, 3), (67, 11), (70, 12)] := by kernel_rfl
theorem fl72_0 : fldOf Try.prog 72 0 = some (0, 3) := by kernel_rfl
theorem fl72_1 : fldOf Try.prog 72 1 = some (1, 9) := by kernel_rfl
theorem fl72_2 : fldOf Try.prog 72 2 = some (2, 9) := by kernel_rfl
theorem fl72_3 : fldOf Try.prog 72 3 = some (3, 69) := by kernel_rfl
theorem fl72_4 : fldOf Try.prog 72 4 = some (11, 67) := by kernel_rfl
theorem fl72_5 : fldOf Try.prog 72 5 = some (12, 70) := by kernel_rfl
theorem pl72 : plOf Try.prog 72 = some ([(0, 1), (1, 1), (2, 1), (3, 8), (11, 1), (12, 1)], [.int .i64 0, .string ⟨#[]⟩, .string ⟨#[]⟩, .int .i64 0, .string ⟨#[]⟩, .int .i64 0, .int .i64 0, .slice none 0 0, .slice none 0 0, .slice none 0 0, .slice none 0 0, .slice none 0 0, .slice none 0 0]) := by kernel_rfl
theorem sz75 : szOf Try.prog 75 = some 1 := by kernel_rfl
theorem ag75 : aggB Try.prog 75 = false := by kernel_rfl
theorem zv75 : wpO.zvOf Try.prog 75 = some [.slice none 0 0] := by kernel_rfl
theorem sb75 : slB Try.prog 75 = true := by kernel_rfl
theorem un75 : Try.prog.underlying 75 = some (.slice 77) := by kernel_rfl
theorem el75 : elOf Try.prog 75 = some (77, 3) := by kernel_rfl
theorem ap75 : apOf Try.prog 75 = some (77, 3, 56, [.int .i64 0, .slice none 0 0, .slice none 0 0]) := by kernel_rfl
theorem sz77 : szOf Try.prog 77 = some 3 := by kernel_rfl
theorem ag77 : aggB Try.prog 77 = true := by kernel_rfl
theorem zv77 : wpO.zvOf Try.prog 77 = some [.int .i64 0, .slice none 0 0, .slice none 0 0] := by kernel_rfl
theorem fl77_0 : fldOf Try.prog 77 0 = some (0, 3) := by kernel_rfl
theorem fl77_1 : fldOf Try.prog 77 1 = some (1, 63) := by kernel_rfl
theorem fl77_2 : fldOf Try.prog 77 2 = some (2, 75) := by kernel_rfl
theorem pl77 : plOf Try.prog 77 = some ([(0, 1), (1, 1), (2, 1)], [.int .i64 0, .slice none 0 0, .slice none 0 0]) := by kernel_rfl
theorem sz78 : szOf Try.prog 78 = some 1 := by kernel_rfl
theorem ag78 : aggB Try.prog 78 = false := by kernel_rfl
theorem zv78 : wpO.zvOf Try.prog 78 = some [.slice none 0 0] := by kernel_rfl
theorem sb78 : slB Try.prog 78 = true := by kernel_rfl
theorem un78 : Try.prog.underlying 78 = some (.slice 80) := by kernel_rfl
theorem el78 : elOf Try.prog 78 = some (80, 8) := by kernel_rfl
theorem ap78 : apOf Try.prog 78 = some (80, 8, 136, [.int .i64 0, .string ⟨#[]⟩, .int .i64 0, .int .i64 0, .slice none 0 0, .slice none 0 0, .slice none 0 0, .slice none 0 0]) := by kernel_rfl
theorem sz80 : szOf Try.prog 80 = some 8 := by kernel_rfl
theorem ag80 : aggB Try.prog 80 = true := by kernel_rfl
theorem zv80 : wpO.zvOf Try.prog 80 = some [.int .i64 0, .string ⟨#[]⟩, .int .i64 0, .int .i64 0, .slice none 0 0, .slice none 0 0, .slice none 0 0, .slice none 0 0] := by kernel_rfl
theorem fl80_0 : fldOf Try.prog 80 0 = some (0, 3) := by kernel_rfl
theorem fl80_1 : fldOf Try.prog 80 1 = some (1, 9) := by kernel_rfl
theorem fl80_2 : fldOf Try.prog 80 2 = some (2, 3) := by kernel_rfl
theorem fl80_3 : fldOf Try.prog 80 3 = some (3, 77) := by kernel_rfl
theorem fl80_4 : fldOf Try.prog 80 4 = some (6, 63) := by kernel_rfl
theorem fl80_5 : fldOf Try.prog 80 5 = some (7, 78) := by kernel_rfl
theorem pl80 : plOf Try.prog 80 = some ([(0, 1), (1, 1), (2, 1), (3, 3), (6, 1), (7, 1)], [.int .i64 0, .string ⟨#[]⟩, .int .i64 0, .int .i64 0, .slice none 0 0, .slice none 0 0, .slice none 0 0, .slice none 0 0]) := by kernel_rfl
theorem sz81 : szOf Try.prog 81 = some 1 := by kernel_rfl
theorem ag81 : aggB Try.prog 81 = false := by kernel_rfl
theorem zv81 : wpO.zvOf Try.prog 81 = some [.slice none 0 0] := by kernel_rfl
theorem sb81 : slB Try.prog 81 = true := by kernel_rfl
theorem un81 : Try.prog.underlying 81 = some (.slice 83) := by kernel_rfl
theorem el81 : elOf Try.prog 81 = some (83, 13) := by kernel_rfl
theorem ap81 : apOf Try.prog 81 = some (83, 13, 224, [.int .i64 0, .string ⟨#[]⟩, .string ⟨#[]⟩, .int .i64 0, .string ⟨#[]⟩, .int .i64 0, .int .i64 0, .slice none 0 0, .slice none 0 0, .slice none 0 0, .slice none 0 0, .slice none 0 0, .slice none 0 0]) := by kernel_rfl
theorem sz83 : szOf Try.prog 83 = some 13 := by kernel_rfl
theorem ag83 : aggB Try.prog 83 = true := by kernel_rfl
theorem zv83 : wpO.zvOf Try.prog 83 = some [.int .i64 0, .string ⟨#[]⟩, .string ⟨#[]⟩, .int .i64 0, .string ⟨#[]⟩, .int .i64 0, .int .i64 0, .slice none 0 0, .slice none 0 0, .slice none 0 0, .slice none 0 0, .slice none 0 0, .slice none 0 0] := by kernel_rfl
theorem fl83_0 : fldOf Try.prog 83 0 = some (0, 3) := by kernel_rfl
theorem fl83_1 : fldOf Try.prog 83 1 = some (1, 9) := by kernel_rfl
theorem fl83_2 : fldOf Try.prog 83 2 = some (2, 9) := by kernel_rfl
theorem fl83_3 : fldOf Try.prog 83 3 = some (3, 80) := by kernel_rfl
theorem fl83_4 : fldOf Try.prog 83 4 = some (11, 78) := by kernel_rfl
theorem fl83_5 : fldOf Try.prog 83 5 = some (12, 81) := by kernel_rfl
theorem pl83 : plOf Try.prog 83 = some ([(0, 1), (1, 1), (2, 1), (3, 8), (11, 1), (12, 1)], [.int .i64 0, .string ⟨#[]⟩, .string ⟨#[]⟩, .int .i64 0, .string ⟨#[]⟩, .int .i64 0, .int .i64 0, .slice none 0 0, .slice none 0 0, .slice none 0 0, .slice none 0 0, .slice none 0 0, .slice none 0 0]) := by kernel_rfl
theorem co87 : Program.cellsOf Try.prog 87 = 1 := by kernel_rfl
theorem un87 : Try.prog.underlying 87 = some (.slice 199) := by kernel_rfl
theorem co89 : Program.cellsOf Try.prog 89 = 1 := by kernel_rfl
theorem st89 : strOf Try.prog 89 = some [(87, 0)] := by kernel_rfl
theorem sz95 : szOf Try.prog 95 = some 1 := by kernel_rfl
theorem ag95 : aggB Try.prog 95 = false := by kernel_rfl
theorem zv95 : wpO.zvOf Try.prog 95 = some [.slice none 0 0] := by kernel_rfl
theorem sb95 : slB Try.prog 95 = true := by kernel_rfl
theorem un95 : Try.prog.underlying 95 = some (.slice 3) := by kernel_rfl
theorem el95 : elOf Try.prog 95 = some (3, 1) := by kernel_rfl
theorem ap95 : apOf Try.prog 95 = some (3, 1, 8, [.int .i64 0]) := by kernel_rfl
theorem sz103 : szOf Try.prog 103 = some 1 := by kernel_rfl
theorem ag103 : aggB Try.prog 103 = false := by kernel_rfl
theorem zv103 : wpO.zvOf Try.prog 103 = some [.slice none 0 0] := by kernel_rfl
theorem sb103 : slB Try.prog 103 = true := by kernel_rfl
theorem un103 : Try.prog.underlying 103 = some (.slice 107) := by kernel_rfl
theorem el103 : elOf Try.prog 103 = some (107, 4) := by kernel_rfl
theorem ap103 : apOf Try.prog 103 = some (107, 4, 64, [.int .i64 0, .int .i64 0, .slice none 0 0, .slice none 0 0]) := by kernel_rfl
theorem sz107 : szOf Try.prog 107 = some 4 := by kernel_rfl
theorem ag107 : aggB Try.prog 107 = true := by kernel_rfl
theorem zv107 : wpO.zvOf Try.prog 107 = some [.int .i64 0, .int .i64 0, .slice none 0 0, .slice none 0 0] := by kernel_rfl
theorem fl107_0 : fldOf Try.prog 107 0 = some (0, 3) := by kernel_rfl
theorem fl107_1 : fldOf Try.prog 107 1 = some (1, 3) := by kernel_rfl
theorem fl107_2 : fldOf Try.prog 107 2 = some (2, 63) := by kernel_rfl
theorem fl107_3 : fldOf Try.prog 107 3 = some (3, 103) := by kernel_rfl
theorem pl107 : plOf Try.prog 107 = some ([(0, 1), (1, 1), (2, 1), (3, 1)], [.int .i64 0, .int .i64 0, .slice none 0 0, .slice none 0 0]) := by kernel_rfl
theorem sz109 : szOf Try.prog 109 = some 1 := by kernel_rfl
theorem ag109 : aggB Try.prog 109 = false := by kernel_rfl
theorem zv109 : wpO.zvOf Try.prog 109 = some [.map none] := by kernel_rfl
theorem mp109 : mpOf Try.prog 109 = some (.int .i64, .bool false) := by kernel_rfl
theorem sz112 : szOf Try.prog 112 = some 1 := by kernel_rfl
theorem ag112 : aggB Try.prog 112 = false := by kernel_rfl
theorem zv112 : wpO.zvOf Try.prog 112 = some [.pointer none] := by kernel_rfl
theorem un112 : Try.prog.underlying 112 = some (.pointer 107) := by kernel_rfl
theorem sz156 : szOf Try.prog 156 = some 2 := by kernel_rfl
theorem ag156 : aggB Try.prog 156 = true := by kernel_rfl
theorem zv156 : wpO.zvOf Try.prog 156 = some [.string ⟨#[]⟩, .slice none 0 0] := by kernel_rfl
theorem fl156_0 : fldOf Try.prog 156 0 = some (0, 9) := by kernel_rfl
theorem fl156_1 : fldOf Try.prog 156 1 = some (1, 103) := by kernel_rfl
theorem pl156 : plOf Try.prog 156 = some ([(0, 1), (1, 1)], [.string ⟨#[]⟩, .slice none 0 0]) := by kernel_rfl
theorem sz165 : szOf Try.prog 165 = some 1 := by kernel_rfl
theorem co165 : Program.cellsOf Try.prog 165 = 1 := by kernel_rfl
theorem ag165 : aggB Try.prog 165 = false := by kernel_rfl
theorem zv165 : wpO.zvOf Try.prog 165 = some [.slice none 0 0] := by kernel_rfl
theorem sb165 : slB Try.prog 165 = true := by kernel_rfl
theorem un165 : Try.prog.underlying 165 = some (.slice 245) := by kernel_rfl
theorem el165 : elOf Try.prog 165 = some (245, 4) := by kernel_rfl
theorem ap165 : apOf Try.prog 165 = some (245, 4, 64, [.int .i64 0, .int .i64 0, .slice none 0 0, .slice none 0 0]) := by kernel_rfl
theorem sz167 : szOf Try.prog 167 = some 2 := by kernel_rfl
theorem co167 : Program.cellsOf Try.prog 167 = 2 := by kernel_rfl
theorem by167 : Program.bytesOf Try.prog 167 = 40 := by kernel_rfl
theorem ag167 : aggB Try.prog 167 = true := by kernel_rfl
theorem zv167 : wpO.zvOf Try.prog 167 = some [.string ⟨#[]⟩, .slice none 0 0] := by kernel_rfl
theorem st167 : strOf Try.prog 167 = some [(9, 0), (165, 1)] := by kernel_rfl
theorem fl167_0 : fldOf Try.prog 167 0 = some (0, 9) := by kernel_rfl
theorem fl167_1 : fldOf Try.prog 167 1 = some (1, 165) := by kernel_rfl
theorem pl167 : plOf Try.prog 167 = some ([(0, 1), (1, 1)], [.string ⟨#[]⟩, .slice none 0 0]) := by kernel_rfl
theorem co179 : Program.cellsOf Try.prog 179 = 2 := by kernel_rfl
theorem by179 : Program.bytesOf Try.prog 179 = 32 := by kernel_rfl
theorem st179 : strOf Try.prog 179 = some [(3, 0), (63, 1)] := by kernel_rfl
theorem co199 : Program.cellsOf Try.prog 199 = 4 := by kernel_rfl
theorem by199 : Program.bytesOf Try.prog 199 = 72 := by kernel_rfl
theorem st199 : strOf Try.prog 199 = some [(9, 0), (66, 1)] := by kernel_rfl
theorem sz200 : szOf Try.prog 200 = some 1 := by kernel_rfl
theorem ag200 : aggB Try.prog 200 = false := by kernel_rfl
theorem zv200 : wpO.zvOf Try.prog 200 = some [.nilFunc] := by kernel_rfl
theorem sz245 : szOf Try.prog 245 = some 4 := by kernel_rfl
theorem co245 : Program.cellsOf Try.prog 245 = 4 := by kernel_rfl
theorem by245 : Program.bytesOf Try.prog 245 = 64 := by kernel_rfl
theorem ag245 : aggB Try.prog 245 = true := by kernel_rfl
theorem zv245 : wpO.zvOf Try.prog 245 = some [.int .i64 0, .int .i64 0, .slice none 0 0, .slice none 0 0] := by kernel_rfl
theorem st245 : strOf Try.prog 245 = some [(3, 0), (3, 1), (63, 2), (165, 3)] := by kernel_rfl
theorem fl245_0 : fldOf Try.prog 245 0 = some (0, 3) := by kernel_rfl
theorem fl245_1 : fldOf Try.prog 245 1 = some (1, 3) := by kernel_rfl
theorem fl245_2 : fldOf Try.prog 245 2 = some (2, 63) := by kernel_rfl
theorem fl245_3 : fldOf Try.prog 245 3 = some (3, 165) := by kernel_rfl
theorem pl245 : plOf Try.prog 245 = some ([(0, 1), (1, 1), (2, 1), (3, 1)], [.int .i64 0, .int .i64 0, .slice none 0 0, .slice none 0 0]) := by kernel_rfl
theorem okf16 : fnOk Try.prog 16 = true := by kernel_rfl
theorem okf17 : fnOk Try.prog 17 = true := by kernel_rfl
theorem okf18 : fnOk Try.prog 18 = true := by kernel_rfl
theorem okf19 : fnOk Try.prog 19 = true := by kernel_rfl
theorem okf20 : fnOk Try.prog 20 = true := by kernel_rfl
theorem okf21 : fnOk Try.prog 21 = true := by kernel_rfl
theorem okf22 : fnOk Try.prog 22 = true := by kernel_rfl
theorem okf35 : fnOk Try.prog 35 = true := by kernel_rfl
theorem okf36 : fnOk Try.prog 36 = true := by kernel_rfl
theorem okf37 : fnOk Try.prog 37 = true := by kernel_rfl
theorem okf39 : fnOk Try.prog 39 = true := by kernel_rfl
theorem okf40 : fnOk Try.prog 40 = true := by kernel_rfl
theorem okf58 : fnOk Try.prog 58 = true := by kernel_rfl
theorem okf59 : fnOk Try.prog 59 = true := by kernel_rfl
theorem okf60 : fnOk Try.prog 60 = true := by kernel_rfl
theorem okf61 : fnOk Try.prog 61 = true := by kernel_rfl
theorem okf62 : fnOk Try.prog 62 = true := by kernel_rfl
theorem okf63 : fnOk Try.prog 63 = true := by kernel_rfl
theorem okf64 : fnOk Try.prog 64 = true := by kernel_rfl
theorem okf84 : fnOk Try.prog 84 = true := by kernel_rfl
theorem okf85 : fnOk Try.prog 85 = true := by kernel_rfl
theorem okf86 : fnOk Try.prog 86 = true := by kernel_rfl
theorem okf87 : fnOk Try.prog 87 = true := by kernel_rfl
theorem okf88 : fnOk Try.prog 88 = true := by kernel_rfl
theorem okf89 : fnOk Try.prog 89 = true := by kernel_rfl
theorem okf90 : fnOk Try.prog 90 = true := by kernel_rfl
theorem okf91 : fnOk Try.prog 91 = true := by kernel_rfl
theorem okf92 : fnOk Try.prog 92 = true := by kernel_rfl
theorem okf94 : fnOk Try.prog 94 = true := by kernel_rfl
theorem okf95 : fnOk Try.prog 95 = true := by kernel_rfl
theorem okf96 : fnOk Try.prog 96 = true := by kernel_rfl
theorem okf101 : fnOk Try.prog 101 = true := by kernel_rfl
theorem okf113 : fnOk Try.prog 113 = true := by kernel_rfl
theorem okf114 : fnOk Try.prog 114 = true := by kernel_rfl
theorem okf115 : fnOk Try.prog 115 = true := by kernel_rfl
theorem okf116 : fnOk Try.prog 116 = true := by kernel_rfl
theorem okf117 : fnOk Try.prog 117 = true := by kernel_rfl
theorem okf118 : fnOk Try.prog 118 = true := by kernel_rfl
theorem okf138 : fnOk Try.prog 138 = true := by kernel_rfl
theorem okf139 : fnOk Try.prog 139 = true := by kernel_rfl
theorem okf140 : fnOk Try.prog 140 = true := by kernel_rfl
theorem okf141 : fnOk Try.prog 141 = true := by kernel_rfl
theorem okf142 : fnOk Try.prog 142 = true := by kernel_rfl
theorem okf143 : fnOk Try.prog 143 = true := by kernel_rfl
theorem okf146 : fnOk Try.prog 146 = true := by kernel_rfl
theorem okf147 : fnOk Try.prog 147 = true := by kernel_rfl
theorem okf152 : fnOk Try.prog 152 = true := by kernel_rfl
theorem okf163 : fnOk Try.prog 163 = true := by kernel_rfl
theorem okf164 : fnOk Try.prog 164 = true := by kernel_rfl
theorem okf165 : fnOk Try.prog 165 = true := by kernel_rfl
theorem okf166 : fnOk Try.prog 166 = true := by kernel_rfl
theorem okf170 : fnOk Try.prog 170 = true := by kernel_rfl
theorem okf173 : fnOk Try.prog 173 = true := by kernel_rfl
theorem okf176 : fnOk Try.prog 176 = true := by kernel_rfl
theorem okf177 : fnOk Try.prog 177 = true := by kernel_rfl
theorem okf178 : fnOk Try.prog 178 = true := by kernel_rfl
theorem okf179 : fnOk Try.prog 179 = true := by kernel_rfl
theorem okf180 : fnOk Try.prog 180 = true := by kernel_rfl
theorem okf181 : fnOk Try.prog 181 = true := by kernel_rfl
theorem okf196 : fnOk Try.prog 196 = true := by kernel_rfl
theorem okf201 : fnOk Try.prog 201 = true := by kernel_rfl
theorem okf202 : fnOk Try.prog 202 = true := by kernel_rfl
theorem okf203 : fnOk Try.prog 203 = true := by kernel_rfl
theorem okf211 : fnOk Try.prog 211 = true := by kernel_rfl
theorem okf244 : fnOk Try.prog 244 = true := by kernel_rfl
theorem mixed : Try.prog.follows .mixedOrders = true := by kernel_rfl
end Go.VC.F
/- The data of the program, as trees. -/
namespace Go.VC
open Go
/-- A type. -/
inductive Ty where
  | mk (kind : Int) (labels : List ByteArray) (args : List Ty)
  deriving Inhabited
def Ty.kind : Ty → Int | .mk k _ _ => k
def Ty.labels : Ty → List ByteArray | .mk _ l _ => l
def Ty.args : Ty → List Ty | .mk _ _ a => a
mutual
def eTy : Ty → List IV
  | .mk k l a => [.sc (.int .i64 k), slI eS l, .sl a.length (eTyL a)]
def eTyL : List Ty → List IV
  | [] => []
  | t :: r => eTy t ++ eTyL r
end
theorem eTyL_eq : ∀ (l : List Ty), eTyL l = l.flatMap eTy
  | [] => rfl
  | t :: r => by rw [eTyL, eTyL_eq r, List.flatMap_cons]
theorem eTy_eta (t : Ty) : eTy t = [.sc (.int .i64 t.kind), slI eS t.labels, slI eTy t.args] := by
  cases t with
  | mk k l a => rw [eTy, eTyL_eq]; rfl
instance : Wid eTy 3 := ⟨fun t => by rw [eTy_eta]; rfl⟩
/-- A value. -/
inductive Val where
  | mk (kind n : Int) (labels : List ByteArray) (args : List Val)
  deriving Inhabited
def Val.kind : Val → Int | .mk k _ _ _ => k
def Val.n : Val → Int | .mk _ n _ _ => n
def Val.labels : Val → List ByteArray | .mk _ _ l _ => l
def Val.args : Val → List Val | .mk _ _ _ a => a
mutual
def eVal : Val → List IV
  | .mk k n l a => [.sc (.int .i64 k), .sc (.int .i64 n), slI eS l, .sl a.length (eValL a)]
def eValL : List Val → List IV
  | [] => []
  | t :: r => eVal t ++ eValL r
end
theorem eValL_eq : ∀ (l : List Val), eValL l = l.flatMap eVal
  | [] => rfl
  | t :: r => by rw [eValL, eValL_eq r, List.flatMap_cons]
theorem eVal_eta (t : Val) : eVal t = [.sc (.int .i64 t.kind), .sc (.int .i64 t.n), slI eS t.labels, slI eVal t.args] := by
  cases t with
  | mk k n l a => rw [eVal, eValL_eq]; rfl
instance : Wid eVal 4 := ⟨fun t => by rw [eVal_eta]; rfl⟩
/-- A term. -/
inductive Tm where
  | mk (kind : Int) (name : ByteArray) (n : Int) (ty : Ty) (labels : List ByteArray) (args : List Tm)
  deriving Inhabited
def Tm.kind : Tm → Int | .mk k _ _ _ _ _ => k
def Tm.name : Tm → ByteArray | .mk _ s _ _ _ _ => s
def Tm.n : Tm → Int | .mk _ _ n _ _ _ => n
def Tm.ty : Tm → Ty | .mk _ _ _ t _ _ => t
def Tm.labels : Tm → List ByteArray | .mk _ _ _ _ l _ => l
def Tm.args : Tm → List Tm | .mk _ _ _ _ _ a => a
mutual
def eTm : Tm → List IV
  | .mk k s n t l a => [.sc (.int .i64 k), .sc (.string s), .sc (.int .i64 n), .sc (.int .i64 t.kind), slI eS t.labels, slI eTy t.args, slI eS l, .sl a.length (eTmL a)]
def eTmL : List Tm → List IV
  | [] => []
  | t :: r => eTm t ++ eTmL r
end
theorem eTmL_eq : ∀ (l : List Tm), eTmL l = l.flatMap eTm
  | [] => rfl
  | t :: r => by rw [eTmL, eTmL_eq r, List.flatMap_cons]
theorem eTm_eta (t : Tm) : eTm t = [.sc (.int .i64 t.kind), .sc (.string t.name), .sc (.int .i64 t.n), .sc (.int .i64 t.ty.kind), slI eS t.ty.labels, slI eTy t.ty.args, slI eS t.labels, slI eTm t.args] := by
  cases t with
  | mk k s n t l a => rw [eTm, eTmL_eq]; rfl
instance : Wid eTm 8 := ⟨fun t => by rw [eTm_eta]; rfl⟩
/-- A plan. -/
inductive Pl where
  | mk (kind : Int) (var table : ByteArray) (cond : Tm) (keys : List Tm) (args : List Pl)
  deriving Inhabited
def Pl.kind : Pl → Int | .mk k _ _ _ _ _ => k
def Pl.var : Pl → ByteArray | .mk _ s _ _ _ _ => s
def Pl.table : Pl → ByteArray | .mk _ _ s _ _ _ => s
def Pl.cond : Pl → Tm | .mk _ _ _ t _ _ => t
def Pl.keys : Pl → List Tm | .mk _ _ _ _ l _ => l
def Pl.args : Pl → List Pl | .mk _ _ _ _ _ a => a
mutual
def ePl : Pl → List IV
  | .mk k s u t l a => [.sc (.int .i64 k), .sc (.string s), .sc (.string u)] ++ eTm t ++ [slI eTm l, .sl a.length (ePlL a)]
def ePlL : List Pl → List IV
  | [] => []
  | t :: r => ePl t ++ ePlL r
end
theorem ePlL_eq : ∀ (l : List Pl), ePlL l = l.flatMap ePl
  | [] => rfl
  | t :: r => by rw [ePlL, ePlL_eq r, List.flatMap_cons]
theorem ePl_eta (t : Pl) : ePl t = [.sc (.int .i64 t.kind), .sc (.string t.var), .sc (.string t.table), .sc (.int .i64 t.cond.kind), .sc (.string t.cond.name), .sc (.int .i64 t.cond.n), .sc (.int .i64 t.cond.ty.kind), slI eS t.cond.ty.labels, slI eTy t.cond.ty.args, slI eS t.cond.labels, slI eTm t.cond.args, slI eTm t.keys, slI ePl t.args] := by
  cases t with
  | mk k s u t l a => rw [ePl, ePlL_eq, eTm_eta]; rfl
instance : Wid ePl 13 := ⟨fun t => by rw [ePl_eta]; rfl⟩
/-- Products; polynomials are lists of them. -/
structure Mono where
  coef : Int
  vars : List ByteArray
def eMono (a : Mono) : List IV := [.sc (.int .i64 a.coef), slI eS a.vars]
instance : Wid eMono 2 := ⟨fun _ => rfl⟩
structure Ann where
  value : Val
  poly : List Mono
def eAnn (a : Ann) : List IV := eVal a.value ++ [slI eMono a.poly]
theorem eAnn_eta (a : Ann) : eAnn a = [.sc (.int .i64 a.value.kind), .sc (.int .i64 a.value.n), slI eS a.value.labels, slI eVal a.value.args, slI eMono a.poly] := by rw [eAnn, eVal_eta]; rfl
instance : Wid eAnn 5 := ⟨fun t => by rw [eAnn_eta]; rfl⟩
structure Decl where
  name : ByteArray
  row : Ty
def eDecl (a : Decl) : List IV := .sc (.string a.name) :: eTy a.row
theorem eDecl_eta (a : Decl) : eDecl a = [.sc (.string a.name), .sc (.int .i64 a.row.kind), slI eS a.row.labels, slI eTy a.row.args] := by rw [eDecl, eTy_eta]
instance : Wid eDecl 4 := ⟨fun t => by rw [eDecl_eta]; rfl⟩
structure TData where
  name : ByteArray
  rows : List Val
def eTData (a : TData) : List IV := [.sc (.string a.name), slI eVal a.rows]
instance : Wid eTData 2 := ⟨fun _ => rfl⟩
structure Gn where
  var : ByteArray
  table : ByteArray
def eGn (a : Gn) : List IV := [.sc (.string a.var), .sc (.string a.table)]
instance : Wid eGn 2 := ⟨fun _ => rfl⟩
structure Vw where
  table : ByteArray
  cond : Tm
  cols : List ByteArray
  key : ByteArray
def eVw (a : Vw) : List IV := .sc (.string a.table) :: (eTm a.cond ++ [slI eS a.cols, .sc (.string a.key)])
theorem eVw_eta (a : Vw) : eVw a = [.sc (.string a.table), .sc (.int .i64 a.cond.kind), .sc (.string a.cond.name), .sc (.int .i64 a.cond.n), .sc (.int .i64 a.cond.ty.kind), slI eS a.cond.ty.labels, slI eTy a.cond.ty.args, slI eS a.cond.labels, slI eTm a.cond.args, slI eS a.cols, .sc (.string a.key)] := by rw [eVw, eTm_eta]; rfl
instance : Wid eVw 11 := ⟨fun t => by rw [eVw_eta]; rfl⟩
end Go.VC
/- How much a datum counts, when it is measured: no statement of a program. -/
set_option linter.unusedSimpArgs false
set_option linter.unusedVariables false
namespace Go.VC
open Go
/-- What is left after taking. -/
def szR (n : Nat) (left : Int) : Int := if (n : Int) ≤ left then left - n else -1
theorem szR_add (n m : Nat) (l : Int) : szR m (szR n l) = szR (n + m) l := by
  unfold szR
  split <;> split <;> split <;> omega
theorem szR_le {n : Nat} {l : Int} (h : 0 ≤ l) : -1 ≤ szR n l ∧ szR n l ≤ l := by unfold szR; split <;> omega
theorem szR_sub {n : Nat} {l : Int} (h : 0 ≤ l - n) : l - n = szR n l := by unfold szR; rw [if_pos (by omega)]
theorem szR_neg {n m : Nat} {l : Int} (h : szR n l < 0) (hm : n ≤ m) : szR m l = -1 := by unfold szR at h ⊢; split at h <;> split <;> omega
theorem szR_nil {n m : Nat} {l : Int} (h : l - n < 0) (hm : n ≤ m) : szR m l = -1 := by unfold szR; split <;> omega
theorem szR_fits {n : Nat} {l : Int} (h : 0 ≤ szR n l) : (n : Int) ≤ l := by unfold szR at h; split at h <;> omega
theorem szR_spec (n : Nat) (l : Int) : ((n : Int) ≤ l ∧ szR n l = l - n) ∨ (l < n ∧ szR n l = -1) := by unfold szR; split <;> omega
def zL {α : Type} (z : α → Nat) (l : List α) : Nat := l.length + (l.map z).sum
def zT {α : Type} (z : α → Nat) (l : List α) (i : Nat) : Nat := l.length + ((l.take i).map z).sum
theorem zT_zero {α : Type} {z : α → Nat} {l : List α} : zT z l 0 = l.length := by simp [zT]
theorem zT_all {α : Type} {z : α → Nat} {l : List α} {i : Nat} (h : l.length ≤ i) : zT z l i = zL z l := by rw [zT, List.take_of_length_le h, zL]
theorem zT_succ {α : Type} {z : α → Nat} {l : List α} {i : Nat} (h : i < l.length) : zT z l (i + 1) = zT z l i + z l[i] := by
  rw [zT, zT, List.take_succ_eq_append_getElem h, List.map_append, List.sum_append]; simp; omega
theorem sum_take_le {α : Type} {z : α → Nat} : ∀ {l : List α} {i : Nat}, ((l.take i).map z).sum ≤ (l.map z).sum
  | [], i => by simp
  | a :: r, 0 => by simp
  | a :: r, i + 1 => by
    have := sum_take_le (z := z) (l := r) (i := i)
    simp only [List.take_succ_cons, List.map_cons, List.sum_cons]; omega
theorem zT_le {α : Type} {z : α → Nat} {l : List α} {i : Nat} : zT z l i ≤ zL z l := by unfold zT zL; have := sum_take_le (z := z) (l := l) (i := i); omega
theorem zL_len {α : Type} {z : α → Nat} {l : List α} : l.length ≤ zL z l := by unfold zL; omega
theorem zL_mem {α : Type} {z : α → Nat} {l : List α} {x : α} (h : x ∈ l) : z x ≤ zL z l := by
  unfold zL
  induction l with
  | nil => cases h
  | cons a r ih =>
    rcases List.mem_cons.1 h with rfl | h
    · simp only [List.map_cons, List.sum_cons]; omega
    · have := ih h; simp only [List.map_cons, List.sum_cons, List.length_cons] at *; omega
def zS (s : ByteArray) : Nat := s.size
abbrev zSL (l : List ByteArray) : Nat := zL zS l
def okS (b : Nat) (s : ByteArray) : Prop := s.size ≤ b
def ok64 (n : Int) : Prop := -9223372036854775808 ≤ n ∧ n ≤ 9223372036854775807
def okLs {α : Type} (b : Nat) (ok : Nat → α → Prop) (l : List α) : Prop := l.length ≤ b ∧ ∀ s ∈ l, ok b s
theorem okI_int {b : Nat} {n : Int} : okI b (.sc (.int .i64 n)) ↔ ok64 n := by simp [okI, okV, ok64, IntKind.min, IntKind.max, IntKind.signed, IntKind.bits]
theorem okI_str {b : Nat} {s : ByteArray} : okI b (.sc (.string s)) ↔ okS b s := by simp [okI, okV, okS]
theorem okI_L {b : Nat} {α : Type} {E : α → List IV} {l : List α} : okI b (slI E l) ↔ okLs b (fun b t => okL b (E t)) l := by simp [okI_slI, okLs]
theorem okL_nil {b : Nat} : okL b [] ↔ True := by simp [okL]
theorem okL_cons {b : Nat} {x : IV} {r : List IV} : okL b (x :: r) ↔ okI b x ∧ okL b r := by simp [okL]
theorem okS_fn : (fun b s => okL b (eS s)) = okS := by funext b s; simp [eS, okL_cons, okL_nil, okI_str]
theorem mI_int {n : Int} {k : IntKind} : mI (.sc (.int k n)) = 0 := by simp [mI, mV]
theorem mI_str {s : ByteArray} : mI (.sc (.string s)) = zS s := by simp [mI, mV, zS]
theorem mI_L {α : Type} {E : α → List IV} {l : List α} : mI (slI E l) = zL (fun x => mL (E x)) l := by rw [mI_slI, zL]
theorem mL_nil : mL [] = 0 := by simp [mL]
theorem mL_cons {x : IV} {r : List IV} : mL (x :: r) = mI x + mL r := by simp [mL]
theorem mS_fn : (fun s => mL (eS s)) = zS := by funext s; simp [eS, mL_cons, mL_nil, mI_str]
theorem okLs_at {α : Type} {b : Nat} {ok : Nat → α → Prop} {l : List α} (h : okLs b ok l) {i : Nat} (hi : i < l.length) : ok b l[i] := h.2 _ (List.getElem_mem hi)
def okTy (b : Nat) (t : Ty) : Prop := okL b (eTy t)
theorem okTy_fn : (fun b t => okL b (eTy t)) = okTy := rfl
def zTy (t : Ty) : Nat := mL (eTy t)
theorem mTy_fn : (fun t => mL (eTy t)) = zTy := rfl
theorem okTy_down {B b : Nat} {t : Ty} (h : okTy B t) (g : zTy t ≤ b) : okTy b t := okL_down h g
theorem okTy_iff {b : Nat} {t : Ty} : okTy b t ↔ ok64 t.kind ∧ okLs b okS t.labels ∧ okLs b okTy t.args := by
  conv => lhs; unfold okTy
  rw [eTy_eta]; simp only [okL_cons, okL_nil, okI_int, okI_str, okI_L, okS_fn, okTy_fn, and_true, and_assoc]
theorem zTy_eta (t : Ty) : zTy t = zSL t.labels + zL zTy t.args := by
  conv => lhs; unfold zTy
  rw [eTy_eta]; simp only [mL_cons, mL_nil, mI_int, mI_str, mI_L, mS_fn, mTy_fn, zSL, Nat.zero_add, Nat.add_zero, Nat.add_assoc]
def okVal (b : Nat) (t : Val) : Prop := okL b (eVal t)
theorem okVal_fn : (fun b t => okL b (eVal t)) = okVal := rfl
def zVal (t : Val) : Nat := mL (eVal t)
theorem mVal_fn : (fun t => mL (eVal t)) = zVal := rfl
theorem okVal_down {B b : Nat} {t : Val} (h : okVal B t) (g : zVal t ≤ b) : okVal b t := okL_down h g
theorem okVal_iff {b : Nat} {t : Val} : okVal b t ↔ ok64 t.kind ∧ ok64 t.n ∧ okLs b okS t.labels ∧ okLs b okVal t.args := by
  conv => lhs; unfold okVal
  rw [eVal_eta]; simp only [okL_cons, okL_nil, okI_int, okI_str, okI_L, okS_fn, okTy_fn, okVal_fn, and_true, and_assoc]
theorem zVal_eta (t : Val) : zVal t = zSL t.labels + zL zVal t.args := by
  conv => lhs; unfold zVal
  rw [eVal_eta]; simp only [mL_cons, mL_nil, mI_int, mI_str, mI_L, mS_fn, mTy_fn, mVal_fn, zSL, Nat.zero_add, Nat.add_zero, Nat.add_assoc]
def okTm (b : Nat) (t : Tm) : Prop := okL b (eTm t)
theorem okTm_fn : (fun b t => okL b (eTm t)) = okTm := rfl
def zTm (t : Tm) : Nat := mL (eTm t)
theorem mTm_fn : (fun t => mL (eTm t)) = zTm := rfl
theorem okTm_down {B b : Nat} {t : Tm} (h : okTm B t) (g : zTm t ≤ b) : okTm b t := okL_down h g
theorem okTm_iff {b : Nat} {t : Tm} : okTm b t ↔ ok64 t.kind ∧ okS b t.name ∧ ok64 t.n ∧ okTy b t.ty ∧ okLs b okS t.labels ∧ okLs b okTm t.args := by
  conv => lhs; unfold okTm
  rw [eTm_eta, okTy_iff]; simp only [okL_cons, okL_nil, okI_int, okI_str, okI_L, okS_fn, okTy_fn, okVal_fn, okTm_fn, and_true, and_assoc]
theorem zTm_eta (t : Tm) : zTm t = zS t.name + zTy t.ty + zSL t.labels + zL zTm t.args := by
  conv => lhs; unfold zTm
  rw [eTm_eta, zTy_eta]; simp only [mL_cons, mL_nil, mI_int, mI_str, mI_L, mS_fn, mTy_fn, mVal_fn, mTm_fn, zSL, Nat.zero_add, Nat.add_zero, Nat.add_assoc]
def okPl (b : Nat) (t : Pl) : Prop := okL b (ePl t)
theorem okPl_fn : (fun b t => okL b (ePl t)) = okPl := rfl
def zPl (t : Pl) : Nat := mL (ePl t)
theorem mPl_fn : (fun t => mL (ePl t)) = zPl := rfl
theorem okPl_down {B b : Nat} {t : Pl} (h : okPl B t) (g : zPl t ≤ b) : okPl b t := okL_down h g
theorem okPl_iff {b : Nat} {t : Pl} : okPl b t ↔ ok64 t.kind ∧ okS b t.var ∧ okS b t.table ∧ okTm b t.cond ∧ okLs b okTm t.keys ∧ okLs b okPl t.args := by
  conv => lhs; unfold okPl
  rw [ePl_eta, okTm_iff, okTy_iff]; simp only [okL_cons, okL_nil, okI_int, okI_str, okI_L, okS_fn, okTy_fn, okVal_fn, okTm_fn, okPl_fn, and_true, and_assoc]
theorem zPl_eta (t : Pl) : zPl t = zS t.var + zS t.table + zTm t.cond + zL zTm t.keys + zL zPl t.args := by
  conv => lhs; unfold zPl
  rw [ePl_eta, zTm_eta, zTy_eta]; simp only [mL_cons, mL_nil, mI_int, mI_str, mI_L, mS_fn, mTy_fn, mVal_fn, mTm_fn, mPl_fn, zSL, Nat.zero_add, Nat.add_zero, Nat.add_assoc]
def okMono (b : Nat) (t : Mono) : Prop := okL b (eMono t)
theorem okMono_fn : (fun b t => okL b (eMono t)) = okMono := rfl
def zMono (t : Mono) : Nat := mL (eMono t)
theorem mMono_fn : (fun t => mL (eMono t)) = zMono := rfl
theorem okMono_down {B b : Nat} {t : Mono} (h : okMono B t) (g : zMono t ≤ b) : okMono b t := okL_down h g
theorem okMono_iff {b : Nat} {t : Mono} : okMono b t ↔ ok64 t.coef ∧ okLs b okS t.vars := by
  conv => lhs; unfold okMono
  rw [eMono]; simp only [okL_cons, okL_nil, okI_int, okI_str, okI_L, okS_fn, okTy_fn, okVal_fn, okTm_fn, okPl_fn, okMono_fn, and_true, and_assoc]
theorem zMono_eta (t : Mono) : zMono t = zSL t.vars := by
  conv => lhs; unfold zMono
  rw [eMono]; simp only [mL_cons, mL_nil, mI_int, mI_str, mI_L, mS_fn, mTy_fn, mVal_fn, mTm_fn, mPl_fn, mMono_fn, zSL, Nat.zero_add, Nat.add_zero, Nat.add_assoc]
def okAnn (b : Nat) (t : Ann) : Prop := okL b (eAnn t)
theorem okAnn_fn : (fun b t => okL b (eAnn t)) = okAnn := rfl
def zAnn (t : Ann) : Nat := mL (eAnn t)
theorem mAnn_fn : (fun t => mL (eAnn t)) = zAnn := rfl
theorem okAnn_down {B b : Nat} {t : Ann} (h : okAnn B t) (g : zAnn t ≤ b) : okAnn b t := okL_down h g
theorem okAnn_iff0 {b : Nat} {t : Ann} : okAnn b t ↔ okVal b t.value ∧ okLs b okMono t.poly := by
  conv => lhs; unfold okAnn
  rw [eAnn_eta, okVal_iff]; simp only [okL_cons, okL_nil, okI_int, okI_str, okI_L, okS_fn, okTy_fn, okVal_fn, okTm_fn, okPl_fn, okMono_fn, okAnn_fn, and_true, and_assoc]
theorem zAnn_eta0 (t : Ann) : zAnn t = zVal t.value + zL zMono t.poly := by
  conv => lhs; unfold zAnn
  rw [eAnn_eta, zVal_eta]; simp only [mL_cons, mL_nil, mI_int, mI_str, mI_L, mS_fn, mTy_fn, mVal_fn, mTm_fn, mPl_fn, mMono_fn, mAnn_fn, zSL, Nat.zero_add, Nat.add_zero, Nat.add_assoc]
def okDecl (b : Nat) (t : Decl) : Prop := okL b (eDecl t)
theorem okDecl_fn : (fun b t => okL b (eDecl t)) = okDecl := rfl
def zDecl (t : Decl) : Nat := mL (eDecl t)
theorem mDecl_fn : (fun t => mL (eDecl t)) = zDecl := rfl
theorem okDecl_down {B b : Nat} {t : Decl} (h : okDecl B t) (g : zDecl t ≤ b) : okDecl b t := okL_down h g
theorem okDecl_iff {b : Nat} {t : Decl} : okDecl b t ↔ okS b t.name ∧ okTy b t.row := by
  conv => lhs; unfold okDecl
  rw [eDecl_eta, okTy_iff]; simp only [okL_cons, okL_nil, okI_int, okI_str, okI_L, okS_fn, okTy_fn, okVal_fn, okTm_fn, okPl_fn, okMono_fn, okAnn_fn, okDecl_fn, and_true, and_assoc]
theorem zDecl_eta (t : Decl) : zDecl t = zS t.name + zTy t.row := by
  conv => lhs; unfold zDecl
  rw [eDecl_eta, zTy_eta]; simp only [mL_cons, mL_nil, mI_int, mI_str, mI_L, mS_fn, mTy_fn, mVal_fn, mTm_fn, mPl_fn, mMono_fn, mAnn_fn, mDecl_fn, zSL, Nat.zero_add, Nat.add_zero, Nat.add_assoc]
def okTData (b : Nat) (t : TData) : Prop := okL b (eTData t)
theorem okTData_fn : (fun b t => okL b (eTData t)) = okTData := rfl
def zTData (t : TData) : Nat := mL (eTData t)
theorem mTData_fn : (fun t => mL (eTData t)) = zTData := rfl
theorem okTData_down {B b : Nat} {t : TData} (h : okTData B t) (g : zTData t ≤ b) : okTData b t := okL_down h g
theorem okTData_iff {b : Nat} {t : TData} : okTData b t ↔ okS b t.name ∧ okLs b okVal t.rows := by
  conv => lhs; unfold okTData
  rw [eTData]; simp only [okL_cons, okL_nil, okI_int, okI_str, okI_L, okS_fn, okTy_fn, okVal_fn, okTm_fn, okPl_fn, okMono_fn, okAnn_fn, okDecl_fn, okTData_fn, and_true, and_assoc]
theorem zTData_eta (t : TData) : zTData t = zS t.name + zL zVal t.rows := by
  conv => lhs; unfold zTData
  rw [eTData]; simp only [mL_cons, mL_nil, mI_int, mI_str, mI_L, mS_fn, mTy_fn, mVal_fn, mTm_fn, mPl_fn, mMono_fn, mAnn_fn, mDecl_fn, mTData_fn, zSL, Nat.zero_add, Nat.add_zero, Nat.add_assoc]
def okGn (b : Nat) (t : Gn) : Prop := okL b (eGn t)
theorem okGn_fn : (fun b t => okL b (eGn t)) = okGn := rfl
def zGn (t : Gn) : Nat := mL (eGn t)
theorem mGn_fn : (fun t => mL (eGn t)) = zGn := rfl
theorem okGn_down {B b : Nat} {t : Gn} (h : okGn B t) (g : zGn t ≤ b) : okGn b t := okL_down h g
theorem okGn_iff {b : Nat} {t : Gn} : okGn b t ↔ okS b t.var ∧ okS b t.table := by
  conv => lhs; unfold okGn
  rw [eGn]; simp only [okL_cons, okL_nil, okI_int, okI_str, okI_L, okS_fn, okTy_fn, okVal_fn, okTm_fn, okPl_fn, okMono_fn, okAnn_fn, okDecl_fn, okTData_fn, okGn_fn, and_true, and_assoc]
theorem zGn_eta (t : Gn) : zGn t = zS t.var + zS t.table := by
  conv => lhs; unfold zGn
  rw [eGn]; simp only [mL_cons, mL_nil, mI_int, mI_str, mI_L, mS_fn, mTy_fn, mVal_fn, mTm_fn, mPl_fn, mMono_fn, mAnn_fn, mDecl_fn, mTData_fn, mGn_fn, zSL, Nat.zero_add, Nat.add_zero, Nat.add_assoc]
def okVw (b : Nat) (t : Vw) : Prop := okL b (eVw t)
theorem okVw_fn : (fun b t => okL b (eVw t)) = okVw := rfl
def zVw (t : Vw) : Nat := mL (eVw t)
theorem mVw_fn : (fun t => mL (eVw t)) = zVw := rfl
theorem okVw_down {B b : Nat} {t : Vw} (h : okVw B t) (g : zVw t ≤ b) : okVw b t := okL_down h g
theorem okVw_iff {b : Nat} {t : Vw} : okVw b t ↔ okS b t.table ∧ okTm b t.cond ∧ okLs b okS t.cols ∧ okS b t.key := by
  conv => lhs; unfold okVw
  rw [eVw_eta, okTm_iff, okTy_iff]; simp only [okL_cons, okL_nil, okI_int, okI_str, okI_L, okS_fn, okTy_fn, okVal_fn, okTm_fn, okPl_fn, okMono_fn, okAnn_fn, okDecl_fn, okTData_fn, okGn_fn, okVw_fn, and_true, and_assoc]
theorem zVw_eta (t : Vw) : zVw t = zS t.table + zTm t.cond + zSL t.cols + zS t.key := by
  conv => lhs; unfold zVw
  rw [eVw_eta, zTm_eta, zTy_eta]; simp only [mL_cons, mL_nil, mI_int, mI_str, mI_L, mS_fn, mTy_fn, mVal_fn, mTm_fn, mPl_fn, mMono_fn, mAnn_fn, mDecl_fn, mTData_fn, mGn_fn, mVw_fn, zSL, Nat.zero_add, Nat.add_zero, Nat.add_assoc]
theorem Ty.mem {t u : Ty} (h : u ∈ t.args) : SizeOf.sizeOf u < SizeOf.sizeOf t := by
  cases t with
  | mk k l a => have := List.sizeOf_lt_of_mem h; simp only [Ty.mk.sizeOf_spec, Ty.args] at *; omega
theorem Val.mem {t u : Val} (h : u ∈ t.args) : SizeOf.sizeOf u < SizeOf.sizeOf t := by
  cases t with
  | mk k n l a => have := List.sizeOf_lt_of_mem h; simp only [Val.mk.sizeOf_spec, Val.args] at *; omega
theorem Tm.mem {t u : Tm} (h : u ∈ t.args) : SizeOf.sizeOf u < SizeOf.sizeOf t := by
  cases t with
  | mk k s n t l a => have := List.sizeOf_lt_of_mem h; simp only [Tm.mk.sizeOf_spec, Tm.args] at *; omega
theorem Pl.mem {t u : Pl} (h : u ∈ t.args) : SizeOf.sizeOf u < SizeOf.sizeOf t := by
  cases t with
  | mk k s n t l a => have := List.sizeOf_lt_of_mem h; simp only [Pl.mk.sizeOf_spec, Pl.args] at *; omega
def ePoly (l : List Mono) : List IV := [slI eMono l]
theorem ePoly_eta (l : List Mono) : ePoly l = [slI eMono l] := rfl
instance : Wid ePoly 1 := ⟨fun _ => rfl⟩
def okPoly (b : Nat) (t : List Mono) : Prop := okL b (ePoly t)
theorem okPoly_fn : (fun b t => okL b (ePoly t)) = okPoly := rfl
def zPoly (t : List Mono) : Nat := mL (ePoly t)
theorem mPoly_fn : (fun t => mL (ePoly t)) = zPoly := rfl
theorem okPoly_down {B b : Nat} {t : List Mono} (h : okPoly B t) (g : zPoly t ≤ b) : okPoly b t := okL_down h g
theorem okPoly_iff {b : Nat} {t : List Mono} : okPoly b t ↔ okLs b okMono t := by
  conv => lhs; unfold okPoly
  rw [ePoly]; simp only [okL_cons, okL_nil, okI_L, okMono_fn, and_true]
theorem zPoly_eta (t : List Mono) : zPoly t = zL zMono t := by
  conv => lhs; unfold zPoly
  rw [ePoly]; simp only [mL_cons, mL_nil, mI_L, mMono_fn, Nat.add_zero]
def eSch (l : List Decl) : List IV := [slI eDecl l]
theorem eSch_eta (l : List Decl) : eSch l = [slI eDecl l] := rfl
instance : Wid eSch 1 := ⟨fun _ => rfl⟩
def okSch (b : Nat) (t : List Decl) : Prop := okL b (eSch t)
theorem okSch_fn : (fun b t => okL b (eSch t)) = okSch := rfl
def zSch (t : List Decl) : Nat := mL (eSch t)
theorem mSch_fn : (fun t => mL (eSch t)) = zSch := rfl
theorem okSch_down {B b : Nat} {t : List Decl} (h : okSch B t) (g : zSch t ≤ b) : okSch b t := okL_down h g
theorem okSch_iff {b : Nat} {t : List Decl} : okSch b t ↔ okLs b okDecl t := by
  conv => lhs; unfold okSch
  rw [eSch]; simp only [okL_cons, okL_nil, okI_L, okDecl_fn, and_true]
theorem zSch_eta (t : List Decl) : zSch t = zL zDecl t := by
  conv => lhs; unfold zSch
  rw [eSch]; simp only [mL_cons, mL_nil, mI_L, mDecl_fn, Nat.add_zero]
def eDbs (l : List TData) : List IV := [slI eTData l]
theorem eDbs_eta (l : List TData) : eDbs l = [slI eTData l] := rfl
instance : Wid eDbs 1 := ⟨fun _ => rfl⟩
def okDbs (b : Nat) (t : List TData) : Prop := okL b (eDbs t)
theorem okDbs_fn : (fun b t => okL b (eDbs t)) = okDbs := rfl
def zDbs (t : List TData) : Nat := mL (eDbs t)
theorem mDbs_fn : (fun t => mL (eDbs t)) = zDbs := rfl
theorem okDbs_down {B b : Nat} {t : List TData} (h : okDbs B t) (g : zDbs t ≤ b) : okDbs b t := okL_down h g
theorem okDbs_iff {b : Nat} {t : List TData} : okDbs b t ↔ okLs b okTData t := by
  conv => lhs; unfold okDbs
  rw [eDbs]; simp only [okL_cons, okL_nil, okI_L, okTData_fn, and_true]
theorem zDbs_eta (t : List TData) : zDbs t = zL zTData t := by
  conv => lhs; unfold zDbs
  rw [eDbs]; simp only [mL_cons, mL_nil, mI_L, mTData_fn, Nat.add_zero]
theorem okAnn_iff {b : Nat} {t : Ann} : okAnn b t ↔ okVal b t.value ∧ okPoly b t.poly := by rw [okPoly_iff, okAnn_iff0]
theorem zAnn_eta (t : Ann) : zAnn t = zVal t.value + zPoly t.poly := by rw [zPoly_eta, zAnn_eta0]
theorem eMono_eta (t : Mono) : eMono t = [.sc (.int .i64 t.coef), slI eS t.vars] := rfl
theorem eTData_eta (t : TData) : eTData t = [.sc (.string t.name), slI eVal t.rows] := rfl
theorem eGn_eta (t : Gn) : eGn t = [.sc (.string t.var), .sc (.string t.table)] := rfl
/-- A key. -/
structure Kd where
  table : ByteArray
  label : ByteArray
def eKd (a : Kd) : List IV := [.sc (.string a.table), .sc (.string a.label)]
theorem eKd_eta (t : Kd) : eKd t = [.sc (.string t.table), .sc (.string t.label)] := rfl
instance : Wid eKd 2 := ⟨fun _ => rfl⟩
def okKd (b : Nat) (t : Kd) : Prop := okL b (eKd t)
def zKd (t : Kd) : Nat := mL (eKd t)
theorem okKd_down {B b : Nat} {t : Kd} (h : okKd B t) (g : zKd t ≤ b) : okKd b t := okL_down h g
theorem okKd_iff {b : Nat} {t : Kd} : okKd b t ↔ okS b t.table ∧ okS b t.label := by
  conv => lhs; unfold okKd
  rw [eKd]; simp only [okL_cons, okL_nil, okI_str, and_true]
theorem zKd_eta (t : Kd) : zKd t = zS t.table + zS t.label := by
  conv => lhs; unfold zKd
  rw [eKd]; simp only [mL_cons, mL_nil, mI_str, Nat.add_zero]
/-- What a session holds. -/
structure Ses where
  schema : List Decl
  db : List TData
  query : Tm
  other : Tm
def eSes (a : Ses) : List IV := slI eDecl a.schema :: slI eTData a.db :: (eTm a.query ++ eTm a.other)
theorem eSes_eta (a : Ses) : eSes a = [slI eDecl a.schema, slI eTData a.db, .sc (.int .i64 a.query.kind), .sc (.string a.query.name), .sc (.int .i64 a.query.n), .sc (.int .i64 a.query.ty.kind), slI eS a.query.ty.labels, slI eTy a.query.ty.args, slI eS a.query.labels, slI eTm a.query.args, .sc (.int .i64 a.other.kind), .sc (.string a.other.name), .sc (.int .i64 a.other.n), .sc (.int .i64 a.other.ty.kind), slI eS a.other.ty.labels, slI eTy a.other.ty.args, slI eS a.other.labels, slI eTm a.other.args] := by rw [eSes, eTm_eta, eTm_eta]; rfl
instance : Wid eSes 18 := ⟨fun t => by rw [eSes_eta]; rfl⟩
def okSes (b : Nat) (t : Ses) : Prop := okL b (eSes t)
def zSes (t : Ses) : Nat := mL (eSes t)
theorem okSes_down {B b : Nat} {t : Ses} (h : okSes B t) (g : zSes t ≤ b) : okSes b t := okL_down h g
theorem okSes_iff {b : Nat} {t : Ses} : okSes b t ↔ okSch b t.schema ∧ okDbs b t.db ∧ okTm b t.query ∧ okTm b t.other := by
  conv => lhs; unfold okSes
  rw [eSes]; simp only [okL_cons, okL_append, okI_L, okDecl_fn, okTData_fn, okTm, okSch_iff, okDbs_iff]
theorem zSes_eta (t : Ses) : zSes t = zSch t.schema + zDbs t.db + zTm t.query + zTm t.other := by
  conv => lhs; unfold zSes
  rw [eSes]; simp only [mL_cons, mL_append, mI_L, mDecl_fn, mTData_fn, zTm, zSch_eta, zDbs_eta, Nat.add_assoc]
end Go.VC
/- When data are equal: no statement of a program. -/
set_option linter.unusedVariables false
namespace Go.VC
open Go
noncomputable instance : DecidableEq Ty := fun a b => Classical.propDecidable _
noncomputable instance : DecidableEq Val := fun a b => Classical.propDecidable _
noncomputable instance : DecidableEq Tm := fun a b => Classical.propDecidable _
noncomputable instance : DecidableEq Pl := fun a b => Classical.propDecidable _
noncomputable instance : DecidableEq Mono := fun a b => Classical.propDecidable _
noncomputable instance : DecidableEq Ann := fun a b => Classical.propDecidable _
noncomputable instance : DecidableEq Decl := fun a b => Classical.propDecidable _
noncomputable instance : DecidableEq TData := fun a b => Classical.propDecidable _
noncomputable instance : DecidableEq Vw := fun a b => Classical.propDecidable _
noncomputable instance : DecidableEq Ses := fun a b => Classical.propDecidable _
theorem Ty.ext {t u : Ty} (h1 : t.kind = u.kind) (h2 : t.labels = u.labels) (h3 : t.args = u.args) : t = u := by
  cases t; cases u; simp_all [Ty.kind, Ty.labels, Ty.args]
theorem Val.ext {t u : Val} (h1 : t.kind = u.kind) (h0 : t.n = u.n) (h2 : t.labels = u.labels) (h3 : t.args = u.args) : t = u := by
  cases t; cases u; simp_all [Val.kind, Val.n, Val.labels, Val.args]
theorem Tm.ext {t u : Tm} (h1 : t.kind = u.kind) (h4 : t.name = u.name) (h0 : t.n = u.n) (h5 : t.ty = u.ty) (h2 : t.labels = u.labels) (h3 : t.args = u.args) : t = u := by
  cases t; cases u; simp_all [Tm.kind, Tm.name, Tm.n, Tm.ty, Tm.labels, Tm.args]
theorem Mono.ext {t u : Mono} (h1 : t.coef = u.coef) (h2 : t.vars = u.vars) : t = u := by cases t; cases u; simp_all
theorem Ann.ext {t u : Ann} (h1 : t.value = u.value) (h2 : t.poly = u.poly) : t = u := by cases t; cases u; simp_all
theorem Decl.ext {t u : Decl} (h1 : t.name = u.name) (h2 : t.row = u.row) : t = u := by cases t; cases u; simp_all
theorem TData.ext {t u : TData} (h1 : t.name = u.name) (h2 : t.rows = u.rows) : t = u := by cases t; cases u; simp_all
theorem Vw.ext {t u : Vw} (h1 : t.table = u.table) (h2 : t.cond = u.cond) (h3 : t.cols = u.cols) (h4 : t.key = u.key) : t = u := by cases t; cases u; simp_all
theorem Ses.ext {t u : Ses} (h1 : t.schema = u.schema) (h2 : t.db = u.db) (h3 : t.query = u.query) (h4 : t.other = u.other) : t = u := by cases t; cases u; simp_all
theorem take_all {α : Type} {xs ys : List α} {i : Nat} (h : xs.take i = ys.take i) (hl : xs.length = ys.length) (hi : xs.length ≤ i) : xs = ys := by
  rw [List.take_of_length_le hi, List.take_of_length_le (by omega)] at h; exact h
theorem ne_len {α : Type} {xs ys : List α} (h : ¬ xs.length = ys.length) : xs ≠ ys := fun e => h (by rw [e])
theorem ne_at {α : Type} {xs ys : List α} {i : Nat} (hx : i < xs.length) (hy : i < ys.length) (h : ¬ xs[i] = ys[i]) : xs ≠ ys := fun e => h (by subst e; rfl)
end Go.VC
/- Heads, comprehensions, queries, as trees: no statement of a program. -/
set_option linter.unusedSimpArgs false
set_option linter.unusedVariables false
namespace Go.VC
open Go
mutual
/-- A head. -/
inductive Hd where
  | mk (kind : Int) (term : Tm) (labels : List ByteArray) (parts : List Hd) (query : List Cmp)
/-- A comprehension. -/
inductive Cmp where
  | mk (gens : List Gn) (wh : Tm) (head : Hd)
end
def Hd.kind : Hd → Int | .mk k _ _ _ _ => k
def Hd.term : Hd → Tm | .mk _ t _ _ _ => t
def Hd.labels : Hd → List ByteArray | .mk _ _ l _ _ => l
def Hd.parts : Hd → List Hd | .mk _ _ _ p _ => p
def Hd.query : Hd → List Cmp | .mk _ _ _ _ q => q
def Cmp.gens : Cmp → List Gn | .mk g _ _ => g
def Cmp.wh : Cmp → Tm | .mk _ w _ => w
def Cmp.head : Cmp → Hd | .mk _ _ h => h
instance : Inhabited Hd := ⟨.mk 0 default [] [] []⟩
instance : Inhabited Cmp := ⟨.mk [] default default⟩
mutual
def eHd : Hd → List IV
  | .mk k t l p q => [.sc (.int .i64 k)] ++ (eTm t ++ [slI eS l, .sl p.length (eHdL p), .sl q.length (eCmpL q)])
def eHdL : List Hd → List IV
  | [] => []
  | t :: r => eHd t ++ eHdL r
def eCmp : Cmp → List IV
  | .mk g w h => [slI eGn g] ++ (eTm w ++ eHd h)
def eCmpL : List Cmp → List IV
  | [] => []
  | t :: r => eCmp t ++ eCmpL r
end
theorem eHdL_eq : ∀ (l : List Hd), eHdL l = l.flatMap eHd
  | [] => by rw [eHdL]; rfl
  | t :: r => by rw [eHdL, eHdL_eq r, List.flatMap_cons]
theorem eCmpL_eq : ∀ (l : List Cmp), eCmpL l = l.flatMap eCmp
  | [] => by rw [eCmpL]; rfl
  | t :: r => by rw [eCmpL, eCmpL_eq r, List.flatMap_cons]
theorem eHd_app (t : Hd) : eHd t = [.sc (.int .i64 t.kind)] ++ (eTm t.term ++ ([slI eS t.labels, slI eHd t.parts, slI eCmp t.query])) := by
  cases t with
  | mk k t l p q => rw [eHd, eHdL_eq, eCmpL_eq]; rfl
theorem eCmp_app (t : Cmp) : eCmp t = [slI eGn t.gens] ++ (eTm t.wh ++ (eHd t.head)) := by
  cases t with
  | mk g w h => rw [eCmp]; rfl
theorem eHd_eta (t : Hd) : eHd t = [.sc (.int .i64 t.kind), .sc (.int .i64 t.term.kind), .sc (.string t.term.name), .sc (.int .i64 t.term.n), .sc (.int .i64 t.term.ty.kind), slI eS t.term.ty.labels, slI eTy t.term.ty.args, slI eS t.term.labels, slI eTm t.term.args, slI eS t.labels, slI eHd t.parts, slI eCmp t.query] := by rw [eHd_app, eTm_eta]; rfl
theorem eCmp_eta (t : Cmp) : eCmp t = [slI eGn t.gens, .sc (.int .i64 t.wh.kind), .sc (.string t.wh.name), .sc (.int .i64 t.wh.n), .sc (.int .i64 t.wh.ty.kind), slI eS t.wh.ty.labels, slI eTy t.wh.ty.args, slI eS t.wh.labels, slI eTm t.wh.args, .sc (.int .i64 t.head.kind), .sc (.int .i64 t.head.term.kind), .sc (.string t.head.term.name), .sc (.int .i64 t.head.term.n), .sc (.int .i64 t.head.term.ty.kind), slI eS t.head.term.ty.labels, slI eTy t.head.term.ty.args, slI eS t.head.term.labels, slI eTm t.head.term.args, slI eS t.head.labels, slI eHd t.head.parts, slI eCmp t.head.query] := by rw [eCmp_app, eTm_eta, eHd_eta]; rfl
instance : Wid eHd 12 := ⟨fun t => by rw [eHd_eta]; rfl⟩
instance : Wid eCmp 21 := ⟨fun t => by rw [eCmp_eta]; rfl⟩
def okHd (b : Nat) (t : Hd) : Prop := okL b (eHd t)
theorem okHd_fn : (fun b t => okL b (eHd t)) = okHd := rfl
def zHd (t : Hd) : Nat := mL (eHd t)
theorem mHd_fn : (fun t => mL (eHd t)) = zHd := rfl
theorem okHd_down {B b : Nat} {t : Hd} (h : okHd B t) (g : zHd t ≤ b) : okHd b t := okL_down h g
def okCmp (b : Nat) (t : Cmp) : Prop := okL b (eCmp t)
theorem okCmp_fn : (fun b t => okL b (eCmp t)) = okCmp := rfl
def zCmp (t : Cmp) : Nat := mL (eCmp t)
theorem mCmp_fn : (fun t => mL (eCmp t)) = zCmp := rfl
theorem okCmp_down {B b : Nat} {t : Cmp} (h : okCmp B t) (g : zCmp t ≤ b) : okCmp b t := okL_down h g
theorem okHd_iff {b : Nat} {t : Hd} : okHd b t ↔ ok64 t.kind ∧ okTm b t.term ∧ okLs b okS t.labels ∧ okLs b okHd t.parts ∧ okLs b okCmp t.query := by
  conv => lhs; unfold okHd
  rw [eHd_app]; simp only [okL_append, okL_cons, okL_nil, okI_int, okI_str, okI_L, okS_fn, okTy_fn, okVal_fn, okTm_fn, okPl_fn, okMono_fn, okAnn_fn, okDecl_fn, okTData_fn, okGn_fn, okHd_fn, okCmp_fn, and_true, true_and, and_assoc, okTm]
theorem zHd_eta (t : Hd) : zHd t = zTm t.term + zSL t.labels + zL zHd t.parts + zL zCmp t.query := by
  conv => lhs; unfold zHd
  rw [eHd_app]; simp only [mL_append, mL_cons, mL_nil, mI_int, mI_str, mI_L, mS_fn, mTy_fn, mVal_fn, mTm_fn, mPl_fn, mMono_fn, mAnn_fn, mDecl_fn, mTData_fn, mGn_fn, mHd_fn, mCmp_fn, zSL, Nat.zero_add, Nat.add_zero, Nat.add_assoc, zTm]
theorem okCmp_iff {b : Nat} {t : Cmp} : okCmp b t ↔ okLs b okGn t.gens ∧ okTm b t.wh ∧ okHd b t.head := by
  conv => lhs; unfold okCmp
  rw [eCmp_app]; simp only [okL_append, okL_cons, okL_nil, okI_int, okI_str, okI_L, okS_fn, okTy_fn, okVal_fn, okTm_fn, okPl_fn, okMono_fn, okAnn_fn, okDecl_fn, okTData_fn, okGn_fn, okHd_fn, okCmp_fn, and_true, true_and, and_assoc, okTm, okHd]
theorem zCmp_eta (t : Cmp) : zCmp t = zL zGn t.gens + zTm t.wh + zHd t.head := by
  conv => lhs; unfold zCmp
  rw [eCmp_app]; simp only [mL_append, mL_cons, mL_nil, mI_int, mI_str, mI_L, mS_fn, mTy_fn, mVal_fn, mTm_fn, mPl_fn, mMono_fn, mAnn_fn, mDecl_fn, mTData_fn, mGn_fn, mHd_fn, mCmp_fn, zSL, Nat.zero_add, Nat.add_zero, Nat.add_assoc, zTm, zHd]
/-- A query: its comprehensions. -/
def eQr (l : List Cmp) : List IV := [slI eCmp l]
theorem eQr_eta (l : List Cmp) : eQr l = [slI eCmp l] := rfl
instance : Wid eQr 1 := ⟨fun _ => rfl⟩
def okQr (b : Nat) (t : List Cmp) : Prop := okL b (eQr t)
theorem okQr_fn : (fun b t => okL b (eQr t)) = okQr := rfl
def zQr (t : List Cmp) : Nat := mL (eQr t)
theorem mQr_fn : (fun t => mL (eQr t)) = zQr := rfl
theorem okQr_down {B b : Nat} {t : List Cmp} (h : okQr B t) (g : zQr t ≤ b) : okQr b t := okL_down h g
theorem okQr_iff {b : Nat} {t : List Cmp} : okQr b t ↔ okLs b okCmp t := by
  conv => lhs; unfold okQr
  rw [eQr]; simp only [okL_cons, okL_nil, okI_L, okCmp_fn, and_true]
theorem zQr_eta (t : List Cmp) : zQr t = zL zCmp t := by
  conv => lhs; unfold zQr
  rw [eQr]; simp only [mL_cons, mL_nil, mI_L, mCmp_fn, Nat.add_zero]
theorem okHd_iff' {b : Nat} {t : Hd} : okHd b t ↔ ok64 t.kind ∧ okTm b t.term ∧ okLs b okS t.labels ∧ okLs b okHd t.parts ∧ okQr b t.query := by rw [okHd_iff, okQr_iff]
theorem zHd_eta' (t : Hd) : zHd t = zTm t.term + zSL t.labels + zL zHd t.parts + zQr t.query := by rw [zHd_eta, zQr_eta]
theorem Hd.ext {t u : Hd} (h1 : t.kind = u.kind) (h2 : t.term = u.term) (h3 : t.labels = u.labels) (h4 : t.parts = u.parts) (h5 : t.query = u.query) : t = u := by
  cases t; cases u; simp_all [Hd.kind, Hd.term, Hd.labels, Hd.parts, Hd.query]
theorem Cmp.ext {t u : Cmp} (h1 : t.gens = u.gens) (h2 : t.wh = u.wh) (h3 : t.head = u.head) : t = u := by
  cases t; cases u; simp_all [Cmp.gens, Cmp.wh, Cmp.head]
noncomputable instance : DecidableEq Hd := fun a b => Classical.propDecidable _
noncomputable instance : DecidableEq Cmp := fun a b => Classical.propDecidable _
theorem Hd.memP {t u : Hd} (h : u ∈ t.parts) : SizeOf.sizeOf u < SizeOf.sizeOf t := by
  cases t with
  | mk k t l p q => have := List.sizeOf_lt_of_mem h; simp only [Hd.mk.sizeOf_spec, Hd.parts] at *; omega
theorem Hd.memQ {t : Hd} {c : Cmp} (h : c ∈ t.query) : SizeOf.sizeOf c < SizeOf.sizeOf t := by
  cases t with
  | mk k t l p q => have := List.sizeOf_lt_of_mem h; simp only [Hd.mk.sizeOf_spec, Hd.query] at *; omega
theorem Cmp.memH (c : Cmp) : SizeOf.sizeOf c.head < SizeOf.sizeOf c := by
  cases c with
  | mk g w h => simp only [Cmp.mk.sizeOf_spec, Cmp.head]; omega
end Go.VC
/- Flat data, as trees: no statement of a program. -/
set_option linter.unusedSimpArgs false
set_option linter.unusedVariables false
namespace Go.VC
open Go
/-- A flat comprehension. -/
structure FC where
  outer : Int
  outerGens : Int
  tag : Int
  gens : List Gn
  wh : Tm
  cols : List Tm
def eFC (a : FC) : List IV := [.sc (.int .i64 a.outer), .sc (.int .i64 a.outerGens), .sc (.int .i64 a.tag), slI eGn a.gens] ++ (eTm a.wh ++ ([slI eTm a.cols]))
theorem eFC_app (a : FC) : eFC a = [.sc (.int .i64 a.outer), .sc (.int .i64 a.outerGens), .sc (.int .i64 a.tag), slI eGn a.gens] ++ (eTm a.wh ++ ([slI eTm a.cols])) := rfl
theorem eFC_eta (a : FC) : eFC a = [.sc (.int .i64 a.outer), .sc (.int .i64 a.outerGens), .sc (.int .i64 a.tag), slI eGn a.gens, .sc (.int .i64 a.wh.kind), .sc (.string a.wh.name), .sc (.int .i64 a.wh.n), .sc (.int .i64 a.wh.ty.kind), slI eS a.wh.ty.labels, slI eTy a.wh.ty.args, slI eS a.wh.labels, slI eTm a.wh.args, slI eTm a.cols] := by rw [eFC, eTm_eta]; rfl
instance : Wid eFC 13 := ⟨fun t => by rw [eFC_eta]; rfl⟩
def okFC (b : Nat) (t : FC) : Prop := okL b (eFC t)
theorem okFC_fn : (fun b t => okL b (eFC t)) = okFC := rfl
def zFC (t : FC) : Nat := mL (eFC t)
theorem mFC_fn : (fun t => mL (eFC t)) = zFC := rfl
theorem okFC_down {B b : Nat} {t : FC} (h : okFC B t) (g : zFC t ≤ b) : okFC b t := okL_down h g
theorem okFC_iff {b : Nat} {t : FC} : okFC b t ↔ ok64 t.outer ∧ ok64 t.outerGens ∧ ok64 t.tag ∧ okLs b okGn t.gens ∧ okTm b t.wh ∧ okLs b okTm t.cols := by
  conv => lhs; unfold okFC
  rw [eFC_app]; simp only [okL_append, okL_cons, okL_nil, okI_int, okI_str, okI_L, okS_fn, okTy_fn, okVal_fn, okTm_fn, okPl_fn, okMono_fn, okAnn_fn, okDecl_fn, okTData_fn, okGn_fn, okHd_fn, okCmp_fn, okQr_fn, okFC_fn, and_true, true_and, and_assoc, okTm]
theorem zFC_eta (t : FC) : zFC t = zL zGn t.gens + zTm t.wh + zL zTm t.cols := by
  conv => lhs; unfold zFC
  rw [eFC_app]; simp only [mL_append, mL_cons, mL_nil, mI_int, mI_str, mI_L, mS_fn, mTy_fn, mVal_fn, mTm_fn, mPl_fn, mMono_fn, mAnn_fn, mDecl_fn, mTData_fn, mGn_fn, mHd_fn, mCmp_fn, mQr_fn, mFC_fn, zSL, Nat.zero_add, Nat.add_zero, Nat.add_assoc, zTm]
theorem FC.ext {t u : FC} (h0 : t.outer = u.outer) (h1 : t.outerGens = u.outerGens) (h2 : t.tag = u.tag) (h3 : t.gens = u.gens) (h4 : t.wh = u.wh) (h5 : t.cols = u.cols) : t = u := by cases t; cases u; simp_all
noncomputable instance : DecidableEq FC := fun a b => Classical.propDecidable _
/-- A flat query. -/
structure FQ where
  path : List ByteArray
  comps : List FC
def eFQ (a : FQ) : List IV := [slI eS a.path, slI eFC a.comps]
theorem eFQ_app (a : FQ) : eFQ a = [slI eS a.path, slI eFC a.comps] := rfl
theorem eFQ_eta (a : FQ) : eFQ a = [slI eS a.path, slI eFC a.comps] := by rfl
instance : Wid eFQ 2 := ⟨fun t => by rw [eFQ_eta]; rfl⟩
def okFQ (b : Nat) (t : FQ) : Prop := okL b (eFQ t)
theorem okFQ_fn : (fun b t => okL b (eFQ t)) = okFQ := rfl
def zFQ (t : FQ) : Nat := mL (eFQ t)
theorem mFQ_fn : (fun t => mL (eFQ t)) = zFQ := rfl
theorem okFQ_down {B b : Nat} {t : FQ} (h : okFQ B t) (g : zFQ t ≤ b) : okFQ b t := okL_down h g
theorem okFQ_iff {b : Nat} {t : FQ} : okFQ b t ↔ okLs b okS t.path ∧ okLs b okFC t.comps := by
  conv => lhs; unfold okFQ
  rw [eFQ_app]; simp only [okL_append, okL_cons, okL_nil, okI_int, okI_str, okI_L, okS_fn, okTy_fn, okVal_fn, okTm_fn, okPl_fn, okMono_fn, okAnn_fn, okDecl_fn, okTData_fn, okGn_fn, okHd_fn, okCmp_fn, okQr_fn, okFC_fn, okFQ_fn, and_true, true_and, and_assoc]
theorem zFQ_eta (t : FQ) : zFQ t = zSL t.path + zL zFC t.comps := by
  conv => lhs; unfold zFQ
  rw [eFQ_app]; simp only [mL_append, mL_cons, mL_nil, mI_int, mI_str, mI_L, mS_fn, mTy_fn, mVal_fn, mTm_fn, mPl_fn, mMono_fn, mAnn_fn, mDecl_fn, mTData_fn, mGn_fn, mHd_fn, mCmp_fn, mQr_fn, mFC_fn, mFQ_fn, zSL, Nat.zero_add, Nat.add_zero, Nat.add_assoc]
theorem FQ.ext {t u : FQ} (h0 : t.path = u.path) (h1 : t.comps = u.comps) : t = u := by cases t; cases u; simp_all
noncomputable instance : DecidableEq FQ := fun a b => Classical.propDecidable _
end Go.VC
/- Marks: every scalar that a row leads to, numbered in order: no statement of a program. -/
set_option linter.unusedSimpArgs false
set_option linter.unusedVariables false
namespace Go.VC
open Go
section
variable (mT : Int → ByteArray)
mutual
def cnI : IV → Nat
  | .sc (.int _ _) => 1
  | .sc (.string _) => 1
  | .sl _ cs => cnL cs
  | _ => 0
def cnL : List IV → Nat
  | [] => 0
  | x :: r => cnI x + cnL r
end
mutual
def mkI (k : Int) : IV → IV
  | .sc (.int i _) => .sc (.int i k)
  | .sc (.string _) => .sc (.string (mT k))
  | .sl n cs => .sl n (mkL k cs)
  | x => x
def mkL (k : Int) : List IV → List IV
  | [] => []
  | x :: r => mkI k x :: mkL (k + cnI x) r
end
theorem cnL_append : ∀ {a b : List IV}, cnL (a ++ b) = cnL a + cnL b
  | [], b => by simp [cnL]
  | x :: r, b => by simp only [List.cons_append, cnL, cnL_append (a := r), Nat.add_assoc]
theorem mkL_append : ∀ {k : Int} {a b : List IV}, mkL mT k (a ++ b) = mkL mT k a ++ mkL mT (k + cnL a) b
  | k, [], b => by simp [mkL, cnL]
  | k, x :: r, b => by
    simp only [List.cons_append, mkL, cnL, mkL_append (a := r)]
    rw [show k + ((cnI x + cnL r : Nat) : Int) = k + (cnI x : Int) + (cnL r : Int) by omega]
theorem mkL_len : ∀ {k : Int} {a : List IV}, (mkL mT k a).length = a.length
  | _, [] => rfl
  | k, x :: r => by simp only [mkL, List.length_cons, mkL_len (a := r)]
variable {α : Type} {E : α → List IV} {z : Nat}
/-- The row at element i's turn. -/
def mkA (E : α → List IV) (k : Int) (xs : List α) (i : Nat) : List IV := mkL mT k ((xs.take i).flatMap E)
/-- How many marks there are before element i. -/
def cnT (E : α → List IV) (xs : List α) (i : Nat) : Nat := cnL ((xs.take i).flatMap E)
theorem mkA_len [Wid E z] {k : Int} {xs : List α} {i : Nat} (h : i ≤ xs.length) : (mkA mT E k xs i).length = i * z := by
  rw [mkA, mkL_len, flat_len', List.length_take, Nat.min_eq_left h]
theorem mkA_zero {k : Int} {xs : List α} : mkA mT E k xs 0 = [] := by simp [mkA, mkL]
theorem cnT_zero {xs : List α} : cnT E xs 0 = 0 := by simp [cnT, cnL]
theorem cnT_succ {xs : List α} {i : Nat} (h : i < xs.length) : cnT E xs (i + 1) = cnT E xs i + cnL (E xs[i]) := by
  rw [cnT, take_at h, List.flatMap_append, cnL_append, flat_one, cnT]
theorem mkA_succ {k : Int} {xs : List α} {i : Nat} (h : i < xs.length) : mkA mT E k xs (i + 1) = mkA mT E k xs i ++ mkL mT (k + cnT E xs i) (E xs[i]) := by
  rw [mkA, take_at h, List.flatMap_append, mkL_append, flat_one, mkA, cnT]
theorem mkA_all {k : Int} {xs : List α} {i : Nat} (h : xs.length ≤ i) : mkA mT E k xs i = mkL mT k (xs.flatMap E) := by rw [mkA, List.take_of_length_le h]
theorem cnT_all {xs : List α} {i : Nat} (h : xs.length ≤ i) : cnT E xs i = cnL (xs.flatMap E) := by rw [cnT, List.take_of_length_le h]
theorem cnT_le {xs : List α} {i : Nat} : cnT E xs i ≤ cnL (xs.flatMap E) := by
  have : xs.flatMap E = (xs.take i).flatMap E ++ (xs.drop i).flatMap E := by rw [← List.flatMap_append, List.take_append_drop]
  rw [this, cnL_append]; unfold cnT; omega
theorem drop_flat {xs : List α} {i : Nat} (h : i < xs.length) : (xs.drop i).flatMap E = E xs[i] ++ (xs.drop (i + 1)).flatMap E := by rw [drop_at h, List.flatMap_cons]
theorem drop_all {xs : List α} {i : Nat} (h : xs.length ≤ i) : (xs.drop i).flatMap E = [] := by rw [List.drop_of_length_le h]; rfl
/-- What is left to mark, read from element i on. -/
theorem mk_drop [w : Wid E z] {k : Int} {xs : List α} {i : Nat} (h : i < xs.length) : (mkL mT k (xs.flatMap E)).drop (i * z) = mkL mT (k + cnT E xs i) (E xs[i]) ++ mkL mT (k + cnT E xs (i + 1)) ((xs.drop (i + 1)).flatMap E) := by
  have e : xs.flatMap E = (xs.take i).flatMap E ++ (E xs[i] ++ (xs.drop (i + 1)).flatMap E) := by
    rw [← drop_flat h, ← List.flatMap_append, List.take_append_drop]
  have hl : (mkL mT k ((xs.take i).flatMap E)).length = i * z := mkA_len mT (Nat.le_of_lt h)
  conv => lhs; rw [e, mkL_append]
  rw [List.drop_left' hl, mkL_append, cnT_succ h, cnT]
  congr 2
  omega
theorem pt_mk [w : Wid E z] {k : Int} {xs : List α} {i : Nat} (h : i < xs.length) : IV.pt ((mkL mT k (xs.flatMap E)).drop (i * z)) = .pt (mkL mT (k + cnT E xs i) (E xs[i]) ++ mkL mT (k + cnT E xs (i + 1)) ((xs.drop (i + 1)).flatMap E)) := by rw [mk_drop mT h]
theorem pt_mk1 [w : Wid E 1] {k : Int} {xs : List α} {i : Nat} (h : i < xs.length) : IV.pt ((mkL mT k (xs.flatMap E)).drop i) = .pt (mkL mT (k + cnT E xs i) (E xs[i]) ++ mkL mT (k + cnT E xs (i + 1)) ((xs.drop (i + 1)).flatMap E)) := by
  have := pt_mk mT (E := E) (z := 1) (k := k) h
  rwa [Nat.mul_one] at this
end
section
variable (mT : Int → ByteArray)
theorem mkL_i {k a : Int} {i : IntKind} {r : List IV} : mkL mT k (.sc (.int i a) :: r) = .sc (.int i k) :: mkL mT (k + 1) r := by rw [mkL, mkI, cnI]; rfl
theorem mkL_s {k : Int} {s : ByteArray} {r : List IV} : mkL mT k (.sc (.string s) :: r) = .sc (.string (mT k)) :: mkL mT (k + 1) r := by rw [mkL, mkI, cnI]; rfl
theorem mkL_l {k : Int} {n : Nat} {cs r : List IV} : mkL mT k (.sl n cs :: r) = .sl n (mkL mT k cs) :: mkL mT (k + (cnL cs : Int)) r := by rw [mkL, mkI, cnI]
theorem mkL_n {k : Int} : mkL mT k [] = [] := by rw [mkL]
end
theorem cnL_i {a : Int} {i : IntKind} {r : List IV} : cnL (.sc (.int i a) :: r) = cnL r + 1 := by rw [cnL, cnI]; omega
theorem cnL_s {s : ByteArray} {r : List IV} : cnL (.sc (.string s) :: r) = cnL r + 1 := by rw [cnL, cnI]; omega
theorem cnL_l {n : Nat} {cs r : List IV} : cnL (.sl n cs :: r) = cnL cs + cnL r := by rw [cnL, cnI]
theorem cnL_n : cnL [] = 0 := by rw [cnL]
/-- Each element bears at least one mark. -/
class Cn1 {α : Type} (E : α → List IV) : Prop where
  one : ∀ a, 1 ≤ cnL (E a)
instance : Cn1 eS := ⟨fun _ => by simp only [eS, cnL_s, cnL_n]; omega⟩
instance : Cn1 eI := ⟨fun _ => by simp only [eI, cnL_i, cnL_n]; omega⟩
instance : Cn1 eTy := ⟨fun _ => by rw [eTy_eta]; simp only [cnL_i]; omega⟩
instance : Cn1 eVal := ⟨fun _ => by rw [eVal_eta]; simp only [cnL_i]; omega⟩
instance : Cn1 eTm := ⟨fun _ => by rw [eTm_eta]; simp only [cnL_i]; omega⟩
instance : Cn1 ePl := ⟨fun _ => by rw [ePl_eta]; simp only [cnL_i]; omega⟩
instance : Cn1 eMono := ⟨fun _ => by rw [eMono_eta]; simp only [cnL_i]; omega⟩
instance : Cn1 eAnn := ⟨fun _ => by rw [eAnn_eta]; simp only [cnL_i]; omega⟩
instance : Cn1 eDecl := ⟨fun _ => by rw [eDecl_eta]; simp only [cnL_s]; omega⟩
instance : Cn1 eTData := ⟨fun _ => by rw [eTData_eta]; simp only [cnL_s]; omega⟩
instance : Cn1 eGn := ⟨fun _ => by rw [eGn_eta]; simp only [cnL_s]; omega⟩
instance : Cn1 eKd := ⟨fun _ => by rw [eKd_eta]; simp only [cnL_s]; omega⟩
instance : Cn1 eHd := ⟨fun _ => by rw [eHd_eta]; simp only [cnL_i]; omega⟩
instance : Cn1 eCmp := ⟨fun _ => by rw [eCmp_eta]; simp only [slI, cnL_l, cnL_i]; omega⟩
instance : Cn1 eFC := ⟨fun _ => by rw [eFC_eta]; simp only [cnL_i]; omega⟩
theorem cnL_len {α : Type} {E : α → List IV} [c : Cn1 E] : ∀ {xs : List α}, xs.length ≤ cnL (xs.flatMap E)
  | [] => by simp
  | x :: r => by
    have h1 := c.one x
    have h2 := cnL_len (E := E) (xs := r)
    rw [List.flatMap_cons, cnL_append, List.length_cons]; omega
theorem Ty.lt_args (t : Ty) : SizeOf.sizeOf t.args < SizeOf.sizeOf t := by cases t; simp only [Ty.mk.sizeOf_spec, Ty.args]; omega
theorem Val.lt_args (t : Val) : SizeOf.sizeOf t.args < SizeOf.sizeOf t := by cases t; simp only [Val.mk.sizeOf_spec, Val.args]; omega
theorem Tm.lt_args (t : Tm) : SizeOf.sizeOf t.args < SizeOf.sizeOf t := by cases t; simp only [Tm.mk.sizeOf_spec, Tm.args]; omega
theorem Pl.lt_args (t : Pl) : SizeOf.sizeOf t.args < SizeOf.sizeOf t := by cases t; simp only [Pl.mk.sizeOf_spec, Pl.args]; omega
theorem Hd.lt_parts (t : Hd) : SizeOf.sizeOf t.parts < SizeOf.sizeOf t := by cases t; simp only [Hd.mk.sizeOf_spec, Hd.parts]; omega
theorem Hd.lt_query (t : Hd) : SizeOf.sizeOf t.query < SizeOf.sizeOf t := by cases t; simp only [Hd.mk.sizeOf_spec, Hd.query]; omega
theorem Cmp.lt_parts (t : Cmp) : SizeOf.sizeOf t.head.parts < SizeOf.sizeOf t := by have := Cmp.memH t; have := Hd.lt_parts t.head; omega
theorem Cmp.lt_query (t : Cmp) : SizeOf.sizeOf t.head.query < SizeOf.sizeOf t := by have := Cmp.memH t; have := Hd.lt_query t.head; omega
/-! The cells of a row, from an element on. -/
theorem ivl {A B : List IV} : (A ++ B).length = A.length + B.length := List.length_append
theorem iv0 {a v : IV} {l : List IV} : (a :: l).set 0 v = v :: l := rfl
theorem ivs {a v : IV} {l : List IV} {n : Nat} : (a :: l).set (n + 1) v = a :: l.set n v := rfl
theorem mid_set {A : List IV} {m : Nat} (c : Nat) (h : A.length = m) (D : List IV) (v : IV) : (A ++ D).set (m + c) v = A ++ D.set c v := by
  subst h
  rw [List.set_append_right _ _ (by omega), Nat.add_sub_cancel_left]
theorem mid_set0 {A : List IV} {m : Nat} (h : A.length = m) (D : List IV) (v : IV) : (A ++ D).set m v = A ++ D.set 0 v := mid_set 0 h D v
theorem mid_get {A : List IV} {m : Nat} (c : Nat) (h : A.length = m) (D : List IV) : (A ++ D)[m + c]? = D[c]? := by
  subst h
  rw [List.getElem?_append_right (by omega), Nat.add_sub_cancel_left]
theorem mid_get0 {A : List IV} {m : Nat} (h : A.length = m) (D : List IV) : (A ++ D)[m]? = D[0]? := mid_get 0 h D
theorem mid_drop {A D : List IV} {m : Nat} (h : A.length = m) : (A ++ D).drop m = D := List.drop_left' h
end Go.VC
/- Functions on texts and numbers: what each returns. -/
namespace Go.VC.T
open Go Go.VC Go.Proofs Go.VC.F
set_option linter.unusedSimpArgs false
set_option linter.unusedVariables false
set_option linter.defProp false
set_option maxRecDepth 100000
def fc147A1 := (And.intro (And.intro (And.intro (And.intro sz3 ag3) (And.intro zv3 un3)) (And.intro (And.intro sz4 ag4) (And.intro zv4 (And.intro un4 sz9)))) (And.intro (And.intro (And.intro ag9 zv9) (And.intro un9 (And.intro sz63 ag63))) (And.intro (And.intro zv63 sb63) (And.intro un63 (And.intro el63 ap63)))))
theorem eqStringS_ok (xs ys : List ByteArray) (hx : xs.length ≤ 2^48) : FnS Try.prog 147 [] [slT eS xs, slT eS ys] [] (bT (decide (xs = ys))) := by
  refine FnS.go [0, 1, 4, 5, 10, 14, 25] [] Try.func147 rfl (fun kt kz => ?_)
  have fcx := fc147A1
  simp only [Try.f147]
  refine Run (cast_succ) ?_; repeat' (first | (with_reducible exact True.intro) | (with_reducible refine Lf.mk ?_ ?_) | (with_reducible intro hb))
  · have : xs ≠ ys := fun h => hb (by rw [h])
    simp [this]
  · have hl : xs.length = ys.length := by omega
    refine Trn (α := Nat) [4, 5, 11, 12, 13, 14, 15, 16, 17, 18, 19, 20, 21, 22, 23, 24, 25] (fun i => [(5, iT i)]) (fun i => []) (fun i => i ≤ xs.length ∧ xs.take i = ys.take i) (fun i => xs.length - i) (0) (⟨Nat.zero_le _, rfl⟩) (cast_succ) ?_; intro lx hI; obtain i := lx; (try simp only [List.nil_append, List.cons_append] at hI ⊢)
    refine Run (@eS.eq_1) ?_; repeat' (first | (with_reducible exact True.intro) | (with_reducible refine Lf.mk ?_ ?_) | (with_reducible intro hb))
    · have : xs ≠ ys := fun h => hb (by subst h; rfl)
      simp [this]
    · exact Nxt (cast_succ) (lx + 1) (⟨by omega, take_eq_at hI.2 (by omega) (by omega) hb⟩) (by first | omega | (simp; omega))
    · have : xs = ys := by
        have h := hI.2
        rw [List.take_of_length_le (by omega), List.take_of_length_le (by omega)] at h; exact h
      simp [this]
def fc143A1 := (And.intro (And.intro (And.intro (And.intro sz3 ag3) (And.intro zv3 un3)) (And.intro (And.intro sz4 ag4) (And.intro zv4 (And.intro un4 sz9)))) (And.intro (And.intro (And.intro ag9 zv9) (And.intro un9 (And.intro sz63 ag63))) (And.intro (And.intro zv63 sb63) (And.intro un63 (And.intro el63 ap63)))))
theorem toStringS_ow (xs : List ByteArray) (hx : xs.length ≤ 2^40) : FnS Try.prog 143 [] [slT eS xs] [(14, .vec 9 1 xs.length (xs.flatMap eS) true)] (.c (.os 14 xs.length)) := by
  refine FnS.go [0, 2, 3, 4, 11] [] Try.func143 rfl (fun kt kz => ?_)
  have fcx := fc143A1
  simp only [Try.f143]
  refine Run (cast_succ) ?_; repeat' (first | (with_reducible exact True.intro) | (with_reducible refine Lf.mk ?_ ?_) | (with_reducible intro hb))
  refine Trn (α := Nat) [4, 8, 9, 10, 11, 12, 13, 14, 15, 16, 17, 18, 19, 20] (fun i => [(4, iT i), (3, .c (.os 14 xs.length))]) (fun i => [(14, .vec 9 1 xs.length (filled eS [.sc (.string ⟨#[]⟩)] xs i) true)]) (fun i => i ≤ xs.length) (fun i => xs.length - i) (0) (Nat.zero_le _) (cast_succ) ?_; intro lx hI; obtain i := lx; (try simp only [List.nil_append, List.cons_append] at hI ⊢)
  refine Run (@eS.eq_1) ?_; repeat' (first | (with_reducible exact True.intro) | (with_reducible refine Lf.mk ?_ ?_) | (with_reducible intro hb))
  · exact Nxt (cast_succ) (lx + 1) (by omega) (by first | omega | (simp; omega))

theorem toStringS_o (xs : List ByteArray) (hx : okLs (2^20) okS xs) (q : Nat) : FnS Try.prog 143 [] [slT eS xs] [(q, .row xs.length (xs.flatMap eS))] (.c (.os q xs.length)) := by
  obtain ⟨p, hp⟩ := pm1 14 q
  refine ((toStringS_ow xs (by have := hx.1; omega)).rows.pm p).as ?_ ?_ <;> simp [rowS, rowO, renS, Ob.ren, TV.ren, Cell.ren, hp]
theorem toStringS_ok (xs : List ByteArray) (hx : xs.length ≤ 2^40) : FnP Try.prog 143 [slT eS xs] (slT eS xs) := (toStringS_ow xs hx).tree (by simp -dsimp (maxSteps := 2000000) (disch := omega) only [vs, ↓Option.bind_some, ev1, ofV, scalarB, Kn, Kb, calleeOf, evLoad, ptr, evField, evFieldAddr, shift, ↓pt_at, ↓pt_at1, evExtract, evBin, evLen, evConv, cellsT, noS, Cell.has, Cell.hasN, Cell.anyN, toIV, toIV0, toIVs, ownC, srcM, Ob.own, Ob.esz, allSc, nilK, lenC, ownCell, isPtr, ptrNil, frzO, Cell.frz, Cell.keys, ↓reduceIte, reduceCtorEq, Nat.reduceEqDiff, Nat.reduceBEq, Nat.reduceBNe, Nat.reduceAdd, Nat.reduceMul, Nat.reduceSub, Nat.reduceLT, Nat.reduceLeDiff, Nat.reducePow, Int.reduceLT, Int.reduceLE, Int.reduceEq, Int.reduceNe, quietB, Nat.reduceMod, Int.reduceToNat, ne_eq, eq_self, exists_const, evBytes, byRow, byL, byStr_size, ifsz, ByteArray.size_append, Option.none_or, Option.some_or, evLook, keyD])
end Go.VC.T
/- Data: how they are measured, copied and compared. -/
namespace Go.VC.T
open Go Go.VC Go.Proofs Go.VC.F
set_option linter.unusedSimpArgs false
set_option linter.unusedVariables false
set_option linter.defProp false
set_option maxRecDepth 100000
def fc139A2 := (And.intro (And.intro (And.intro (And.intro sz3 ag3) (And.intro zv3 un3)) (And.intro (And.intro sz4 ag4) (And.intro zv4 (And.intro un4 sz9)))) (And.intro (And.intro (And.intro ag9 zv9) (And.intro un9 (And.intro sz63 ag63))) (And.intro (And.intro zv63 sb63) (And.intro un63 (And.intro el63 ap63)))))
theorem szStringS_ok (xs : List ByteArray) (hx : okLs (2^48) okS xs) (left : Int) (hl : 0 ≤ left ∧ left ≤ 2^20) : FnS Try.prog 139 [] [slT eS xs, iT left] [] (iT (szR (zSL xs) left)) := by
  refine FnS.go [0, 1, 4, 5, 11, 15, 26] [] Try.func139 rfl (fun kt kz => ?_)
  have fcx := fc139A2
  simp only [Try.f139]
  have hx1 := hx.1
  refine Run (cast_succ) ?_; repeat' (first | (with_reducible exact True.intro) | (with_reducible refine Lf.mk ?_ ?_) | (with_reducible intro hb))
  · simp only [zSL, szR_nil hb zL_len]
  · rw [szR_sub hb]
    have hb2 := szR_sub hb ▸ hb
    refine Trn (α := Nat) [1, 4, 5, 12, 13, 14, 15, 16, 17, 18, 19, 20, 21, 22, 23, 24, 25, 26] (fun i => [(5, iT i), (1, iT (szR (zT zS xs i) left))]) (fun i => []) (fun i => i ≤ xs.length ∧ 0 ≤ szR (zT zS xs i) left) (fun i => xs.length - i) (0) (⟨Nat.zero_le _, by rw [zT_zero]; exact hb2⟩) (@zT_zero) ?_; intro lx hI; obtain i := lx; (try simp only [List.nil_append, List.cons_append] at hI ⊢)
    have hz := szR_le (n := zT zS xs lx) hl.1
    by_cases hlt : lx < xs.length
    · have hx2 : zS xs[lx] ≤ 2^48 := okLs_at hx hlt
      have hx3 : xs[lx].size = zS xs[lx] := rfl
      refine Run ((And.intro @eS.eq_1 @hx3)) ?_; repeat' (first | (with_reducible exact True.intro) | (with_reducible refine Lf.mk ?_ ?_) | (with_reducible intro hb))
      · rw [szR_neg (n := zT zS xs (lx + 1)) (by rw [zT_succ hlt, ← szR_add]; unfold szR at *; split <;> omega) zT_le]
      · have e : szR (zT zS xs lx) left - (zS xs[lx] : Int) = szR (zT zS xs (lx + 1)) left := by rw [szR_sub hb, szR_add, ← zT_succ hlt]
        rw [e] at hb
        exact Nxt (@e) (lx + 1) (⟨by omega, hb⟩) (by first | omega | (simp; omega))
      · omega
    · refine Run (cast_succ) ?_; repeat' (first | (with_reducible exact True.intro) | (with_reducible refine Lf.mk ?_ ?_) | (with_reducible intro hb))
      · omega
      · rw [zT_all (by omega)]
theorem eqStringS_rf (xs : List ByteArray) (h : okLs (2^20) okS xs) : FnP Try.prog 147 [slT eS xs, slT eS xs] (bT true) := by
  have := eqStringS_ok xs xs (by have := h.1; omega)
  simpa using this

theorem toStringS_rf (xs : List ByteArray) (h : okLs (2^20) okS xs) : FnP Try.prog 143 [slT eS xs] (slT eS xs) := toStringS_ok xs (by have := h.1; omega)
end Go.VC.T
/- Reading lists. -/
namespace Go.VC
open Go
theorem rdS {P : Program} {t e : TypeId} {m : Nat} {α : Type} {E : α → List IV} {ok : Nat → α → Prop} {z y : Nat} (ht : P.underlying t = some (.slice e)) (hz : P.cellsOf e = z) (hy : P.bytesOf e = y) (h1 : 1 ≤ y)
    (h : ∀ k, k < m → Rd P e k E (ok (2^48))) : Rd P t m (fun xs : List α => [slI E xs]) (okLs (2^48) ok) := by
  cases m with
  | zero => exact .zero
  | succ m =>
    refine (rd_slice ht hz hy (h m (by omega))).map id (fun _ _ => rfl) fun a h => ⟨?_, h.1⟩
    have h2 := h.2.2.2
    have h3 : a.length ≤ a.length * y := Nat.le_mul_of_pos_right _ (by omega)
    simp [reachBytes] at h2
    show a.length ≤ 2 ^ 48
    omega
theorem rdStr {P : Program} {t : TypeId} {m : Nat} (ht : P.underlying t = some .string) : Rd P t m eS (okS (2^48)) :=
  (rd_string ht m).map id (fun _ _ => rfl) fun a h => by simp [reachBytes] at h; show a.size ≤ 2 ^ 48; omega
theorem rdI {P : Program} {t : TypeId} {m : Nat} (ht : P.underlying t = some (.int .i64)) : Rd P t m (fun n : Int => [.sc (.int .i64 n)]) ok64 :=
  (rd_i64 ht m).map id (fun _ _ => rfl) fun _ h => h
end Go.VC
/- Comparing data: no statement of a program. -/
set_option linter.unusedVariables false
namespace Go.VC
open Go
def numC (a b : Int) : Int := (if b < a then 1 else 0) - (if a < b then 1 else 0)
theorem numC_eq {a b : Int} : numC a b = 0 ↔ a = b := by unfold numC; split <;> split <;> omega
theorem cmpS_bits {x y : ByteArray} (h : x ≠ y) : (if sLt y x = true then (1 : Int) else 0) - (if sLt x y = true then 1 else 0) = cmpS x y := by
  unfold cmpS
  cases h1 : sLt x y with
  | true => rw [sLt_asymm h1]; simp
  | false => rw [sLt_tri h1 h]; simp [h]
theorem cmpL_eq : ∀ {x y : List ByteArray}, cmpL x y = 0 ↔ x = y
  | [], [] => by simp [cmpL]
  | [], _ :: _ => by simp [cmpL]
  | _ :: _, [] => by simp [cmpL]
  | a :: x, b :: y => by
    rw [cmpL]
    by_cases h : a = b
    · simp [h, cmpL_eq (x := x) (y := y)]
    · simp [h, cmpS_eq]
/-- The first that is not zero. -/
def orC : List Int → Int
  | [] => 0
  | x :: r => if x = 0 then orC r else x
mutual
def cmpV : Val → Val → Int
  | .mk k n l a, w => orC [numC k w.kind, numC n w.n, numC a.length w.args.length, cmpL l w.labels, cmpVL a w.args]
def cmpVL : List Val → List Val → Int
  | [], _ => 0
  | x :: r, ys => match ys with
    | [] => 0
    | y :: s => if cmpV x y = 0 then cmpVL r s else cmpV x y
end
theorem cmpV_eta (v w : Val) : cmpV v w = orC [numC v.kind w.kind, numC v.n w.n, numC v.args.length w.args.length, cmpL v.labels w.labels, cmpVL v.args w.args] := by
  cases v with
  | mk k n l a => rw [cmpV]; rfl
mutual
theorem cmpV_eq : ∀ {v w : Val}, cmpV v w = 0 ↔ v = w
  | .mk k n l a, w => by
    rw [cmpV_eta]
    simp only [orC]
    constructor
    · intro h
      split at h
      · rename_i h1
        split at h
        · rename_i h2
          split at h
          · rename_i h3
            split at h
            · rename_i h4
              split at h
              · rename_i h5
                have h3' : a.length = w.args.length := by have := numC_eq.1 h3; exact Int.ofNat.inj this
                exact Val.ext (numC_eq.1 h1) (numC_eq.1 h2) (cmpL_eq.1 h4) ((cmpVL_eq (xs := a) h3').1 h5)
              · contradiction
            · contradiction
          · contradiction
        · contradiction
      · contradiction
    · rintro rfl
      have h5 := (cmpVL_eq (xs := a) (ys := a) rfl).2 rfl
      simp [numC_eq.2 rfl, cmpL_eq.2 rfl, Val.kind, Val.n, Val.args, Val.labels, h5]
theorem cmpVL_eq : ∀ {xs ys : List Val}, xs.length = ys.length → (cmpVL xs ys = 0 ↔ xs = ys)
  | [], ys, h => by
    cases ys with
    | nil => simp [cmpVL]
    | cons => simp at h
  | x :: r, ys, h => by
    cases ys with
    | nil => simp at h
    | cons y s =>
      have h1 := cmpV_eq (v := x) (w := y)
      have h2 := cmpVL_eq (xs := r) (ys := s) (by simpa using h)
      rw [cmpVL]
      by_cases e : cmpV x y = 0
      · rw [if_pos e, h2, h1.1 e]; simp
      · have : x ≠ y := fun q => e (h1.2 q)
        simp [e, this]
end
theorem cmpVL_at {xs ys : List Val} {i : Nat} (hx : i < xs.length) (hy : i < ys.length) : cmpVL (xs.drop i) (ys.drop i) = if cmpV xs[i] ys[i] = 0 then cmpVL (xs.drop (i + 1)) (ys.drop (i + 1)) else cmpV xs[i] ys[i] := by
  rw [drop_at hx, drop_at hy, cmpVL]
theorem cmpVL_nil {xs ys : List Val} {i : Nat} (h : xs.length ≤ i) : cmpVL (xs.drop i) (ys.drop i) = 0 := by
  rw [List.drop_of_length_le h, cmpVL]
end Go.VC
/- Comparisons: what each returns. -/
namespace Go.VC.T
open Go Go.VC Go.Proofs Go.VC.F
set_option linter.unusedSimpArgs false
set_option linter.unusedVariables false
set_option linter.defProp false
set_option maxRecDepth 100000
set_option maxHeartbeats 2000000
def fc211A10 := (And.intro (And.intro (And.intro sz4 ag4) (And.intro zv4 un4)) (And.intro (And.intro sz9 ag9) (And.intro zv9 un9)))
theorem isNaNS_ok (a : ByteArray) : FnS Try.prog 211 [] [sT a] [] (bT false) := by
  refine FnS.go [0, 2] [] Try.func211 rfl (fun kt kz => ?_)
  have fcx := fc211A10
  simp only [Try.f211]
  refine Run (cast_succ) ?_; repeat' (first | (with_reducible exact True.intro) | (with_reducible refine Lf.mk ?_ ?_) | (with_reducible intro hb))
def fc173A10 := (And.intro (And.intro (And.intro sz3 (And.intro ag3 zv3)) (And.intro un3 (And.intro sz4 ag4))) (And.intro (And.intro zv4 (And.intro un4 sz9)) (And.intro (And.intro ag9 zv9) (And.intro un9 okf211))))
theorem cmpCompareS_ok (a b : ByteArray) : FnS Try.prog 173 [] [sT a, sT b] [] (iT (cmpS a b)) := by
  refine FnS.go [0, 1, 4, 5, 6, 11, 12, 13, 16, 19] [] Try.func173 rfl (fun kt kz => ?_)
  have fcx := fc173A10
  simp only [Try.f173]
  refine Run (cast_succ) ?_; repeat' (first | (with_reducible exact True.intro) | (with_reducible refine Lf.mk ?_ ?_) | (with_reducible intro hb))
  refine Cal (cast_succ) (isNaNS_ok a) ?_
  refine Run (cast_succ) ?_; repeat' (first | (with_reducible exact True.intro) | (with_reducible refine Lf.mk ?_ ?_) | (with_reducible intro hb))
  refine Cal (cast_succ) (isNaNS_ok b) ?_
  refine Run (@sGt) ?_; repeat' (first | (with_reducible exact True.intro) | (with_reducible refine Lf.mk ?_ ?_) | (with_reducible intro hb))
  · rw [cmpS, if_pos hb]
  · rename_i h1
    rw [cmpS, if_neg (by simp [h1]), if_neg (by rintro rfl; rw [sLt_irrefl] at hb; cases hb)]
  · rename_i h1
    rw [cmpS, if_neg (by simp [h1]), if_pos (by
      apply Classical.byContradiction; intro hn
      rw [sLt_tri h1 hn] at hb; cases hb)]
def fc152A10 := (And.intro (And.intro (And.intro sz3 ag3) (And.intro zv3 un3)) (And.intro (And.intro sz4 ag4) (And.intro zv4 un4)))
theorem l1Bit_ok (b : Bool) : FnS Try.prog 152 [] [bT b] [] (iT (if b then 1 else 0)) := by
  refine FnS.go [0, 2, 3] [] Try.func152 rfl (fun kt kz => ?_)
  have fcx := fc152A10
  simp only [Try.f152]
  cases b
  · refine Run (cast_succ) ?_; repeat' (first | (with_reducible exact True.intro) | (with_reducible refine Lf.mk ?_ ?_) | (with_reducible intro hb))
  · refine Run (cast_succ) ?_; repeat' (first | (with_reducible exact True.intro) | (with_reducible refine Lf.mk ?_ ?_) | (with_reducible intro hb))
def fc170A10 := (And.intro (And.intro (And.intro sz3 ag3) (And.intro zv3 un3)) (And.intro (And.intro sz4 ag4) (And.intro zv4 (And.intro un4 okf152))))
theorem l5Number_ok (a b : Int) : FnS Try.prog 170 [] [iT a, iT b] [] (iT (numC a b)) := by
  refine FnS.go [0, 1, 4] [] Try.func170 rfl (fun kt kz => ?_)
  have fcx := fc170A10
  simp only [Try.f170]
  refine Run (cast_succ) ?_; repeat' (first | (with_reducible exact True.intro) | (with_reducible refine Lf.mk ?_ ?_) | (with_reducible intro hb))
  refine Cal (cast_succ) (l1Bit_ok (decide (b < a))) ?_
  refine Run (cast_succ) ?_; repeat' (first | (with_reducible exact True.intro) | (with_reducible refine Lf.mk ?_ ?_) | (with_reducible intro hb))
  refine Cal (cast_succ) (l1Bit_ok (decide (a < b))) ?_
  refine Run (cast_succ) ?_; repeat' (first | (with_reducible exact True.intro) | (with_reducible refine Lf.mk ?_ ?_) | (with_reducible intro hb))
  simp [numC]
def fc131A10 := (And.intro (And.intro (And.intro (And.intro sz3 ag3) (And.intro zv3 (And.intro un3 sz4))) (And.intro (And.intro ag4 zv4) (And.intro un4 (And.intro sz9 ag9)))) (And.intro (And.intro (And.intro zv9 un9) (And.intro sz63 (And.intro ag63 zv63))) (And.intro (And.intro sb63 un63) (And.intro el63 (And.intro ap63 okf173)))))
theorem slicesCompare_ok (xs ys : List ByteArray) (hx : xs.length ≤ 2^48) : FnS Try.prog 131 [] [slT eS xs, slT eS ys] [] (iT (cmpL xs ys)) := by
  refine FnS.go [0, 1, 4, 5, 6, 7, 8, 9, 10, 11, 12, 19, 28, 35] [] Try.func131 rfl (fun kt kz => ?_)
  have fcx := fc131A10
  simp only [Try.f131]
  refine Run (cast_succ) ?_; repeat' (first | (with_reducible exact True.intro) | (with_reducible refine Lf.mk ?_ ?_) | (with_reducible intro hb))
  refine Trn (α := Nat) [4, 5, 6, 7, 8, 11, 12, 13, 14, 15, 16, 17, 18, 19, 20, 21, 22, 23, 24, 25, 26, 27, 28, 29, 30] (fun i => [(11, iT i)]) (fun i => []) (fun i => i ≤ xs.length ∧ i ≤ ys.length ∧ cmpL (xs.drop i) (ys.drop i) = cmpL xs ys) (fun i => xs.length - i) (0) (⟨Nat.zero_le _, Nat.zero_le _, rfl⟩) (cast_succ) ?_; intro lx hI; obtain i := lx; (try simp only [List.nil_append, List.cons_append] at hI ⊢)
  have hc := hI.2.2
  by_cases hlt : lx < xs.length
  · by_cases hlt2 : lx < ys.length
    · rw [cmpL_drop (x := xs[lx]) (y := ys[lx]) (by simp [hlt]) (by simp [hlt2])] at hc
      refine Run (@eS.eq_1) ?_; repeat' (first | (with_reducible exact True.intro) | (with_reducible refine Lf.mk ?_ ?_) | (with_reducible intro hb))
      · omega
      · refine Cal (cast_succ) (cmpCompareS_ok xs[lx] ys[lx]) ?_
        refine Run (cast_succ) ?_; repeat' (first | (with_reducible exact True.intro) | (with_reducible refine Lf.mk ?_ ?_) | (with_reducible intro hb))
        · rw [← hc, if_neg fun e => hb (cmpS_eq.2 e)]
        · rw [if_pos (cmpS_eq.1 hb)] at hc
          exact Nxt (cast_succ) (lx + 1) (⟨by omega, by omega, hc⟩) (by first | omega | (simp; omega))
      · omega
    · rw [drop_at hlt, List.drop_of_length_le (l := ys) (by omega)] at hc
      refine Run (@eS.eq_1) ?_; repeat' (first | (with_reducible exact True.intro) | (with_reducible refine Lf.mk ?_ ?_) | (with_reducible intro hb))
      all_goals first | omega | (rw [← hc]; rfl) | skip
  · refine Run (@eS.eq_1) ?_; repeat' (first | (with_reducible exact True.intro) | (with_reducible refine Lf.mk ?_ ?_) | (with_reducible intro hb))
    all_goals first | omega | skip
    · rw [← hc, List.drop_of_length_le (by omega), drop_at (by omega)]; rfl
    · rw [← hc, List.drop_of_length_le (by omega), List.drop_of_length_le (by omega)]; rfl
def fc128A10 := (And.intro (And.intro (And.intro (And.intro sz3 ag3) (And.intro zv3 (And.intro un3 sz4))) (And.intro (And.intro ag4 zv4) (And.intro un4 (And.intro sz9 ag9)))) (And.intro (And.intro (And.intro zv9 un9) (And.intro sz63 (And.intro ag63 zv63))) (And.intro (And.intro sb63 (And.intro un63 el63)) (And.intro ap63 (And.intro okf152 okf170)))))
theorem l5Labels_ok (xs ys : List ByteArray) (hx : xs.length ≤ 2^48) (hy : ys.length ≤ 2^48) : FnS Try.prog 128 [] [slT eS xs, slT eS ys] [] (iT (cmpL xs ys)) := by
  refine FnS.go [0, 1, 4, 5, 15, 26] [] Try.func128 rfl (fun kt kz => ?_)
  have fcx := fc128A10
  simp only [Try.f128]
  refine Run (cast_succ) ?_; repeat' (first | (with_reducible exact True.intro) | (with_reducible refine Lf.mk ?_ ?_) | (with_reducible intro hb))
  refine Trn (α := Nat) [4, 5, 6, 7, 8, 9, 10, 11, 12, 13, 14, 15, 16, 17, 18, 19, 20, 21, 22, 23, 24, 25, 26, 27, 28, 29, 30, 31, 32, 33, 34, 35, 36, 37, 38, 39, 40, 41, 42, 43, 44, 45, 46, 47] (fun i => [(5, iT i)]) (fun i => []) (fun i => i ≤ xs.length ∧ i ≤ ys.length ∧ cmpL (xs.drop i) (ys.drop i) = cmpL xs ys) (fun i => xs.length - i) (0) (⟨Nat.zero_le _, Nat.zero_le _, rfl⟩) (cast_succ) ?_; intro lx hI; obtain i := lx; (try simp only [List.nil_append, List.cons_append] at hI ⊢)
  have hc := hI.2.2
  have hn : ¬ (lx < xs.length ∧ lx < ys.length) → numC xs.length ys.length = cmpL xs ys := by
    intro hq
    by_cases h1 : lx < xs.length
    · have h2 : ¬ lx < ys.length := fun h2 => hq ⟨h1, h2⟩
      rw [← hc, List.drop_of_length_le (l := ys) (by omega), drop_at h1, numC, if_pos (by omega), if_neg (by omega)]; rfl
    · rw [← hc, List.drop_of_length_le (by omega), numC, if_neg (by omega)]
      by_cases h2 : lx < ys.length
      · rw [drop_at h2, if_pos (by omega)]; rfl
      · rw [List.drop_of_length_le (by omega), if_neg (by omega)]; rfl
  by_cases hlt : lx < xs.length
  · by_cases hlt2 : lx < ys.length
    · rw [cmpL_drop (x := xs[lx]) (y := ys[lx]) (by simp [hlt]) (by simp [hlt2])] at hc
      refine Run ((And.intro (And.intro @eS.eq_1 @hlt) (And.intro @hlt2 @sGt))) ?_; repeat' (first | (with_reducible exact True.intro) | (with_reducible refine Lf.mk ?_ ?_) | (with_reducible intro hb))
      · refine Cal ((And.intro @eS.eq_1 @sGt)) (l1Bit_ok (sLt ys[lx] xs[lx])) ?_
        refine Run (cast_succ) ?_; repeat' (first | (with_reducible exact True.intro) | (with_reducible refine Lf.mk ?_ ?_) | (with_reducible intro hb))
        refine Cal ((And.intro @eS.eq_1 @sGt)) (l1Bit_ok (sLt xs[lx] ys[lx])) ?_
        refine Run (cast_succ) ?_; repeat' (first | (with_reducible exact True.intro) | (with_reducible refine Lf.mk ?_ ?_) | (with_reducible intro hb))
        all_goals rw [← hc, if_neg hb, ← cmpS_bits hb]
      · rw [if_pos hb] at hc
        exact Nxt (cast_succ) (lx + 1) (⟨by omega, by omega, hc⟩) (by first | omega | (simp; omega))
    · refine Run ((And.intro @eS.eq_1 (And.intro @hlt @hlt2))) ?_; repeat' (first | (with_reducible exact True.intro) | (with_reducible refine Lf.mk ?_ ?_) | (with_reducible intro hb))
      refine Cal (cast_succ) (l5Number_ok xs.length ys.length) ?_
      refine Run ((And.intro @hn (And.intro @hlt @hlt2))) ?_; repeat' (first | (with_reducible exact True.intro) | (with_reducible refine Lf.mk ?_ ?_) | (with_reducible intro hb))
  · refine Run ((And.intro @eS.eq_1 @hlt)) ?_; repeat' (first | (with_reducible exact True.intro) | (with_reducible refine Lf.mk ?_ ?_) | (with_reducible intro hb))
    refine Cal (cast_succ) (l5Number_ok xs.length ys.length) ?_
    refine Run ((And.intro @hn @hlt)) ?_; repeat' (first | (with_reducible exact True.intro) | (with_reducible refine Lf.mk ?_ ?_) | (with_reducible intro hb))

end Go.VC.T
/- Lists: whether some element has a property, and the first one that has it: no statement of a program. -/
set_option linter.unusedVariables false
namespace Go.VC
open Go
theorem any_at {α : Type} {p : α → Bool} {l : List α} {i : Nat} (h : i < l.length) (hp : p l[i] = true) : l.any p = true := List.any_eq_true.2 ⟨_, List.getElem_mem h, hp⟩
theorem any_take {α : Type} {p : α → Bool} {l : List α} {i : Nat} (h : i < l.length) (ht : (l.take i).any p = false) (hp : p l[i] = false) : (l.take (i + 1)).any p = false := by
  rw [take_at h, List.any_append, ht]; simp [hp]
theorem any_all {α : Type} {p : α → Bool} {l : List α} {i : Nat} (h : l.length ≤ i) (ht : (l.take i).any p = false) : l.any p = false := by
  rwa [List.take_of_length_le h] at ht
theorem all_at {α : Type} {p : α → Bool} {l : List α} {i : Nat} (h : i < l.length) (hp : p l[i] = false) : l.all p = false := by
  cases ha : l.all p with
  | false => rfl
  | true => have := List.all_eq_true.1 ha _ (List.getElem_mem h); rw [hp] at this; cases this
theorem all_take {α : Type} {p : α → Bool} {l : List α} {i : Nat} (h : i < l.length) (ht : (l.take i).all p = true) (hp : p l[i] = true) : (l.take (i + 1)).all p = true := by
  rw [take_at h, List.all_append, ht]; simp [hp]
theorem all_all {α : Type} {p : α → Bool} {l : List α} {i : Nat} (h : l.length ≤ i) (ht : (l.take i).all p = true) : l.all p = true := by
  rwa [List.take_of_length_le h] at ht
/-- The place of the first element with a property; -1 without. -/
def idxI {α : Type} (p : α → Bool) (l : List α) : Int := if l.any p then (l.findIdx p : Int) else -1
theorem idx_at {α : Type} {p : α → Bool} {l : List α} {i : Nat} (h : i < l.length) (ht : (l.take i).any p = false) (hp : p l[i] = true) : idxI p l = i := by
  rw [idxI, if_pos (any_at h hp)]
  congr 1
  rw [List.findIdx_eq h]
  refine ⟨hp, fun j hj => ?_⟩
  have := List.any_eq_false.1 ht l[j] (by
    rw [List.mem_iff_getElem]
    exact ⟨j, by simp; omega, by simp⟩)
  simpa using this
theorem idx_no {α : Type} {p : α → Bool} {l : List α} (h : l.any p = false) : idxI p l = -1 := by rw [idxI, h]; rfl
theorem idx_ge {α : Type} {p : α → Bool} {l : List α} : decide (0 ≤ idxI p l) = l.any p := by
  unfold idxI
  cases l.any p <;> simp
theorem idx_le {α : Type} {p : α → Bool} {l : List α} : -1 ≤ idxI p l ∧ idxI p l < l.length := by
  unfold idxI
  split
  · rename_i h
    obtain ⟨x, hx, hp⟩ := List.any_eq_true.1 h
    have := List.findIdx_lt_length_of_exists ⟨x, hx, hp⟩
    omega
  · omega
end Go.VC
/- Searching lists of texts; sorted lists. -/
namespace Go.VC
open Go
def SortedS (l : List ByteArray) : Prop := ∀ k, (h : k + 1 < l.length) → sLt l[k + 1] (l[k]'(by omega)) = false
noncomputable instance (l : List ByteArray) : Decidable (SortedS l) := Classical.propDecidable _
end Go.VC
namespace Go.VC.T
open Go Go.VC Go.Proofs Go.VC.F
set_option linter.unusedSimpArgs false
set_option linter.unusedVariables false
set_option linter.defProp false
set_option maxRecDepth 100000
set_option maxHeartbeats 2000000
def fc60A23 := (And.intro (And.intro (And.intro (And.intro sz3 ag3) (And.intro zv3 un3)) (And.intro (And.intro sz4 ag4) (And.intro zv4 (And.intro un4 sz9)))) (And.intro (And.intro (And.intro ag9 zv9) (And.intro un9 (And.intro sz63 ag63))) (And.intro (And.intro zv63 sb63) (And.intro un63 (And.intro el63 ap63)))))
theorem indexOf_ok (xs : List ByteArray) (s : ByteArray) (hx : xs.length ≤ 2^48) : FnS Try.prog 60 [] [slT eS xs, sT s] [] (iT (idxI (fun x => decide (x = s)) xs)) := by
  refine FnS.go [0, 1, 4, 5, 9, 17] [] Try.func60 rfl (fun kt kz => ?_)
  have fcx := fc60A23
  simp only [Try.f60]
  refine Run (cast_succ) ?_; repeat' (first | (with_reducible exact True.intro) | (with_reducible refine Lf.mk ?_ ?_) | (with_reducible intro hb))
  refine Trn (α := Nat) [4, 5, 6, 7, 8, 9, 10, 11, 12, 13, 14, 15, 16, 17, 18] (fun i => [(5, iT i)]) (fun i => []) (fun i => i ≤ xs.length ∧ (xs.take i).any (fun x => decide (x = s)) = false) (fun i => xs.length - i) (0) (⟨Nat.zero_le _, rfl⟩) (cast_succ) ?_; intro lx hI; obtain i := lx; (try simp only [List.nil_append, List.cons_append] at hI ⊢)
  by_cases hlt : lx < xs.length
  · refine Run ((And.intro @hlt @eS.eq_1)) ?_; repeat' (first | (with_reducible exact True.intro) | (with_reducible refine Lf.mk ?_ ?_) | (with_reducible intro hb))
    · rw [idx_at (p := fun x => decide (x = s)) hlt hI.2 (by simpa using hb)]
    · exact Nxt (cast_succ) (lx + 1) (⟨by omega, any_take hlt hI.2 (by simpa using hb)⟩) (by first | omega | (simp; omega))
  · have ha := any_all (by omega) hI.2
    refine Run (@hlt) ?_; repeat' (first | (with_reducible exact True.intro) | (with_reducible refine Lf.mk ?_ ?_) | (with_reducible intro hb))
    rw [idx_no ha]
def fc117A23 := (And.intro (And.intro (And.intro (And.intro sz3 ag3) (And.intro zv3 un3)) (And.intro (And.intro sz4 ag4) (And.intro zv4 (And.intro un4 sz9)))) (And.intro (And.intro (And.intro ag9 zv9) (And.intro un9 (And.intro sz63 ag63))) (And.intro (And.intro zv63 sb63) (And.intro un63 (And.intro el63 ap63)))))
theorem slIdxS_ok (xs : List ByteArray) (s : ByteArray) (hx : xs.length ≤ 2^48) : FnS Try.prog 117 [] [slT eS xs, sT s] [] (iT (idxI (fun x => decide (x = s)) xs)) := by
  refine FnS.go [0, 1, 4, 5, 7, 8, 9, 16] [] Try.func117 rfl (fun kt kz => ?_)
  have fcx := fc117A23
  simp only [Try.f117]
  refine Run (cast_succ) ?_; repeat' (first | (with_reducible exact True.intro) | (with_reducible refine Lf.mk ?_ ?_) | (with_reducible intro hb))
  refine Trn (α := Nat) [4, 5, 8, 9, 10, 11, 12, 13, 14, 15, 16, 17, 18] (fun i => [(8, iT i)]) (fun i => []) (fun i => i ≤ xs.length ∧ (xs.take i).any (fun x => decide (x = s)) = false) (fun i => xs.length - i) (0) (⟨Nat.zero_le _, rfl⟩) (cast_succ) ?_; intro lx hI; obtain i := lx; (try simp only [List.nil_append, List.cons_append] at hI ⊢)
  by_cases hlt : lx < xs.length
  · refine Run ((And.intro @hlt @eS.eq_1)) ?_; repeat' (first | (with_reducible exact True.intro) | (with_reducible refine Lf.mk ?_ ?_) | (with_reducible intro hb))
    · rw [idx_at (p := fun x => decide (x = s)) hlt hI.2 (by simpa using hb.symm)]
    · exact Nxt (cast_succ) (lx + 1) (⟨by omega, any_take hlt hI.2 (by simpa using fun h => hb h.symm)⟩) (by first | omega | (simp; omega))
  · have ha := any_all (by omega) hI.2
    refine Run (@hlt) ?_; repeat' (first | (with_reducible exact True.intro) | (with_reducible refine Lf.mk ?_ ?_) | (with_reducible intro hb))
    rw [idx_no ha]
def fc171A23 := (And.intro (And.intro (And.intro (And.intro sz3 ag3) (And.intro zv3 (And.intro un3 sz4))) (And.intro (And.intro ag4 zv4) (And.intro un4 (And.intro sz9 ag9)))) (And.intro (And.intro (And.intro zv9 un9) (And.intro sz63 (And.intro ag63 zv63))) (And.intro (And.intro sb63 un63) (And.intro el63 (And.intro ap63 okf117)))))
theorem slHasS_ok (xs : List ByteArray) (s : ByteArray) (hx : xs.length ≤ 2^48) : FnS Try.prog 171 [] [slT eS xs, sT s] [] (bT (xs.any (fun x => decide (x = s)))) := by
  refine FnS.go [0, 1, 4] [] Try.func171 rfl (fun kt kz => ?_)
  have fcx := fc171A23
  simp only [Try.f171]
  refine Run (cast_succ) ?_; repeat' (first | (with_reducible exact True.intro) | (with_reducible refine Lf.mk ?_ ?_) | (with_reducible intro hb))
  refine Cal (cast_succ) (slIdxS_ok xs s hx) ?_
  refine Run ((idx_ge (p := fun x => decide (x = s)) (l := xs))) ?_; repeat' (first | (with_reducible exact True.intro) | (with_reducible refine Lf.mk ?_ ?_) | (with_reducible intro hb))
def fc244A23 := (And.intro (And.intro (And.intro (And.intro sz3 ag3) (And.intro zv3 (And.intro un3 sz4))) (And.intro (And.intro ag4 (And.intro zv4 un4)) (And.intro sz9 (And.intro ag9 zv9)))) (And.intro (And.intro (And.intro un9 sz63) (And.intro ag63 (And.intro zv63 sb63))) (And.intro (And.intro un63 (And.intro el63 ap63)) (And.intro sz200 (And.intro ag200 zv200)))))
theorem slIdxFS_ok (g : Nat) (hg : fnOk Try.prog g = true) (c : IV) (p : ByteArray → Bool) (xs : List ByteArray) (hx : xs.length ≤ 2^48) (H : ∀ x ∈ xs, FnP Try.prog g [sT x, .c (.im c)] (bT (p x))) : FnS Try.prog 244 [] [slT eS xs, .c (.im (.fn g [c]))] [] (iT (idxI p xs)) := by
  refine FnS.go [0, 1, 4, 5, 7, 8, 9, 16] [] Try.func244 rfl (fun kt kz => ?_)
  have fcx := fc244A23
  simp only [Try.f244]
  refine Run (cast_succ) ?_; repeat' (first | (with_reducible exact True.intro) | (with_reducible refine Lf.mk ?_ ?_) | (with_reducible intro hb))
  refine Trn (α := Nat) [4, 5, 8, 9, 10, 11, 12, 13, 14, 15, 16, 17, 18] (fun i => [(8, iT i)]) (fun i => []) (fun i => i ≤ xs.length ∧ (xs.take i).any p = false) (fun i => xs.length - i) (0) (⟨Nat.zero_le _, rfl⟩) (cast_succ) ?_; intro lx hI; obtain i := lx; (try simp only [List.nil_append, List.cons_append] at hI ⊢)
  by_cases hlt : lx < xs.length
  · refine Run ((And.intro @hlt (And.intro @eS.eq_1 @hg))) ?_; repeat' (first | (with_reducible exact True.intro) | (with_reducible refine Lf.mk ?_ ?_) | (with_reducible intro hb))
    refine Cal (cast_succ) (H _ (List.getElem_mem hlt)) ?_
    refine Run (cast_succ) ?_; repeat' (first | (with_reducible exact True.intro) | (with_reducible refine Lf.mk ?_ ?_) | (with_reducible intro hb))
    · rw [idx_at hlt hI.2 hb]
    · exact Nxt (cast_succ) (lx + 1) (⟨by omega, any_take hlt hI.2 hb⟩) (by first | omega | (simp; omega))
  · have ha := any_all (by omega) hI.2
    refine Run (@hlt) ?_; repeat' (first | (with_reducible exact True.intro) | (with_reducible refine Lf.mk ?_ ?_) | (with_reducible intro hb))
    rw [idx_no ha]
def fc239A23 := (And.intro (And.intro (And.intro (And.intro sz3 ag3) (And.intro zv3 un3)) (And.intro (And.intro sz4 ag4) (And.intro zv4 (And.intro un4 sz63)))) (And.intro (And.intro (And.intro ag63 zv63) (And.intro sb63 (And.intro un63 el63))) (And.intro (And.intro ap63 sz200) (And.intro ag200 (And.intro zv200 okf244)))))
theorem slHasFS_ok (g : Nat) (hg : fnOk Try.prog g = true) (c : IV) (p : ByteArray → Bool) (xs : List ByteArray) (hx : xs.length ≤ 2^48) (H : ∀ x ∈ xs, FnP Try.prog g [sT x, .c (.im c)] (bT (p x))) : FnS Try.prog 239 [] [slT eS xs, .c (.im (.fn g [c]))] [] (bT (xs.any p)) := by
  refine FnS.go [0, 1, 4] [] Try.func239 rfl (fun kt kz => ?_)
  have fcx := fc239A23
  simp only [Try.f239]
  refine Run (cast_succ) ?_; repeat' (first | (with_reducible exact True.intro) | (with_reducible refine Lf.mk ?_ ?_) | (with_reducible intro hb))
  refine Cal (cast_succ) (slIdxFS_ok g hg c p xs hx H) ?_
  refine Run ((idx_ge (p := p) (l := xs))) ?_; repeat' (first | (with_reducible exact True.intro) | (with_reducible refine Lf.mk ?_ ?_) | (with_reducible intro hb))
def fc196A23 := (And.intro (And.intro (And.intro sz4 ag4) (And.intro zv4 un4)) (And.intro (And.intro sz9 ag9) (And.intro zv9 (And.intro un9 okf211))))
theorem cmpLess_ok (x y : ByteArray) : FnS Try.prog 196 [] [sT x, sT y] [] (bT (sLt x y)) := by
  refine FnS.go [0, 1, 4] [] Try.func196 rfl (fun kt kz => ?_)
  have fcx := fc196A23
  simp only [Try.f196]
  refine Run (cast_succ) ?_; repeat' (first | (with_reducible exact True.intro) | (with_reducible refine Lf.mk ?_ ?_) | (with_reducible intro hb))
  refine Cal (cast_succ) (isNaNS_ok x) ?_
  refine Run (cast_succ) ?_; repeat' (first | (with_reducible exact True.intro) | (with_reducible refine Lf.mk ?_ ?_) | (with_reducible intro hb))
def fc172A23 := (And.intro (And.intro (And.intro (And.intro sz3 ag3) (And.intro zv3 (And.intro un3 sz4))) (And.intro (And.intro ag4 zv4) (And.intro un4 (And.intro sz9 ag9)))) (And.intro (And.intro (And.intro zv9 un9) (And.intro sz63 (And.intro ag63 zv63))) (And.intro (And.intro sb63 un63) (And.intro el63 (And.intro ap63 okf196)))))
theorem slSortedS_ok (xs : List ByteArray) (hx : xs.length ≤ 2^48) : FnS Try.prog 172 [] [slT eS xs] [] (bT (decide (SortedS xs))) := by
  refine FnS.go [0, 2, 3, 8, 20] [] Try.func172 rfl (fun kt kz => ?_)
  have fcx := fc172A23
  simp only [Try.f172]
  by_cases h0 : xs = []
  · subst h0
    refine Run (cast_succ) ?_; repeat' (first | (with_reducible exact True.intro) | (with_reducible refine Lf.mk ?_ ?_) | (with_reducible intro hb))
    refine Trn (α := Nat) [2, 3, 7, 8, 9, 10, 11, 12, 13, 14, 15, 16, 17, 18, 19, 20] (fun i => [(3, iT (((0 : Nat) : Int) - 1))]) (fun i => []) (fun i => True) (fun i => i) (0) (trivial) (cast_succ) ?_; intro lx hI; obtain i := lx; (try simp only [List.nil_append, List.cons_append] at hI ⊢)
    refine Run (cast_succ) ?_; repeat' (first | (with_reducible exact True.intro) | (with_reducible refine Lf.mk ?_ ?_) | (with_reducible intro hb))
    · omega
    · rw [decide_eq_true (show SortedS [] from fun k h => by simp at h)]
  · have hl : 0 < xs.length := List.length_pos_iff.2 h0
    refine Run (cast_succ) ?_; repeat' (first | (with_reducible exact True.intro) | (with_reducible refine Lf.mk ?_ ?_) | (with_reducible intro hb))
    refine Trn (α := Nat) [2, 3, 7, 8, 9, 10, 11, 12, 13, 14, 15, 16, 17, 18, 19, 20] (fun i => [(3, iT (i : Int))]) (fun i => []) (fun i => i < xs.length ∧ ∀ k, (h : k + 1 < xs.length) → i ≤ k → sLt xs[k + 1] (xs[k]'(by omega)) = false) (fun i => i) (xs.length - 1) (⟨by omega, fun k h hk => by omega⟩) ((show ((xs.length - 1 : Nat) : Int) = (xs.length : Int) - 1 by omega)) ?_; intro lx hI; obtain i := lx; (try simp only [List.nil_append, List.cons_append] at hI ⊢)
    by_cases hp : 0 < lx
    · have hz : (0 : Int) < (lx : Int) := by omega
      refine Run ((And.intro @hz @eS.eq_1)) ?_; repeat' (first | (with_reducible exact True.intro) | (with_reducible refine Lf.mk ?_ ?_) | (with_reducible intro hb))
      refine Cal (cast_succ) (cmpLess_ok xs[lx] xs[lx - 1]) ?_
      refine Run (cast_succ) ?_; repeat' (first | (with_reducible exact True.intro) | (with_reducible refine Lf.mk ?_ ?_) | (with_reducible intro hb))
      · rw [decide_eq_false fun hs => by
          have h1 := hs (lx - 1) (by omega)
          have e : lx - 1 + 1 = lx := by omega
          simp only [e] at h1
          rw [hb] at h1; cases h1]
      · exact Nxt ((show ((lx - 1 : Nat) : Int) = (lx : Int) - 1 by omega)) (lx - 1) (⟨by omega, fun k h hk => by
          by_cases hk2 : lx ≤ k
          · exact hI.2 k h hk2
          · have e : k = lx - 1 := by omega
            subst e
            have e : lx - 1 + 1 = lx := by omega
            simp only [e]
            exact hb⟩) (by omega)
    · have hz : ¬ (0 : Int) < (lx : Int) := by omega
      refine Run (@hz) ?_; repeat' (first | (with_reducible exact True.intro) | (with_reducible refine Lf.mk ?_ ?_) | (with_reducible intro hb))
      rw [decide_eq_true (show SortedS xs from fun k h => hI.2 k h (by omega))]

end Go.VC.T
/- Data (Value): how they are measured, copied and compared. -/
namespace Go.VC.T
open Go Go.VC Go.Proofs Go.VC.F
set_option linter.unusedSimpArgs false
set_option linter.unusedVariables false
set_option linter.defProp false
set_option maxRecDepth 100000
set_option maxHeartbeats 2000000
def fc201SValue := (And.intro (And.intro (And.intro (And.intro (And.intro sz3 ag3) (And.intro zv3 un3)) (And.intro (And.intro sz4 ag4) (And.intro zv4 un4))) (And.intro (And.intro (And.intro sz63 ag63) (And.intro zv63 sb63)) (And.intro (And.intro un63 el63) (And.intro ap63 sz165)))) (And.intro (And.intro (And.intro (And.intro ag165 zv165) (And.intro sb165 un165)) (And.intro (And.intro el165 ap165) (And.intro sz245 ag245))) (And.intro (And.intro (And.intro zv245 fl245_0) (And.intro fl245_1 fl245_2)) (And.intro (And.intro fl245_3 pl245) (And.intro okf139 okf163)))))
theorem szValue_of (t : Val) (h : okVal (2^48) t) (H0 : ∀ left : Int, 0 ≤ left ∧ left ≤ 2^20 → FnP Try.prog 163 [slT eVal t.args, iT left] (iT (szR (zL zVal t.args) left))) (left : Int) (hl : 0 ≤ left ∧ left ≤ 2^20) : FnS Try.prog 201 [] [agT (eVal t), iT left] [] (iT (szR (zVal t) left)) := by
  refine FnS.go [0, 1, 2, 4, 10, 16] [] Try.func201 rfl (fun kt kz => ?_)
  have fcx := fc201SValue
  simp only [Try.f201]
  have ho := okVal_iff.1 h
  refine Run ((And.intro @eVal_eta @szR_add)) ?_; repeat' (first | (with_reducible exact True.intro) | (with_reducible refine Lf.mk ?_ ?_) | (with_reducible intro hb))
  refine Cal ((And.intro @eVal_eta @szR_add)) (szStringS_ok _ ho.2.2.1 _ hl) ?_
  have hz := szR_le (n := zSL t.labels) hl.1
  refine Run ((And.intro @eVal_eta @szR_add)) ?_; repeat' (first | (with_reducible exact True.intro) | (with_reducible refine Lf.mk ?_ ?_) | (with_reducible intro hb))
  · congr 4; have s1 := szR_spec (zSL t.labels) left; have s2 := szR_spec (zVal t) left; rw [zVal_eta] at s2 ⊢; omega
  · skip
    refine Cal ((And.intro @eVal_eta @szR_add)) (H0 _ ⟨(by assumption), by have := szR_le (n := zSL t.labels) hl.1; omega⟩) ?_
    have hz := szR_le (n := zSL t.labels + zL zVal t.args) hl.1
    refine Run ((And.intro @eVal_eta @szR_add)) ?_; repeat' (first | (with_reducible exact True.intro) | (with_reducible refine Lf.mk ?_ ?_) | (with_reducible intro hb))
    · congr 4; have s1 := szR_spec (zSL t.labels + zL zVal t.args) left; have s2 := szR_spec (zVal t) left; rw [zVal_eta] at s2 ⊢; omega
    · skip
      rw [zVal_eta]
def fc163SValue := (And.intro (And.intro (And.intro (And.intro sz3 (And.intro ag3 zv3)) (And.intro un3 (And.intro sz4 ag4))) (And.intro (And.intro zv4 (And.intro un4 sz165)) (And.intro ag165 (And.intro zv165 sb165)))) (And.intro (And.intro (And.intro un165 (And.intro el165 ap165)) (And.intro sz245 (And.intro ag245 zv245))) (And.intro (And.intro fl245_0 (And.intro fl245_1 fl245_2)) (And.intro (And.intro fl245_3 pl245) (And.intro okf201 sz63)))))
theorem szValueS_of (xs : List Val) (hx : okLs (2^48) okVal xs) (H : ∀ t ∈ xs, ∀ left : Int, 0 ≤ left ∧ left ≤ 2^20 → FnP Try.prog 201 [agT (eVal t), iT left] (iT (szR (zVal t) left))) (left : Int) (hl : 0 ≤ left ∧ left ≤ 2^20) : FnS Try.prog 163 [] [slT eVal xs, iT left] [] (iT (szR (zL zVal xs) left)) := by
  refine FnS.go [0, 1, 4, 5, 11, 15, 25] [] Try.func163 rfl (fun kt kz => ?_)
  have fcx := fc163SValue
  simp only [Try.f163]
  have hx1 := hx.1
  refine Run (cast_succ) ?_; repeat' (first | (with_reducible exact True.intro) | (with_reducible refine Lf.mk ?_ ?_) | (with_reducible intro hb))
  · simp only [szR_nil hb zL_len]
  · rw [szR_sub hb]
    have hb2 := szR_sub hb ▸ hb
    refine Trn (α := Nat) [1, 4, 5, 12, 13, 14, 15, 16, 17, 18, 19, 20, 21, 22, 23, 24, 25] (fun i => [(5, iT i), (1, iT (szR (zT zVal xs i) left))]) (fun i => []) (fun i => i ≤ xs.length ∧ 0 ≤ szR (zT zVal xs i) left) (fun i => xs.length - i) (0) (⟨Nat.zero_le _, by rw [zT_zero]; exact hb2⟩) ((zT_zero (z := zVal) (l := xs))) ?_; intro lx hI; obtain i := lx; (try simp only [List.nil_append, List.cons_append] at hI ⊢)
    have hz := szR_le (n := zT zVal xs lx) hl.1
    by_cases hlt : lx < xs.length
    · have e : szR (zVal xs[lx]) (szR (zT zVal xs lx) left) = szR (zT zVal xs (lx + 1)) left := by rw [zT_succ hlt, ← szR_add]
      refine Run (@eVal_eta) ?_; repeat' (first | (with_reducible exact True.intro) | (with_reducible refine Lf.mk ?_ ?_) | (with_reducible intro hb))
      · refine Cal (@eVal_eta) (H _ (List.getElem_mem hlt) _ ⟨hI.2, by omega⟩) ?_
        refine Run (cast_succ) ?_; repeat' (first | (with_reducible exact True.intro) | (with_reducible refine Lf.mk ?_ ?_) | (with_reducible intro hb))
        · rw [e] at hb
          rw [szR_neg hb zT_le]
        · rw [e] at hb
          exact Nxt (@e) (lx + 1) (⟨by omega, hb⟩) (by first | omega | (simp; omega))
      · omega
    · refine Run (cast_succ) ?_; repeat' (first | (with_reducible exact True.intro) | (with_reducible refine Lf.mk ?_ ?_) | (with_reducible intro hb))
      · omega
      · rw [zT_all (by omega)]

theorem szValue_ok (t : Val) (h : okVal (2^48) t) (left : Int) (hl : 0 ≤ left ∧ left ≤ 2^20) : FnP Try.prog 201 [agT (eVal t), iT left] (iT (szR (zVal t) left)) := szValue_of t h (fun left hl => szValueS_of t.args ((okVal_iff.1 h).2.2.2) (fun u hu left hl => szValue_ok u (((okVal_iff.1 h).2.2.2).2 u hu) left hl) left hl) left hl
termination_by SizeOf.sizeOf t
decreasing_by all_goals first | exact Ty.mem hu | exact Val.mem hu | exact Tm.mem hu | exact Pl.mem hu | exact Hd.memP hu | exact Hd.memQ hu | exact Cmp.memH _
theorem szValueS_ok (xs : List Val) (h : okLs (2^48) okVal xs) (left : Int) (hl : 0 ≤ left ∧ left ≤ 2^20) : FnP Try.prog 163 [slT eVal xs, iT left] (iT (szR (zL zVal xs) left)) := szValueS_of xs h (fun t ht left hl => szValue_ok t (h.2 t ht) left hl) left hl
def fc202SValue := (And.intro (And.intro (And.intro (And.intro (And.intro sz3 ag3) (And.intro zv3 (And.intro un3 sz63))) (And.intro (And.intro ag63 zv63) (And.intro sb63 (And.intro un63 el63)))) (And.intro (And.intro (And.intro ap63 sz103) (And.intro ag103 (And.intro zv103 sb103))) (And.intro (And.intro un103 (And.intro el103 ap103)) (And.intro sz107 (And.intro ag107 zv107))))) (And.intro (And.intro (And.intro (And.intro fl107_0 fl107_1) (And.intro fl107_2 (And.intro fl107_3 pl107))) (And.intro (And.intro sz165 (And.intro ag165 zv165)) (And.intro sb165 (And.intro un165 el165)))) (And.intro (And.intro (And.intro ap165 sz245) (And.intro ag245 (And.intro zv245 fl245_0))) (And.intro (And.intro fl245_1 (And.intro fl245_2 fl245_3)) (And.intro pl245 (And.intro okf143 okf165))))))
theorem toValue_w (t : Val) (h : okVal (2^20) t) (H0 : ∀ q : Nat, FnS Try.prog 165 [] [slT eVal t.args] [(q, .row t.args.length (t.args.flatMap eVal))] (.c (.os q t.args.length))) : FnS Try.prog 202 [] [agT (eVal t)] [(1000, .row t.labels.length (t.labels.flatMap eS)), (1002, .row t.args.length (t.args.flatMap eVal))] (.ag [.im (.sc (.int .i64 t.kind)), .im (.sc (.int .i64 t.n)), .os 1000 t.labels.length, .os 1002 t.args.length]) := by
  refine FnS.go [0, 1, 2, 3] [] Try.func202 rfl (fun kt kz => ?_)
  have fcx := fc202SValue
  simp only [Try.f202]
  have ho := okVal_iff.1 h
  refine Run (@eVal_eta) ?_; repeat' (first | (with_reducible exact True.intro) | (with_reducible refine Lf.mk ?_ ?_) | (with_reducible intro hb))
  refine CalI (@eVal_eta) (toStringS_o _ ho.2.2.1 1000) ?_
  refine Run (@eVal_eta) ?_; repeat' (first | (with_reducible exact True.intro) | (with_reducible refine Lf.mk ?_ ?_) | (with_reducible intro hb))
  refine CalI (@eVal_eta) (H0 1002) ?_
  refine Run (@eVal_eta) ?_; repeat' (first | (with_reducible exact True.intro) | (with_reducible refine Lf.mk ?_ ?_) | (with_reducible intro hb))

theorem toValue_q (t : Val) (h : okVal (2^20) t) (H0 : ∀ q : Nat, FnS Try.prog 165 [] [slT eVal t.args] [(q, .row t.args.length (t.args.flatMap eVal))] (.c (.os q t.args.length))) : ∀ q0 q1 : Nat, [q0, q1].Nodup → FnS Try.prog 202 [] [agT (eVal t)] [(q0, .row t.labels.length (t.labels.flatMap eS)), (q1, .row t.args.length (t.args.flatMap eVal))] (.ag [.im (.sc (.int .i64 t.kind)), .im (.sc (.int .i64 t.n)), .os q0 t.labels.length, .os q1 t.args.length]) := by
  intro q0 q1 hq
  obtain ⟨p, hp⟩ := pml [1000, 1002] [q0, q1] (by decide) hq rfl
  simp only [List.map_cons, List.map_nil, List.cons.injEq, and_true] at hp
  refine ((toValue_w t h H0).rows.pm p).as ?_ ?_ <;> simp [rowS, rowO, renS, Ob.ren, TV.ren, renL, Cell.ren, hp]
def fc165SValue := (And.intro (And.intro (And.intro (And.intro (And.intro sz3 ag3) (And.intro zv3 (And.intro un3 sz4))) (And.intro (And.intro ag4 zv4) (And.intro un4 (And.intro sz103 ag103)))) (And.intro (And.intro (And.intro zv103 sb103) (And.intro un103 (And.intro el103 ap103))) (And.intro (And.intro sz107 ag107) (And.intro zv107 (And.intro fl107_0 fl107_1))))) (And.intro (And.intro (And.intro (And.intro fl107_2 fl107_3) (And.intro pl107 (And.intro sz165 ag165))) (And.intro (And.intro zv165 sb165) (And.intro un165 (And.intro el165 ap165)))) (And.intro (And.intro (And.intro sz245 ag245) (And.intro zv245 (And.intro fl245_0 fl245_1))) (And.intro (And.intro fl245_2 fl245_3) (And.intro pl245 (And.intro okf202 sz63))))))
theorem toValueS_w (xs : List Val) (hx : okLs (2^20) okVal xs) (H : ∀ t ∈ xs, ∀ q0 q1 : Nat, [q0, q1].Nodup → FnS Try.prog 202 [] [agT (eVal t)] [(q0, .row t.labels.length (t.labels.flatMap eS)), (q1, .row t.args.length (t.args.flatMap eVal))] (.ag [.im (.sc (.int .i64 t.kind)), .im (.sc (.int .i64 t.n)), .os q0 t.labels.length, .os q1 t.args.length])) : FnS Try.prog 165 [] [slT eVal xs] [(14, .vec 107 4 xs.length (xs.flatMap eVal) true)] (.c (.os 14 xs.length)) := by
  refine FnS.go [0, 2, 3, 4, 11] [] Try.func165 rfl (fun kt kz => ?_)
  have fcx := fc165SValue
  simp only [Try.f165]
  have hx1 := hx.1
  refine Run (cast_succ) ?_; repeat' (first | (with_reducible exact True.intro) | (with_reducible refine Lf.mk ?_ ?_) | (with_reducible intro hb))
  refine Trn (α := Nat) [4, 8, 9, 10, 11, 12, 13, 14, 15, 16, 17, 18, 19, 20, 21] (fun i => [(4, iT i), (3, .c (.os 14 xs.length))]) (fun i => [(14, .vec 107 4 xs.length (filled eVal [.sc (.int .i64 0), .sc (.int .i64 0), .sl 0 [], .sl 0 []] xs i) true)]) (fun i => i ≤ xs.length) (fun i => xs.length - i) (0) (Nat.zero_le _) (cast_succ) ?_; intro lx hI; obtain i := lx; (try simp only [List.nil_append, List.cons_append] at hI ⊢)
  refine Run (@eVal_eta) ?_; repeat' (first | (with_reducible exact True.intro) | (with_reducible refine Lf.mk ?_ ?_) | (with_reducible intro hb))
  · refine CalI (@eVal_eta) (H _ (List.getElem_mem hb) 1000 1002 (by decide)) ?_
    refine Run (@eVal_eta) ?_; repeat' (first | (with_reducible exact True.intro) | (with_reducible refine Lf.mk ?_ ?_) | (with_reducible intro hb))
    have hs := filled_step' (E := eVal) (zs := [.sc (.int .i64 0), .sc (.int .i64 0), .sl 0 [], .sl 0 []]) hb
    simp only [eVal_eta, setL_st, stL_one, slI] at hs
    exact Nxt (@hs) (lx + 1) (by omega) (by first | omega | (simp; omega))

theorem toValueS_q (xs : List Val) (hx : okLs (2^20) okVal xs) (H : ∀ t ∈ xs, ∀ q0 q1 : Nat, [q0, q1].Nodup → FnS Try.prog 202 [] [agT (eVal t)] [(q0, .row t.labels.length (t.labels.flatMap eS)), (q1, .row t.args.length (t.args.flatMap eVal))] (.ag [.im (.sc (.int .i64 t.kind)), .im (.sc (.int .i64 t.n)), .os q0 t.labels.length, .os q1 t.args.length])) (q : Nat) : FnS Try.prog 165 [] [slT eVal xs] [(q, .row xs.length (xs.flatMap eVal))] (.c (.os q xs.length)) := by
  obtain ⟨p, hp⟩ := pm1 14 q
  refine ((toValueS_w xs hx H).rows.pm p).as ?_ ?_ <;> simp [rowS, rowO, renS, Ob.ren, TV.ren, Cell.ren, hp]

theorem toValue_o (t : Val) (h : okVal (2^20) t) : ∀ q0 q1 : Nat, [q0, q1].Nodup → FnS Try.prog 202 [] [agT (eVal t)] [(q0, .row t.labels.length (t.labels.flatMap eS)), (q1, .row t.args.length (t.args.flatMap eVal))] (.ag [.im (.sc (.int .i64 t.kind)), .im (.sc (.int .i64 t.n)), .os q0 t.labels.length, .os q1 t.args.length]) := toValue_q t h (fun q => toValueS_q t.args ((okVal_iff.1 h).2.2.2) (fun u hu => toValue_o u (((okVal_iff.1 h).2.2.2).2 u hu)) q)
termination_by SizeOf.sizeOf t
decreasing_by all_goals first | exact Ty.mem hu | exact Val.mem hu | exact Tm.mem hu | exact Pl.mem hu | exact Hd.memP hu | exact Hd.memQ hu | exact Cmp.memH _
theorem toValueS_o (xs : List Val) (h : okLs (2^20) okVal xs) (q : Nat) : FnS Try.prog 165 [] [slT eVal xs] [(q, .row xs.length (xs.flatMap eVal))] (.c (.os q xs.length)) := toValueS_q xs h (fun t ht => toValue_o t (h.2 t ht)) q
def fc203SValue := (And.intro (And.intro (And.intro (And.intro (And.intro sz3 ag3) (And.intro zv3 un3)) (And.intro (And.intro sz4 ag4) (And.intro zv4 un4))) (And.intro (And.intro (And.intro sz63 ag63) (And.intro zv63 sb63)) (And.intro (And.intro un63 el63) (And.intro ap63 sz103)))) (And.intro (And.intro (And.intro (And.intro ag103 zv103) (And.intro sb103 un103)) (And.intro (And.intro el103 ap103) (And.intro sz107 ag107))) (And.intro (And.intro (And.intro zv107 fl107_0) (And.intro fl107_1 fl107_2)) (And.intro (And.intro fl107_3 pl107) (And.intro okf147 okf166)))))
theorem eqValue_of (t : Val) (h : okVal (2^20) t) (H0 : FnP Try.prog 166 [slT eVal t.args, slT eVal t.args] (bT true)) : FnS Try.prog 203 [] [agT (eVal t), agT (eVal t)] [] (bT true) := by
  refine FnS.go [0, 1, 2, 3, 4, 9, 14, 20, 26] [] Try.func203 rfl (fun kt kz => ?_)
  have fcx := fc203SValue
  simp only [Try.f203]
  have ho := okVal_iff.1 h
  refine Run (@eVal_eta) ?_; repeat' (first | (with_reducible exact True.intro) | (with_reducible refine Lf.mk ?_ ?_) | (with_reducible intro hb))
  refine Cal (@eVal_eta) (eqStringS_rf _ ho.2.2.1) ?_
  refine Run (@eVal_eta) ?_; repeat' (first | (with_reducible exact True.intro) | (with_reducible refine Lf.mk ?_ ?_) | (with_reducible intro hb))
  refine Cal (@eVal_eta) (H0) ?_
  refine Run (@eVal_eta) ?_; repeat' (first | (with_reducible exact True.intro) | (with_reducible refine Lf.mk ?_ ?_) | (with_reducible intro hb))
def fc166SValue := (And.intro (And.intro (And.intro (And.intro sz3 (And.intro ag3 zv3)) (And.intro un3 (And.intro sz4 ag4))) (And.intro (And.intro zv4 (And.intro un4 sz103)) (And.intro ag103 (And.intro zv103 sb103)))) (And.intro (And.intro (And.intro un103 (And.intro el103 ap103)) (And.intro sz107 (And.intro ag107 zv107))) (And.intro (And.intro fl107_0 (And.intro fl107_1 fl107_2)) (And.intro (And.intro fl107_3 pl107) (And.intro okf203 sz63)))))
theorem eqValueS_of (xs : List Val) (hx : okLs (2^20) okVal xs) (H : ∀ t ∈ xs, FnP Try.prog 203 [agT (eVal t), agT (eVal t)] (bT true)) : FnS Try.prog 166 [] [slT eVal xs, slT eVal xs] [] (bT true) := by
  refine FnS.go [0, 1, 4, 5, 10, 14, 26] [] Try.func166 rfl (fun kt kz => ?_)
  have fcx := fc166SValue
  simp only [Try.f166]
  have hx1 := hx.1
  refine Run (cast_succ) ?_; repeat' (first | (with_reducible exact True.intro) | (with_reducible refine Lf.mk ?_ ?_) | (with_reducible intro hb))
  refine Trn (α := Nat) [4, 5, 11, 12, 13, 14, 15, 16, 17, 18, 19, 20, 21, 22, 23, 24, 25, 26] (fun i => [(5, iT i)]) (fun i => []) (fun i => i ≤ xs.length) (fun i => xs.length - i) (0) (Nat.zero_le _) (cast_succ) ?_; intro lx hI; obtain i := lx; (try simp only [List.nil_append, List.cons_append] at hI ⊢)
  refine Run (@eVal_eta) ?_; repeat' (first | (with_reducible exact True.intro) | (with_reducible refine Lf.mk ?_ ?_) | (with_reducible intro hb))
  · refine Cal (@eVal_eta) (H _ (List.getElem_mem hb)) ?_
    refine Run (@eVal_eta) ?_; repeat' (first | (with_reducible exact True.intro) | (with_reducible refine Lf.mk ?_ ?_) | (with_reducible intro hb))
    exact Nxt (cast_succ) (lx + 1) (by omega) (by first | omega | (simp; omega))

theorem eqValue_ok (t : Val) (h : okVal (2^20) t) : FnP Try.prog 203 [agT (eVal t), agT (eVal t)] (bT true) := eqValue_of t h (eqValueS_of t.args ((okVal_iff.1 h).2.2.2) (fun u hu => eqValue_ok u (((okVal_iff.1 h).2.2.2).2 u hu)))
termination_by SizeOf.sizeOf t
decreasing_by all_goals first | exact Ty.mem hu | exact Val.mem hu | exact Tm.mem hu | exact Pl.mem hu | exact Hd.memP hu | exact Hd.memQ hu | exact Cmp.memH _
theorem eqValueS_ok (xs : List Val) (h : okLs (2^20) okVal xs) : FnP Try.prog 166 [slT eVal xs, slT eVal xs] (bT true) := eqValueS_of xs h (fun t ht => eqValue_ok t (h.2 t ht))
theorem toValue_ok (t : Val) (h : okVal (2^20) t) : FnP Try.prog 202 [agT (eVal t)] (agT (eVal t)) := (toValue_o t h 1000 1002 (by decide)).tree (by simp -dsimp (maxSteps := 2000000) (disch := omega) only [vs, ↓Option.bind_some, ev1, ofV, scalarB, Kn, Kb, calleeOf, evLoad, ptr, evField, evFieldAddr, shift, ↓pt_at, ↓pt_at1, evExtract, evBin, evLen, evConv, cellsT, noS, Cell.has, Cell.hasN, Cell.anyN, toIV, toIV0, toIVs, ownC, srcM, Ob.own, Ob.esz, allSc, nilK, lenC, ownCell, isPtr, ptrNil, frzO, Cell.frz, Cell.keys, ↓reduceIte, reduceCtorEq, Nat.reduceEqDiff, Nat.reduceBEq, Nat.reduceBNe, Nat.reduceAdd, Nat.reduceMul, Nat.reduceSub, Nat.reduceLT, Nat.reduceLeDiff, Nat.reducePow, Int.reduceLT, Int.reduceLE, Int.reduceEq, Int.reduceNe, quietB, Nat.reduceMod, Int.reduceToNat, ne_eq, eq_self, exists_const, evBytes, byRow, byL, byStr_size, ifsz, ByteArray.size_append, Option.none_or, Option.some_or, evLook, keyD, eVal_eta])
theorem toValueS_ok (xs : List Val) (h : okLs (2^20) okVal xs) : FnP Try.prog 165 [slT eVal xs] (slT eVal xs) := (toValueS_o xs h 1000).tree (by simp -dsimp (maxSteps := 2000000) (disch := omega) only [vs, ↓Option.bind_some, ev1, ofV, scalarB, Kn, Kb, calleeOf, evLoad, ptr, evField, evFieldAddr, shift, ↓pt_at, ↓pt_at1, evExtract, evBin, evLen, evConv, cellsT, noS, Cell.has, Cell.hasN, Cell.anyN, toIV, toIV0, toIVs, ownC, srcM, Ob.own, Ob.esz, allSc, nilK, lenC, ownCell, isPtr, ptrNil, frzO, Cell.frz, Cell.keys, ↓reduceIte, reduceCtorEq, Nat.reduceEqDiff, Nat.reduceBEq, Nat.reduceBNe, Nat.reduceAdd, Nat.reduceMul, Nat.reduceSub, Nat.reduceLT, Nat.reduceLeDiff, Nat.reducePow, Int.reduceLT, Int.reduceLE, Int.reduceEq, Int.reduceNe, quietB, Nat.reduceMod, Int.reduceToNat, ne_eq, eq_self, exists_const, evBytes, byRow, byL, byStr_size, ifsz, ByteArray.size_append, Option.none_or, Option.some_or, evLook, keyD])

end Go.VC.T
/- Data (TableData): how they are measured, copied and compared. -/
namespace Go.VC.T
open Go Go.VC Go.Proofs Go.VC.F
set_option linter.unusedSimpArgs false
set_option linter.unusedVariables false
set_option linter.defProp false
set_option maxRecDepth 100000
set_option maxHeartbeats 2000000
def fc113STableData := (And.intro (And.intro (And.intro (And.intro sz3 (And.intro ag3 zv3)) (And.intro un3 (And.intro sz4 ag4))) (And.intro (And.intro zv4 (And.intro un4 sz9)) (And.intro (And.intro ag9 zv9) (And.intro un9 sz165)))) (And.intro (And.intro (And.intro ag165 (And.intro zv165 sb165)) (And.intro un165 (And.intro el165 ap165))) (And.intro (And.intro sz167 (And.intro ag167 zv167)) (And.intro (And.intro fl167_0 fl167_1) (And.intro pl167 okf163)))))
theorem szTableData_ok (t : TData) (h : okTData (2^48) t) (left : Int) (hl : 0 ≤ left ∧ left ≤ 2^20) : FnS Try.prog 113 [] [agT (eTData t), iT left] [] (iT (szR (zTData t) left)) := by
  refine FnS.go [0, 1, 2, 4, 11, 17] [] Try.func113 rfl (fun kt kz => ?_)
  have fcx := fc113STableData
  simp only [Try.f113]
  have ho := okTData_iff.1 h
  have hs0 : t.name.size = zS t.name := rfl
  have hw0 : zS t.name ≤ 2^48 := ho.1
  refine Run ((And.intro @eTData_eta (And.intro @hs0 @szR_add))) ?_; repeat' (first | (with_reducible exact True.intro) | (with_reducible refine Lf.mk ?_ ?_) | (with_reducible intro hb))
  · congr 4; have s2 := szR_spec (zTData t) left; rw [zTData_eta] at s2 ⊢; omega
  · skip
    have e : left - (zS t.name : Int) = szR (zS t.name) left := by have s3 := szR_spec (zS t.name) left; omega
    rw [e] at hb ⊢
    refine Cal ((And.intro @eTData_eta (And.intro @hs0 @szR_add))) (szValueS_ok _ ho.2 _ ⟨(by assumption), by have := szR_le (n := zS t.name) hl.1; omega⟩) ?_
    have hz := szR_le (n := zS t.name + zL zVal t.rows) hl.1
    refine Run ((And.intro @eTData_eta (And.intro @hs0 @szR_add))) ?_; repeat' (first | (with_reducible exact True.intro) | (with_reducible refine Lf.mk ?_ ?_) | (with_reducible intro hb))
    · congr 4; have s1 := szR_spec (zS t.name + zL zVal t.rows) left; have s2 := szR_spec (zTData t) left; rw [zTData_eta] at s2 ⊢; omega
    · skip
      rw [zTData_eta]
def fc58STableData := (And.intro (And.intro (And.intro (And.intro sz3 (And.intro ag3 zv3)) (And.intro un3 (And.intro sz4 ag4))) (And.intro (And.intro zv4 (And.intro un4 sz27)) (And.intro ag27 (And.intro zv27 sb27)))) (And.intro (And.intro (And.intro un27 (And.intro el27 ap27)) (And.intro sz167 (And.intro ag167 zv167))) (And.intro (And.intro fl167_0 (And.intro fl167_1 pl167)) (And.intro okf113 (And.intro sz9 sz165)))))
theorem szTableDataS_of (xs : List TData) (hx : okLs (2^48) okTData xs) (H : ∀ t ∈ xs, ∀ left : Int, 0 ≤ left ∧ left ≤ 2^20 → FnP Try.prog 113 [agT (eTData t), iT left] (iT (szR (zTData t) left))) (left : Int) (hl : 0 ≤ left ∧ left ≤ 2^20) : FnS Try.prog 58 [] [slT eTData xs, iT left] [] (iT (szR (zL zTData xs) left)) := by
  refine FnS.go [0, 1, 4, 5, 11, 15, 25] [] Try.func58 rfl (fun kt kz => ?_)
  have fcx := fc58STableData
  simp only [Try.f58]
  have hx1 := hx.1
  refine Run (cast_succ) ?_; repeat' (first | (with_reducible exact True.intro) | (with_reducible refine Lf.mk ?_ ?_) | (with_reducible intro hb))
  · simp only [szR_nil hb zL_len]
  · rw [szR_sub hb]
    have hb2 := szR_sub hb ▸ hb
    refine Trn (α := Nat) [1, 4, 5, 12, 13, 14, 15, 16, 17, 18, 19, 20, 21, 22, 23, 24, 25] (fun i => [(5, iT i), (1, iT (szR (zT zTData xs i) left))]) (fun i => []) (fun i => i ≤ xs.length ∧ 0 ≤ szR (zT zTData xs i) left) (fun i => xs.length - i) (0) (⟨Nat.zero_le _, by rw [zT_zero]; exact hb2⟩) ((zT_zero (z := zTData) (l := xs))) ?_; intro lx hI; obtain i := lx; (try simp only [List.nil_append, List.cons_append] at hI ⊢)
    have hz := szR_le (n := zT zTData xs lx) hl.1
    by_cases hlt : lx < xs.length
    · have e : szR (zTData xs[lx]) (szR (zT zTData xs lx) left) = szR (zT zTData xs (lx + 1)) left := by rw [zT_succ hlt, ← szR_add]
      refine Run (@eTData_eta) ?_; repeat' (first | (with_reducible exact True.intro) | (with_reducible refine Lf.mk ?_ ?_) | (with_reducible intro hb))
      · refine Cal (@eTData_eta) (H _ (List.getElem_mem hlt) _ ⟨hI.2, by omega⟩) ?_
        refine Run (cast_succ) ?_; repeat' (first | (with_reducible exact True.intro) | (with_reducible refine Lf.mk ?_ ?_) | (with_reducible intro hb))
        · rw [e] at hb
          rw [szR_neg hb zT_le]
        · rw [e] at hb
          exact Nxt (@e) (lx + 1) (⟨by omega, hb⟩) (by first | omega | (simp; omega))
      · omega
    · refine Run (cast_succ) ?_; repeat' (first | (with_reducible exact True.intro) | (with_reducible refine Lf.mk ?_ ?_) | (with_reducible intro hb))
      · omega
      · rw [zT_all (by omega)]

theorem szTableDataS_ok (xs : List TData) (h : okLs (2^48) okTData xs) (left : Int) (hl : 0 ≤ left ∧ left ≤ 2^20) : FnP Try.prog 58 [slT eTData xs, iT left] (iT (szR (zL zTData xs) left)) := szTableDataS_of xs h (fun t ht left hl => szTableData_ok t (h.2 t ht) left hl) left hl
def fc116STableData := (And.intro (And.intro (And.intro (And.intro sz9 (And.intro ag9 zv9)) (And.intro (And.intro un9 sz103) (And.intro ag103 zv103))) (And.intro (And.intro (And.intro sb103 un103) (And.intro el103 ap103)) (And.intro (And.intro sz156 ag156) (And.intro zv156 fl156_0)))) (And.intro (And.intro (And.intro (And.intro fl156_1 pl156) (And.intro sz165 ag165)) (And.intro (And.intro zv165 sb165) (And.intro un165 el165))) (And.intro (And.intro (And.intro ap165 sz167) (And.intro ag167 zv167)) (And.intro (And.intro fl167_0 fl167_1) (And.intro pl167 okf165)))))
theorem toTableData_w (t : TData) (h : okTData (2^20) t) : FnS Try.prog 116 [] [agT (eTData t)] [(1000, .row t.rows.length (t.rows.flatMap eVal))] (.ag [.im (.sc (.string t.name)), .os 1000 t.rows.length]) := by
  refine FnS.go [0, 1, 2, 3] [] Try.func116 rfl (fun kt kz => ?_)
  have fcx := fc116STableData
  simp only [Try.f116]
  have ho := okTData_iff.1 h
  refine Run (@eTData_eta) ?_; repeat' (first | (with_reducible exact True.intro) | (with_reducible refine Lf.mk ?_ ?_) | (with_reducible intro hb))
  refine CalI (@eTData_eta) (toValueS_o _ ho.2 1000) ?_
  refine Run (@eTData_eta) ?_; repeat' (first | (with_reducible exact True.intro) | (with_reducible refine Lf.mk ?_ ?_) | (with_reducible intro hb))

theorem toTableData_o (t : TData) (h : okTData (2^20) t) : ∀ q0 : Nat, [q0].Nodup → FnS Try.prog 116 [] [agT (eTData t)] [(q0, .row t.rows.length (t.rows.flatMap eVal))] (.ag [.im (.sc (.string t.name)), .os q0 t.rows.length]) := by
  intro q0 hq
  obtain ⟨p, hp⟩ := pml [1000] [q0] (by decide) hq rfl
  simp only [List.map_cons, List.map_nil, List.cons.injEq, and_true] at hp
  refine ((toTableData_w t h).rows.pm p).as ?_ ?_ <;> simp [rowS, rowO, renS, Ob.ren, TV.ren, renL, Cell.ren, hp]
def fc61STableData := (And.intro (And.intro (And.intro (And.intro (And.intro sz3 ag3) (And.intro zv3 un3)) (And.intro (And.intro sz4 ag4) (And.intro zv4 (And.intro un4 sz27)))) (And.intro (And.intro (And.intro ag27 zv27) (And.intro sb27 (And.intro un27 el27))) (And.intro (And.intro ap27 sz35) (And.intro ag35 (And.intro zv35 sb35))))) (And.intro (And.intro (And.intro (And.intro un35 el35) (And.intro ap35 sz156)) (And.intro (And.intro ag156 zv156) (And.intro fl156_0 (And.intro fl156_1 pl156)))) (And.intro (And.intro (And.intro sz167 ag167) (And.intro zv167 (And.intro fl167_0 fl167_1))) (And.intro (And.intro pl167 okf116) (And.intro sz9 (And.intro sz103 sz165))))))
theorem toTableDataS_w (xs : List TData) (hx : okLs (2^20) okTData xs) (H : ∀ t ∈ xs, ∀ q0 : Nat, [q0].Nodup → FnS Try.prog 116 [] [agT (eTData t)] [(q0, .row t.rows.length (t.rows.flatMap eVal))] (.ag [.im (.sc (.string t.name)), .os q0 t.rows.length])) : FnS Try.prog 61 [] [slT eTData xs] [(14, .vec 156 2 xs.length (xs.flatMap eTData) true)] (.c (.os 14 xs.length)) := by
  refine FnS.go [0, 2, 3, 4, 11] [] Try.func61 rfl (fun kt kz => ?_)
  have fcx := fc61STableData
  simp only [Try.f61]
  have hx1 := hx.1
  refine Run (cast_succ) ?_; repeat' (first | (with_reducible exact True.intro) | (with_reducible refine Lf.mk ?_ ?_) | (with_reducible intro hb))
  refine Trn (α := Nat) [4, 8, 9, 10, 11, 12, 13, 14, 15, 16, 17, 18, 19, 20, 21] (fun i => [(4, iT i), (3, .c (.os 14 xs.length))]) (fun i => [(14, .vec 156 2 xs.length (filled eTData [.sc (.string ⟨#[]⟩), .sl 0 []] xs i) true)]) (fun i => i ≤ xs.length) (fun i => xs.length - i) (0) (Nat.zero_le _) (cast_succ) ?_; intro lx hI; obtain i := lx; (try simp only [List.nil_append, List.cons_append] at hI ⊢)
  refine Run (@eTData_eta) ?_; repeat' (first | (with_reducible exact True.intro) | (with_reducible refine Lf.mk ?_ ?_) | (with_reducible intro hb))
  · refine CalI (@eTData_eta) (H _ (List.getElem_mem hb) 1000 (by decide)) ?_
    refine Run (@eTData_eta) ?_; repeat' (first | (with_reducible exact True.intro) | (with_reducible refine Lf.mk ?_ ?_) | (with_reducible intro hb))
    have hs := filled_step' (E := eTData) (zs := [.sc (.string ⟨#[]⟩), .sl 0 []]) hb
    simp only [eTData_eta, setL_st, stL_one, slI] at hs
    exact Nxt (@hs) (lx + 1) (by omega) (by first | omega | (simp; omega))

theorem toTableDataS_q (xs : List TData) (hx : okLs (2^20) okTData xs) (H : ∀ t ∈ xs, ∀ q0 : Nat, [q0].Nodup → FnS Try.prog 116 [] [agT (eTData t)] [(q0, .row t.rows.length (t.rows.flatMap eVal))] (.ag [.im (.sc (.string t.name)), .os q0 t.rows.length])) (q : Nat) : FnS Try.prog 61 [] [slT eTData xs] [(q, .row xs.length (xs.flatMap eTData))] (.c (.os q xs.length)) := by
  obtain ⟨p, hp⟩ := pm1 14 q
  refine ((toTableDataS_w xs hx H).rows.pm p).as ?_ ?_ <;> simp [rowS, rowO, renS, Ob.ren, TV.ren, Cell.ren, hp]

theorem toTableDataS_o (xs : List TData) (h : okLs (2^20) okTData xs) (q : Nat) : FnS Try.prog 61 [] [slT eTData xs] [(q, .row xs.length (xs.flatMap eTData))] (.c (.os q xs.length)) := toTableDataS_q xs h (fun t ht => toTableData_o t (h.2 t ht)) q
def fc118STableData := (And.intro (And.intro (And.intro (And.intro sz4 ag4) (And.intro zv4 (And.intro un4 sz9))) (And.intro (And.intro ag9 (And.intro zv9 un9)) (And.intro sz103 (And.intro ag103 zv103)))) (And.intro (And.intro (And.intro sb103 un103) (And.intro el103 (And.intro ap103 sz156))) (And.intro (And.intro ag156 (And.intro zv156 fl156_0)) (And.intro fl156_1 (And.intro pl156 okf166)))))
theorem eqTableData_ok (t : TData) (h : okTData (2^20) t) : FnS Try.prog 118 [] [agT (eTData t), agT (eTData t)] [] (bT true) := by
  refine FnS.go [0, 1, 2, 3, 4, 9, 15] [] Try.func118 rfl (fun kt kz => ?_)
  have fcx := fc118STableData
  simp only [Try.f118]
  have ho := okTData_iff.1 h
  refine Run (@eTData_eta) ?_; repeat' (first | (with_reducible exact True.intro) | (with_reducible refine Lf.mk ?_ ?_) | (with_reducible intro hb))
  refine Cal (@eTData_eta) (eqValueS_ok _ ho.2) ?_
  refine Run (@eTData_eta) ?_; repeat' (first | (with_reducible exact True.intro) | (with_reducible refine Lf.mk ?_ ?_) | (with_reducible intro hb))
def fc64STableData := (And.intro (And.intro (And.intro (And.intro sz3 (And.intro ag3 zv3)) (And.intro un3 (And.intro sz4 ag4))) (And.intro (And.intro zv4 (And.intro un4 sz35)) (And.intro ag35 (And.intro zv35 sb35)))) (And.intro (And.intro (And.intro un35 (And.intro el35 ap35)) (And.intro sz156 (And.intro ag156 zv156))) (And.intro (And.intro fl156_0 (And.intro fl156_1 pl156)) (And.intro okf118 (And.intro sz9 sz103)))))
theorem eqTableDataS_of (xs : List TData) (hx : okLs (2^20) okTData xs) (H : ∀ t ∈ xs, FnP Try.prog 118 [agT (eTData t), agT (eTData t)] (bT true)) : FnS Try.prog 64 [] [slT eTData xs, slT eTData xs] [] (bT true) := by
  refine FnS.go [0, 1, 4, 5, 10, 14, 26] [] Try.func64 rfl (fun kt kz => ?_)
  have fcx := fc64STableData
  simp only [Try.f64]
  have hx1 := hx.1
  refine Run (cast_succ) ?_; repeat' (first | (with_reducible exact True.intro) | (with_reducible refine Lf.mk ?_ ?_) | (with_reducible intro hb))
  refine Trn (α := Nat) [4, 5, 11, 12, 13, 14, 15, 16, 17, 18, 19, 20, 21, 22, 23, 24, 25, 26] (fun i => [(5, iT i)]) (fun i => []) (fun i => i ≤ xs.length) (fun i => xs.length - i) (0) (Nat.zero_le _) (cast_succ) ?_; intro lx hI; obtain i := lx; (try simp only [List.nil_append, List.cons_append] at hI ⊢)
  refine Run (@eTData_eta) ?_; repeat' (first | (with_reducible exact True.intro) | (with_reducible refine Lf.mk ?_ ?_) | (with_reducible intro hb))
  · refine Cal (@eTData_eta) (H _ (List.getElem_mem hb)) ?_
    refine Run (@eTData_eta) ?_; repeat' (first | (with_reducible exact True.intro) | (with_reducible refine Lf.mk ?_ ?_) | (with_reducible intro hb))
    exact Nxt (cast_succ) (lx + 1) (by omega) (by first | omega | (simp; omega))

theorem eqTableDataS_ok (xs : List TData) (h : okLs (2^20) okTData xs) : FnP Try.prog 64 [slT eTData xs, slT eTData xs] (bT true) := eqTableDataS_of xs h (fun t ht => eqTableData_ok t (h.2 t ht))
theorem toTableData_ok (t : TData) (h : okTData (2^20) t) : FnP Try.prog 116 [agT (eTData t)] (agT (eTData t)) := (toTableData_o t h 1000 (by decide)).tree (by simp -dsimp (maxSteps := 2000000) (disch := omega) only [vs, ↓Option.bind_some, ev1, ofV, scalarB, Kn, Kb, calleeOf, evLoad, ptr, evField, evFieldAddr, shift, ↓pt_at, ↓pt_at1, evExtract, evBin, evLen, evConv, cellsT, noS, Cell.has, Cell.hasN, Cell.anyN, toIV, toIV0, toIVs, ownC, srcM, Ob.own, Ob.esz, allSc, nilK, lenC, ownCell, isPtr, ptrNil, frzO, Cell.frz, Cell.keys, ↓reduceIte, reduceCtorEq, Nat.reduceEqDiff, Nat.reduceBEq, Nat.reduceBNe, Nat.reduceAdd, Nat.reduceMul, Nat.reduceSub, Nat.reduceLT, Nat.reduceLeDiff, Nat.reducePow, Int.reduceLT, Int.reduceLE, Int.reduceEq, Int.reduceNe, quietB, Nat.reduceMod, Int.reduceToNat, ne_eq, eq_self, exists_const, evBytes, byRow, byL, byStr_size, ifsz, ByteArray.size_append, Option.none_or, Option.some_or, evLook, keyD, eTData_eta])
theorem toTableDataS_ok (xs : List TData) (h : okLs (2^20) okTData xs) : FnP Try.prog 61 [slT eTData xs] (slT eTData xs) := (toTableDataS_o xs h 1000).tree (by simp -dsimp (maxSteps := 2000000) (disch := omega) only [vs, ↓Option.bind_some, ev1, ofV, scalarB, Kn, Kb, calleeOf, evLoad, ptr, evField, evFieldAddr, shift, ↓pt_at, ↓pt_at1, evExtract, evBin, evLen, evConv, cellsT, noS, Cell.has, Cell.hasN, Cell.anyN, toIV, toIV0, toIVs, ownC, srcM, Ob.own, Ob.esz, allSc, nilK, lenC, ownCell, isPtr, ptrNil, frzO, Cell.frz, Cell.keys, ↓reduceIte, reduceCtorEq, Nat.reduceEqDiff, Nat.reduceBEq, Nat.reduceBNe, Nat.reduceAdd, Nat.reduceMul, Nat.reduceSub, Nat.reduceLT, Nat.reduceLeDiff, Nat.reducePow, Int.reduceLT, Int.reduceLE, Int.reduceEq, Int.reduceNe, quietB, Nat.reduceMod, Int.reduceToNat, ne_eq, eq_self, exists_const, evBytes, byRow, byL, byStr_size, ifsz, ByteArray.size_append, Option.none_or, Option.some_or, evLook, keyD])

end Go.VC.T
/- Data (DB): how they are measured, copied and compared. -/
namespace Go.VC.T
open Go Go.VC Go.Proofs Go.VC.F
set_option linter.unusedSimpArgs false
set_option linter.unusedVariables false
set_option linter.defProp false
set_option maxRecDepth 100000
set_option maxHeartbeats 2000000
def fc16SDB := (And.intro (And.intro (And.intro (And.intro sz3 ag3) (And.intro zv3 (And.intro un3 sz4))) (And.intro (And.intro ag4 zv4) (And.intro un4 (And.intro sz27 ag27)))) (And.intro (And.intro (And.intro zv27 sb27) (And.intro un27 (And.intro el27 ap27))) (And.intro (And.intro sz29 (And.intro ag29 zv29)) (And.intro fl29_0 (And.intro pl29 okf58)))))
theorem szDB_ok (t : List TData) (h : okDbs (2^48) t) (left : Int) (hl : 0 ≤ left ∧ left ≤ 2^20) : FnS Try.prog 16 [] [agT (eDbs t), iT left] [] (iT (szR (zDbs t) left)) := by
  refine FnS.go [0, 1, 2, 4, 10] [] Try.func16 rfl (fun kt kz => ?_)
  have fcx := fc16SDB
  simp only [Try.f16]
  have ho := okDbs_iff.1 h
  refine Run ((And.intro @eDbs_eta @szR_add)) ?_; repeat' (first | (with_reducible exact True.intro) | (with_reducible refine Lf.mk ?_ ?_) | (with_reducible intro hb))
  refine Cal ((And.intro @eDbs_eta @szR_add)) (szTableDataS_ok _ ho _ hl) ?_
  have hz := szR_le (n := zL zTData t) hl.1
  refine Run ((And.intro @eDbs_eta @szR_add)) ?_; repeat' (first | (with_reducible exact True.intro) | (with_reducible refine Lf.mk ?_ ?_) | (with_reducible intro hb))
  · congr 4; have s1 := szR_spec (zL zTData t) left; have s2 := szR_spec (zDbs t) left; rw [zDbs_eta] at s2 ⊢; omega
  · skip
    rw [zDbs_eta]

def fc19SDB := (And.intro (And.intro (And.intro (And.intro sz27 (And.intro ag27 zv27)) (And.intro sb27 (And.intro un27 el27))) (And.intro (And.intro ap27 (And.intro sz29 ag29)) (And.intro zv29 (And.intro fl29_0 pl29)))) (And.intro (And.intro (And.intro sz35 (And.intro ag35 zv35)) (And.intro sb35 (And.intro un35 el35))) (And.intro (And.intro ap35 (And.intro sz37 ag37)) (And.intro (And.intro zv37 fl37_0) (And.intro pl37 okf61)))))
theorem toDB_w (t : List TData) (h : okDbs (2^20) t) : FnS Try.prog 19 [] [agT (eDbs t)] [(1000, .row t.length (t.flatMap eTData))] (.ag [.os 1000 t.length]) := by
  refine FnS.go [0, 1, 2, 3] [] Try.func19 rfl (fun kt kz => ?_)
  have fcx := fc19SDB
  simp only [Try.f19]
  have ho := okDbs_iff.1 h
  refine Run (@eDbs_eta) ?_; repeat' (first | (with_reducible exact True.intro) | (with_reducible refine Lf.mk ?_ ?_) | (with_reducible intro hb))
  refine CalI (@eDbs_eta) (toTableDataS_o _ ho 1000) ?_
  refine Run (@eDbs_eta) ?_; repeat' (first | (with_reducible exact True.intro) | (with_reducible refine Lf.mk ?_ ?_) | (with_reducible intro hb))

theorem toDB_o (t : List TData) (h : okDbs (2^20) t) : ∀ q0 : Nat, [q0].Nodup → FnS Try.prog 19 [] [agT (eDbs t)] [(q0, .row t.length (t.flatMap eTData))] (.ag [.os q0 t.length]) := by
  intro q0 hq
  obtain ⟨p, hp⟩ := pml [1000] [q0] (by decide) hq rfl
  simp only [List.map_cons, List.map_nil, List.cons.injEq, and_true] at hp
  refine ((toDB_w t h).rows.pm p).as ?_ ?_ <;> simp [rowS, rowO, renS, Ob.ren, TV.ren, renL, Cell.ren, hp]

def fc22SDB := (And.intro (And.intro (And.intro (And.intro sz4 ag4) (And.intro zv4 un4)) (And.intro (And.intro sz35 ag35) (And.intro zv35 sb35))) (And.intro (And.intro (And.intro un35 el35) (And.intro ap35 sz37)) (And.intro (And.intro ag37 zv37) (And.intro fl37_0 (And.intro pl37 okf64)))))
theorem eqDB_ok (t : List TData) (h : okDbs (2^20) t) : FnS Try.prog 22 [] [agT (eDbs t), agT (eDbs t)] [] (bT true) := by
  refine FnS.go [0, 1, 2, 3, 4, 10] [] Try.func22 rfl (fun kt kz => ?_)
  have fcx := fc22SDB
  simp only [Try.f22]
  have ho := okDbs_iff.1 h
  refine Run (@eDbs_eta) ?_; repeat' (first | (with_reducible exact True.intro) | (with_reducible refine Lf.mk ?_ ?_) | (with_reducible intro hb))
  refine Cal (@eDbs_eta) (eqTableDataS_ok _ ho) ?_
  refine Run (@eDbs_eta) ?_; repeat' (first | (with_reducible exact True.intro) | (with_reducible refine Lf.mk ?_ ?_) | (with_reducible intro hb))

theorem toDB_ok (t : List TData) (h : okDbs (2^20) t) : FnP Try.prog 19 [agT (eDbs t)] (agT (eDbs t)) := (toDB_o t h 1000 (by decide)).tree (by simp -dsimp (maxSteps := 2000000) (disch := omega) only [vs, ↓Option.bind_some, ev1, ofV, scalarB, Kn, Kb, calleeOf, evLoad, ptr, evField, evFieldAddr, shift, ↓pt_at, ↓pt_at1, evExtract, evBin, evLen, evConv, cellsT, noS, Cell.has, Cell.hasN, Cell.anyN, toIV, toIV0, toIVs, ownC, srcM, Ob.own, Ob.esz, allSc, nilK, lenC, ownCell, isPtr, ptrNil, frzO, Cell.frz, Cell.keys, ↓reduceIte, reduceCtorEq, Nat.reduceEqDiff, Nat.reduceBEq, Nat.reduceBNe, Nat.reduceAdd, Nat.reduceMul, Nat.reduceSub, Nat.reduceLT, Nat.reduceLeDiff, Nat.reducePow, Int.reduceLT, Int.reduceLE, Int.reduceEq, Int.reduceNe, quietB, Nat.reduceMod, Int.reduceToNat, ne_eq, eq_self, exists_const, evBytes, byRow, byL, byStr_size, ifsz, ByteArray.size_append, Option.none_or, Option.some_or, evLook, keyD, eDbs_eta])

end Go.VC.T
/- Rows of a table; copies of values. -/
namespace Go.VC
open Go
/-- The rows of a table; none without it. -/
def rowsD (db : List TData) (s : ByteArray) : List Val := match db.find? (fun t => decide (t.name = s)) with
  | some t => t.rows
  | none => []
theorem rowsD_at {db : List TData} {s : ByteArray} {i : Nat} (h : i < db.length) (ht : (db.take i).any (fun t => decide (t.name = s)) = false) (hp : db[i].name = s) : rowsD db s = db[i].rows := by
  unfold rowsD
  have e : db.find? (fun t => decide (t.name = s)) = some db[i] := by
    rw [List.find?_eq_some_iff_getElem]
    refine ⟨by simpa using hp, i, h, rfl, fun j hj => ?_⟩
    have := List.any_eq_false.1 ht db[j] (by
      rw [List.mem_iff_getElem]
      exact ⟨j, by simp; omega, by simp⟩)
    simpa using this
  rw [e]
theorem rowsD_no {db : List TData} {s : ByteArray} (h : db.any (fun t => decide (t.name = s)) = false) : rowsD db s = [] := by
  unfold rowsD
  have e : db.find? (fun t => decide (t.name = s)) = none := by
    rw [List.find?_eq_none]
    intro x hx
    have := List.any_eq_false.1 h x hx
    simpa using this
  rw [e]
end Go.VC
namespace Go.VC.T
open Go Go.VC Go.Proofs Go.VC.F
set_option linter.unusedSimpArgs false
set_option linter.unusedVariables false
set_option linter.defProp false
set_option maxRecDepth 100000
set_option maxHeartbeats 2000000
def fc114A31 := (And.intro (And.intro (And.intro (And.intro sz3 (And.intro ag3 zv3)) (And.intro (And.intro un3 sz4) (And.intro ag4 zv4))) (And.intro (And.intro (And.intro un4 sz9) (And.intro ag9 zv9)) (And.intro (And.intro un9 sz35) (And.intro ag35 zv35)))) (And.intro (And.intro (And.intro (And.intro sb35 un35) (And.intro el35 ap35)) (And.intro (And.intro sz37 ag37) (And.intro zv37 fl37_0))) (And.intro (And.intro (And.intro pl37 sz156) (And.intro ag156 zv156)) (And.intro (And.intro fl156_0 fl156_1) (And.intro pl156 sz103)))))
theorem l9Table_ok (db : List TData) (s : ByteArray) (hd : okDbs (2^20) db) : FnS Try.prog 114 [] [agT (eDbs db), sT s] [] (iT (idxI (fun t => decide (t.name = s)) db)) := by
  refine FnS.go [0, 1, 2, 4, 5, 10, 20] [] Try.func114 rfl (fun kt kz => ?_)
  have fcx := fc114A31
  simp only [Try.f114]
  have ho := okDbs_iff.1 hd
  have hl := ho.1
  refine Run (@eDbs_eta) ?_; repeat' (first | (with_reducible exact True.intro) | (with_reducible refine Lf.mk ?_ ?_) | (with_reducible intro hb))
  refine Trn (α := Nat) [4, 5, 6, 7, 8, 9, 10, 11, 12, 13, 14, 15, 16, 17, 18, 19, 20, 21] (fun i => [(5, iT i)]) (fun i => [(4, .box 37 ((eDbs db).map .im))]) (fun i => i ≤ db.length ∧ (db.take i).any (fun t => decide (t.name = s)) = false) (fun i => db.length - i) (0) (⟨Nat.zero_le _, rfl⟩) (@eDbs_eta) ?_; intro lx hI; obtain i := lx; (try simp only [List.nil_append, List.cons_append] at hI ⊢)
  by_cases hlt : lx < db.length
  · refine Run ((And.intro @eDbs_eta (And.intro @eTData_eta @hlt))) ?_; repeat' (first | (with_reducible exact True.intro) | (with_reducible refine Lf.mk ?_ ?_) | (with_reducible intro hb))
    · rw [idx_at (p := fun t => decide (t.name = s)) hlt hI.2 (by simpa using hb)]
    · exact Nxt (@eDbs_eta) (lx + 1) (⟨by omega, any_take hlt hI.2 (by simpa using hb)⟩) (by first | omega | (simp; omega))
  · have ha := any_all (by omega) hI.2
    refine Run ((And.intro @eDbs_eta @hlt)) ?_; repeat' (first | (with_reducible exact True.intro) | (with_reducible refine Lf.mk ?_ ?_) | (with_reducible intro hb))
    rw [idx_no ha]
def fc62A31 := (And.intro (And.intro (And.intro (And.intro (And.intro sz3 ag3) (And.intro zv3 un3)) (And.intro (And.intro sz4 ag4) (And.intro zv4 (And.intro un4 sz9)))) (And.intro (And.intro (And.intro ag9 zv9) (And.intro un9 sz35)) (And.intro (And.intro ag35 zv35) (And.intro sb35 (And.intro un35 el35))))) (And.intro (And.intro (And.intro (And.intro ap35 sz37) (And.intro ag37 zv37)) (And.intro (And.intro fl37_0 pl37) (And.intro sz103 (And.intro ag103 zv103)))) (And.intro (And.intro (And.intro sb103 un103) (And.intro el103 (And.intro ap103 sz156))) (And.intro (And.intro ag156 zv156) (And.intro fl156_0 (And.intro fl156_1 pl156))))))
theorem rowsOfI_ok (db : List TData) (s : ByteArray) (hd : okDbs (2^20) db) (hs : db.any (fun t => decide (t.name = s)) = true) : FnS Try.prog 62 [] [agT (eDbs db), sT s] [] (slT eVal (rowsD db s)) := by
  refine FnS.go [0, 1, 2, 4, 6, 8, 9, 10, 11, 17] [] Try.func62 rfl (fun kt kz => ?_)
  have fcx := fc62A31
  simp only [Try.f62]
  have ho := okDbs_iff.1 hd
  have hl := ho.1
  refine Run (@eDbs_eta) ?_; repeat' (first | (with_reducible exact True.intro) | (with_reducible refine Lf.mk ?_ ?_) | (with_reducible intro hb))
  refine Trn (α := Nat) [4, 6, 10, 11, 12, 13, 14, 15, 16, 17, 18, 19, 20] (fun i => [(10, iT i)]) (fun i => [(4, .box 37 ((eDbs db).map .im))]) (fun i => i ≤ db.length ∧ (db.take i).any (fun t => decide (t.name = s)) = false) (fun i => db.length - i) (0) (⟨Nat.zero_le _, rfl⟩) (@eDbs_eta) ?_; intro lx hI; obtain i := lx; (try simp only [List.nil_append, List.cons_append] at hI ⊢)
  by_cases hlt : lx < db.length
  · refine Run ((And.intro @eDbs_eta (And.intro @eTData_eta @hlt))) ?_; repeat' (first | (with_reducible exact True.intro) | (with_reducible refine Lf.mk ?_ ?_) | (with_reducible intro hb))
    · rw [rowsD_at hlt hI.2 hb]
    · exact Nxt (@eDbs_eta) (lx + 1) (⟨by omega, any_take hlt hI.2 (by simpa using hb)⟩) (by first | omega | (simp; omega))
  · have ha := any_all (by omega) hI.2
    rw [hs] at ha; cases ha
def fc164A31 := (And.intro (And.intro (And.intro (And.intro sz3 (And.intro ag3 zv3)) (And.intro (And.intro un3 sz4) (And.intro ag4 zv4))) (And.intro (And.intro (And.intro un4 sz63) (And.intro ag63 zv63)) (And.intro (And.intro sb63 un63) (And.intro el63 ap63)))) (And.intro (And.intro (And.intro (And.intro sz103 ag103) (And.intro zv103 sb103)) (And.intro (And.intro un103 el103) (And.intro ap103 sz107))) (And.intro (And.intro (And.intro ag107 zv107) (And.intro fl107_0 fl107_1)) (And.intro (And.intro fl107_2 fl107_3) (And.intro pl107 okf164)))))
theorem l5Copy_of (v : Val) (hv : okVal (2^20) v) (H : ∀ u ∈ v.args, FnP Try.prog 164 [agT (eVal u)] (agT (eVal u))) : FnS Try.prog 164 [] [agT (eVal v)] [] (agT (eVal v)) := by
  refine FnS.go [0, 1, 2, 3, 4, 18] [1000] Try.func164 rfl (fun kt kz => ?_)
  have fcx := fc164A31
  simp only [Try.f164]
  have dx : Dx 10 9 3 := ⟨⟩
  have ho := okVal_iff.1 hv
  have hl1 := ho.2.2.1.1
  have hl := ho.2.2.2.1
  refine RunX (@eVal_eta) ?_; repeat' (first | (with_reducible exact True.intro) | (with_reducible refine Lf.mk ?_ ?_) | (with_reducible intro hb))
  refine Sm.nlB (6) 3 (1000) (107) 4 false (by rfl) (by rfl) (by rfl) (by decide) (by rfl) (by rfl) (by decide) (by rfl) ?_; simp only [upd, List.set_cons_zero, List.set_cons_succ, ↓reduceIte, Nat.reduceEqDiff]
  refine Trn (α := Nat) [4, 14, 15, 16, 17, 18, 19, 20, 21, 22, 23, 24, 25, 26, 27, 28, 29, 30, 31] (fun i => [(4, iT i)]) (fun i => [(2, .box 107 ((eVal v).map .im)), (4, .box 107 [.im (.sc (.int .i64 0)), .im (.sc (.int .i64 0)), .nl, .nl]), (6, .box 107 [.im (.sc (.int .i64 v.kind)), .im (.sc (.int .i64 v.n)), .im (.sl v.labels.length (v.labels.flatMap eS)), .os 1000 i]), (1000, .vec 107 4 i ((v.args.take i).flatMap eVal) false)]) (fun i => i ≤ v.args.length) (fun i => v.args.length - i) (0) (Nat.zero_le _) (@eVal_eta) ?_; intro lx hI; obtain i := lx; (try simp only [List.nil_append, List.cons_append] at hI ⊢)
  by_cases hlt : lx < v.args.length
  · have e1 : (v.args.take lx).flatMap eVal ++ eVal v.args[lx] = (v.args.take (lx + 1)).flatMap eVal := by rw [take_at hlt, List.flatMap_append, flat_one]
    rw [eVal_eta v.args[lx]] at e1
    simp only [slI] at e1
    refine Run ((And.intro @eVal_eta @hlt)) ?_; repeat' (first | (with_reducible exact True.intro) | (with_reducible refine Lf.mk ?_ ?_) | (with_reducible intro hb))
    refine CalI (@eVal_eta) (H _ (List.getElem_mem hlt)) ?_
    refine Run ((And.intro @eVal_eta @hlt)) ?_; repeat' (first | (with_reducible exact True.intro) | (with_reducible refine Lf.mk ?_ ?_) | (with_reducible intro hb))
    exact Nxt ((And.intro @eVal_eta @e1)) (lx + 1) (hlt) (by first | omega | (simp; omega))
  · obtain rfl : lx = v.args.length := by omega
    have e1 : (v.args.take v.args.length).flatMap eVal = v.args.flatMap eVal := by rw [List.take_length]
    refine Run ((And.intro @eVal_eta (And.intro @hlt @e1))) ?_; repeat' (first | (with_reducible exact True.intro) | (with_reducible refine Lf.mk ?_ ?_) | (with_reducible intro hb))

theorem l5Copy_ok (v : Val) (hv : okVal (2^20) v) : FnP Try.prog 164 [agT (eVal v)] (agT (eVal v)) :=
  l5Copy_of v hv fun u hu => l5Copy_ok u ((okVal_iff.1 hv).2.2.2.2 u hu)
termination_by SizeOf.sizeOf v
decreasing_by exact Val.mem hu
end Go.VC.T
/- The conjuncts of a term; a plan's numbers of rows: no program in sight. -/
set_option linter.unusedSimpArgs false
set_option linter.unusedVariables false
namespace Go.VC
open Go
/-- The conjuncts of a term. -/
def partsT : Tm → List Tm
  | .mk k s n ty l [a, b] => if k = 4 ∧ s = ⟨#[38]⟩ then partsT a ++ partsT b else [.mk k s n ty l [a, b]]
  | t => [t]
/-- Is it a conjunction? -/
def andT (t : Tm) : Prop := t.kind = 4 ∧ t.name = ⟨#[38]⟩ ∧ t.args.length = 2
theorem partsT_and {t : Tm} (h : andT t) : ∀ (h0 : 0 < t.args.length) (h1 : 1 < t.args.length), partsT t = partsT t.args[0] ++ partsT t.args[1] := by
  intro h0 h1
  cases t with
  | mk k s n ty l ar =>
    obtain ⟨e1, e2, e3⟩ := h
    match ar, e3 with
    | [a, b], _ =>
      simp only [Tm.kind, Tm.name] at e1 e2
      subst e1; subst e2
      rw [partsT, if_pos ⟨rfl, rfl⟩]
      rfl
theorem partsT_one {t : Tm} (h : ¬ andT t) : partsT t = [t] := by
  cases t with
  | mk k s n ty l ar =>
    match ar with
    | [a, b] => rw [partsT, if_neg fun hc => h ⟨hc.1, hc.2, rfl⟩]
    | [] => rw [partsT]; intros; simp_all
    | [a] => rw [partsT]; intros; simp_all
    | a :: b :: c :: r => rw [partsT]; intros; simp_all
end Go.VC
/- Data (Type): how they are measured, copied and compared. -/
namespace Go.VC.T
open Go Go.VC Go.Proofs Go.VC.F
set_option linter.unusedSimpArgs false
set_option linter.unusedVariables false
set_option linter.defProp false
set_option maxRecDepth 100000
set_option maxHeartbeats 2000000
def fc138SType := (And.intro (And.intro (And.intro (And.intro sz3 (And.intro ag3 zv3)) (And.intro (And.intro un3 sz4) (And.intro ag4 zv4))) (And.intro (And.intro (And.intro un4 sz63) (And.intro ag63 zv63)) (And.intro (And.intro sb63 un63) (And.intro el63 ap63)))) (And.intro (And.intro (And.intro (And.intro sz64 ag64) (And.intro zv64 sb64)) (And.intro (And.intro un64 el64) (And.intro ap64 sz66))) (And.intro (And.intro (And.intro ag66 zv66) (And.intro fl66_0 fl66_1)) (And.intro (And.intro fl66_2 pl66) (And.intro okf139 okf176)))))
theorem szType_of (t : Ty) (h : okTy (2^48) t) (H0 : ∀ left : Int, 0 ≤ left ∧ left ≤ 2^20 → FnP Try.prog 176 [slT eTy t.args, iT left] (iT (szR (zL zTy t.args) left))) (left : Int) (hl : 0 ≤ left ∧ left ≤ 2^20) : FnS Try.prog 138 [] [agT (eTy t), iT left] [] (iT (szR (zTy t) left)) := by
  refine FnS.go [0, 1, 2, 4, 10, 16] [] Try.func138 rfl (fun kt kz => ?_)
  have fcx := fc138SType
  simp only [Try.f138]
  have ho := okTy_iff.1 h
  refine Run ((And.intro @eTy_eta @szR_add)) ?_; repeat' (first | (with_reducible exact True.intro) | (with_reducible refine Lf.mk ?_ ?_) | (with_reducible intro hb))
  refine Cal ((And.intro @eTy_eta @szR_add)) (szStringS_ok _ ho.2.1 _ hl) ?_
  have hz := szR_le (n := zSL t.labels) hl.1
  refine Run ((And.intro @eTy_eta @szR_add)) ?_; repeat' (first | (with_reducible exact True.intro) | (with_reducible refine Lf.mk ?_ ?_) | (with_reducible intro hb))
  · congr 4; have s1 := szR_spec (zSL t.labels) left; have s2 := szR_spec (zTy t) left; rw [zTy_eta] at s2 ⊢; omega
  · skip
    refine Cal ((And.intro @eTy_eta @szR_add)) (H0 _ ⟨(by assumption), by have := szR_le (n := zSL t.labels) hl.1; omega⟩) ?_
    have hz := szR_le (n := zSL t.labels + zL zTy t.args) hl.1
    refine Run ((And.intro @eTy_eta @szR_add)) ?_; repeat' (first | (with_reducible exact True.intro) | (with_reducible refine Lf.mk ?_ ?_) | (with_reducible intro hb))
    · congr 4; have s1 := szR_spec (zSL t.labels + zL zTy t.args) left; have s2 := szR_spec (zTy t) left; rw [zTy_eta] at s2 ⊢; omega
    · skip
      rw [zTy_eta]
def fc176SType := (And.intro (And.intro (And.intro (And.intro sz3 (And.intro ag3 zv3)) (And.intro un3 (And.intro sz4 ag4))) (And.intro (And.intro zv4 (And.intro un4 sz64)) (And.intro ag64 (And.intro zv64 sb64)))) (And.intro (And.intro (And.intro un64 (And.intro el64 ap64)) (And.intro sz66 (And.intro ag66 zv66))) (And.intro (And.intro fl66_0 (And.intro fl66_1 fl66_2)) (And.intro pl66 (And.intro okf138 sz63)))))
theorem szTypeS_of (xs : List Ty) (hx : okLs (2^48) okTy xs) (H : ∀ t ∈ xs, ∀ left : Int, 0 ≤ left ∧ left ≤ 2^20 → FnP Try.prog 138 [agT (eTy t), iT left] (iT (szR (zTy t) left))) (left : Int) (hl : 0 ≤ left ∧ left ≤ 2^20) : FnS Try.prog 176 [] [slT eTy xs, iT left] [] (iT (szR (zL zTy xs) left)) := by
  refine FnS.go [0, 1, 4, 5, 11, 15, 25] [] Try.func176 rfl (fun kt kz => ?_)
  have fcx := fc176SType
  simp only [Try.f176]
  have hx1 := hx.1
  refine Run (cast_succ) ?_; repeat' (first | (with_reducible exact True.intro) | (with_reducible refine Lf.mk ?_ ?_) | (with_reducible intro hb))
  · simp only [szR_nil hb zL_len]
  · rw [szR_sub hb]
    have hb2 := szR_sub hb ▸ hb
    refine Trn (α := Nat) [1, 4, 5, 12, 13, 14, 15, 16, 17, 18, 19, 20, 21, 22, 23, 24, 25] (fun i => [(5, iT i), (1, iT (szR (zT zTy xs i) left))]) (fun i => []) (fun i => i ≤ xs.length ∧ 0 ≤ szR (zT zTy xs i) left) (fun i => xs.length - i) (0) (⟨Nat.zero_le _, by rw [zT_zero]; exact hb2⟩) ((zT_zero (z := zTy) (l := xs))) ?_; intro lx hI; obtain i := lx; (try simp only [List.nil_append, List.cons_append] at hI ⊢)
    have hz := szR_le (n := zT zTy xs lx) hl.1
    by_cases hlt : lx < xs.length
    · have e : szR (zTy xs[lx]) (szR (zT zTy xs lx) left) = szR (zT zTy xs (lx + 1)) left := by rw [zT_succ hlt, ← szR_add]
      refine Run (@eTy_eta) ?_; repeat' (first | (with_reducible exact True.intro) | (with_reducible refine Lf.mk ?_ ?_) | (with_reducible intro hb))
      · refine Cal (@eTy_eta) (H _ (List.getElem_mem hlt) _ ⟨hI.2, by omega⟩) ?_
        refine Run (cast_succ) ?_; repeat' (first | (with_reducible exact True.intro) | (with_reducible refine Lf.mk ?_ ?_) | (with_reducible intro hb))
        · rw [e] at hb
          rw [szR_neg hb zT_le]
        · rw [e] at hb
          exact Nxt (@e) (lx + 1) (⟨by omega, hb⟩) (by first | omega | (simp; omega))
      · omega
    · refine Run (cast_succ) ?_; repeat' (first | (with_reducible exact True.intro) | (with_reducible refine Lf.mk ?_ ?_) | (with_reducible intro hb))
      · omega
      · rw [zT_all (by omega)]

theorem szType_ok (t : Ty) (h : okTy (2^48) t) (left : Int) (hl : 0 ≤ left ∧ left ≤ 2^20) : FnP Try.prog 138 [agT (eTy t), iT left] (iT (szR (zTy t) left)) := szType_of t h (fun left hl => szTypeS_of t.args ((okTy_iff.1 h).2.2) (fun u hu left hl => szType_ok u (((okTy_iff.1 h).2.2).2 u hu) left hl) left hl) left hl
termination_by SizeOf.sizeOf t
decreasing_by all_goals first | exact Ty.mem hu | exact Val.mem hu | exact Tm.mem hu | exact Pl.mem hu | exact Hd.memP hu | exact Hd.memQ hu | exact Cmp.memH _
theorem szTypeS_ok (xs : List Ty) (h : okLs (2^48) okTy xs) (left : Int) (hl : 0 ≤ left ∧ left ≤ 2^20) : FnP Try.prog 176 [slT eTy xs, iT left] (iT (szR (zL zTy xs) left)) := szTypeS_of xs h (fun t ht left hl => szType_ok t (h.2 t ht) left hl) left hl
def fc142SType := (And.intro (And.intro (And.intro (And.intro (And.intro sz3 ag3) (And.intro zv3 (And.intro un3 sz63))) (And.intro (And.intro ag63 zv63) (And.intro sb63 (And.intro un63 el63)))) (And.intro (And.intro (And.intro ap63 sz64) (And.intro ag64 (And.intro zv64 sb64))) (And.intro (And.intro un64 el64) (And.intro ap64 (And.intro sz66 ag66))))) (And.intro (And.intro (And.intro (And.intro zv66 fl66_0) (And.intro fl66_1 (And.intro fl66_2 pl66))) (And.intro (And.intro sz75 ag75) (And.intro zv75 (And.intro sb75 un75)))) (And.intro (And.intro (And.intro el75 ap75) (And.intro sz77 (And.intro ag77 zv77))) (And.intro (And.intro fl77_0 (And.intro fl77_1 fl77_2)) (And.intro pl77 (And.intro okf143 okf178))))))
theorem toType_w (t : Ty) (h : okTy (2^20) t) (H0 : ∀ q : Nat, FnS Try.prog 178 [] [slT eTy t.args] [(q, .row t.args.length (t.args.flatMap eTy))] (.c (.os q t.args.length))) : FnS Try.prog 142 [] [agT (eTy t)] [(1000, .row t.labels.length (t.labels.flatMap eS)), (1002, .row t.args.length (t.args.flatMap eTy))] (.ag [.im (.sc (.int .i64 t.kind)), .os 1000 t.labels.length, .os 1002 t.args.length]) := by
  refine FnS.go [0, 1, 2, 3] [] Try.func142 rfl (fun kt kz => ?_)
  have fcx := fc142SType
  simp only [Try.f142]
  have ho := okTy_iff.1 h
  refine Run (@eTy_eta) ?_; repeat' (first | (with_reducible exact True.intro) | (with_reducible refine Lf.mk ?_ ?_) | (with_reducible intro hb))
  refine CalI (@eTy_eta) (toStringS_o _ ho.2.1 1000) ?_
  refine Run (@eTy_eta) ?_; repeat' (first | (with_reducible exact True.intro) | (with_reducible refine Lf.mk ?_ ?_) | (with_reducible intro hb))
  refine CalI (@eTy_eta) (H0 1002) ?_
  refine Run (@eTy_eta) ?_; repeat' (first | (with_reducible exact True.intro) | (with_reducible refine Lf.mk ?_ ?_) | (with_reducible intro hb))

theorem toType_q (t : Ty) (h : okTy (2^20) t) (H0 : ∀ q : Nat, FnS Try.prog 178 [] [slT eTy t.args] [(q, .row t.args.length (t.args.flatMap eTy))] (.c (.os q t.args.length))) : ∀ q0 q1 : Nat, [q0, q1].Nodup → FnS Try.prog 142 [] [agT (eTy t)] [(q0, .row t.labels.length (t.labels.flatMap eS)), (q1, .row t.args.length (t.args.flatMap eTy))] (.ag [.im (.sc (.int .i64 t.kind)), .os q0 t.labels.length, .os q1 t.args.length]) := by
  intro q0 q1 hq
  obtain ⟨p, hp⟩ := pml [1000, 1002] [q0, q1] (by decide) hq rfl
  simp only [List.map_cons, List.map_nil, List.cons.injEq, and_true] at hp
  refine ((toType_w t h H0).rows.pm p).as ?_ ?_ <;> simp [rowS, rowO, renS, Ob.ren, TV.ren, renL, Cell.ren, hp]
def fc178SType := (And.intro (And.intro (And.intro (And.intro (And.intro sz3 ag3) (And.intro zv3 un3)) (And.intro (And.intro sz4 ag4) (And.intro zv4 (And.intro un4 sz64)))) (And.intro (And.intro (And.intro ag64 zv64) (And.intro sb64 (And.intro un64 el64))) (And.intro (And.intro ap64 sz66) (And.intro ag66 (And.intro zv66 fl66_0))))) (And.intro (And.intro (And.intro (And.intro fl66_1 fl66_2) (And.intro pl66 sz75)) (And.intro (And.intro ag75 zv75) (And.intro sb75 (And.intro un75 el75)))) (And.intro (And.intro (And.intro ap75 sz77) (And.intro ag77 (And.intro zv77 fl77_0))) (And.intro (And.intro fl77_1 fl77_2) (And.intro pl77 (And.intro okf142 sz63))))))
theorem toTypeS_w (xs : List Ty) (hx : okLs (2^20) okTy xs) (H : ∀ t ∈ xs, ∀ q0 q1 : Nat, [q0, q1].Nodup → FnS Try.prog 142 [] [agT (eTy t)] [(q0, .row t.labels.length (t.labels.flatMap eS)), (q1, .row t.args.length (t.args.flatMap eTy))] (.ag [.im (.sc (.int .i64 t.kind)), .os q0 t.labels.length, .os q1 t.args.length])) : FnS Try.prog 178 [] [slT eTy xs] [(14, .vec 77 3 xs.length (xs.flatMap eTy) true)] (.c (.os 14 xs.length)) := by
  refine FnS.go [0, 2, 3, 4, 11] [] Try.func178 rfl (fun kt kz => ?_)
  have fcx := fc178SType
  simp only [Try.f178]
  have hx1 := hx.1
  refine Run (cast_succ) ?_; repeat' (first | (with_reducible exact True.intro) | (with_reducible refine Lf.mk ?_ ?_) | (with_reducible intro hb))
  refine Trn (α := Nat) [4, 8, 9, 10, 11, 12, 13, 14, 15, 16, 17, 18, 19, 20, 21] (fun i => [(4, iT i), (3, .c (.os 14 xs.length))]) (fun i => [(14, .vec 77 3 xs.length (filled eTy [.sc (.int .i64 0), .sl 0 [], .sl 0 []] xs i) true)]) (fun i => i ≤ xs.length) (fun i => xs.length - i) (0) (Nat.zero_le _) (cast_succ) ?_; intro lx hI; obtain i := lx; (try simp only [List.nil_append, List.cons_append] at hI ⊢)
  refine Run (@eTy_eta) ?_; repeat' (first | (with_reducible exact True.intro) | (with_reducible refine Lf.mk ?_ ?_) | (with_reducible intro hb))
  · refine CalI (@eTy_eta) (H _ (List.getElem_mem hb) 1000 1002 (by decide)) ?_
    refine Run (@eTy_eta) ?_; repeat' (first | (with_reducible exact True.intro) | (with_reducible refine Lf.mk ?_ ?_) | (with_reducible intro hb))
    have hs := filled_step' (E := eTy) (zs := [.sc (.int .i64 0), .sl 0 [], .sl 0 []]) hb
    simp only [eTy_eta, setL_st, stL_one, slI] at hs
    exact Nxt (@hs) (lx + 1) (by omega) (by first | omega | (simp; omega))

theorem toTypeS_q (xs : List Ty) (hx : okLs (2^20) okTy xs) (H : ∀ t ∈ xs, ∀ q0 q1 : Nat, [q0, q1].Nodup → FnS Try.prog 142 [] [agT (eTy t)] [(q0, .row t.labels.length (t.labels.flatMap eS)), (q1, .row t.args.length (t.args.flatMap eTy))] (.ag [.im (.sc (.int .i64 t.kind)), .os q0 t.labels.length, .os q1 t.args.length])) (q : Nat) : FnS Try.prog 178 [] [slT eTy xs] [(q, .row xs.length (xs.flatMap eTy))] (.c (.os q xs.length)) := by
  obtain ⟨p, hp⟩ := pm1 14 q
  refine ((toTypeS_w xs hx H).rows.pm p).as ?_ ?_ <;> simp [rowS, rowO, renS, Ob.ren, TV.ren, Cell.ren, hp]

theorem toType_o (t : Ty) (h : okTy (2^20) t) : ∀ q0 q1 : Nat, [q0, q1].Nodup → FnS Try.prog 142 [] [agT (eTy t)] [(q0, .row t.labels.length (t.labels.flatMap eS)), (q1, .row t.args.length (t.args.flatMap eTy))] (.ag [.im (.sc (.int .i64 t.kind)), .os q0 t.labels.length, .os q1 t.args.length]) := toType_q t h (fun q => toTypeS_q t.args ((okTy_iff.1 h).2.2) (fun u hu => toType_o u (((okTy_iff.1 h).2.2).2 u hu)) q)
termination_by SizeOf.sizeOf t
decreasing_by all_goals first | exact Ty.mem hu | exact Val.mem hu | exact Tm.mem hu | exact Pl.mem hu | exact Hd.memP hu | exact Hd.memQ hu | exact Cmp.memH _
theorem toTypeS_o (xs : List Ty) (h : okLs (2^20) okTy xs) (q : Nat) : FnS Try.prog 178 [] [slT eTy xs] [(q, .row xs.length (xs.flatMap eTy))] (.c (.os q xs.length)) := toTypeS_q xs h (fun t ht => toType_o t (h.2 t ht)) q
def fc146SType := (And.intro (And.intro (And.intro (And.intro sz3 (And.intro ag3 zv3)) (And.intro (And.intro un3 sz4) (And.intro ag4 zv4))) (And.intro (And.intro (And.intro un4 sz63) (And.intro ag63 zv63)) (And.intro (And.intro sb63 un63) (And.intro el63 ap63)))) (And.intro (And.intro (And.intro (And.intro sz75 ag75) (And.intro zv75 sb75)) (And.intro (And.intro un75 el75) (And.intro ap75 sz77))) (And.intro (And.intro (And.intro ag77 zv77) (And.intro fl77_0 fl77_1)) (And.intro (And.intro fl77_2 pl77) (And.intro okf147 okf181)))))
theorem eqType_of (t : Ty) (h : okTy (2^20) t) (H0 : FnP Try.prog 181 [slT eTy t.args, slT eTy t.args] (bT true)) : FnS Try.prog 146 [] [agT (eTy t), agT (eTy t)] [] (bT true) := by
  refine FnS.go [0, 1, 2, 3, 4, 9, 15, 21] [] Try.func146 rfl (fun kt kz => ?_)
  have fcx := fc146SType
  simp only [Try.f146]
  have ho := okTy_iff.1 h
  refine Run (@eTy_eta) ?_; repeat' (first | (with_reducible exact True.intro) | (with_reducible refine Lf.mk ?_ ?_) | (with_reducible intro hb))
  refine Cal (@eTy_eta) (eqStringS_rf _ ho.2.1) ?_
  refine Run (@eTy_eta) ?_; repeat' (first | (with_reducible exact True.intro) | (with_reducible refine Lf.mk ?_ ?_) | (with_reducible intro hb))
  refine Cal (@eTy_eta) (H0) ?_
  refine Run (@eTy_eta) ?_; repeat' (first | (with_reducible exact True.intro) | (with_reducible refine Lf.mk ?_ ?_) | (with_reducible intro hb))
def fc181SType := (And.intro (And.intro (And.intro (And.intro sz3 (And.intro ag3 zv3)) (And.intro un3 (And.intro sz4 ag4))) (And.intro (And.intro zv4 (And.intro un4 sz75)) (And.intro ag75 (And.intro zv75 sb75)))) (And.intro (And.intro (And.intro un75 (And.intro el75 ap75)) (And.intro sz77 (And.intro ag77 zv77))) (And.intro (And.intro fl77_0 (And.intro fl77_1 fl77_2)) (And.intro pl77 (And.intro okf146 sz63)))))
theorem eqTypeS_of (xs : List Ty) (hx : okLs (2^20) okTy xs) (H : ∀ t ∈ xs, FnP Try.prog 146 [agT (eTy t), agT (eTy t)] (bT true)) : FnS Try.prog 181 [] [slT eTy xs, slT eTy xs] [] (bT true) := by
  refine FnS.go [0, 1, 4, 5, 10, 14, 26] [] Try.func181 rfl (fun kt kz => ?_)
  have fcx := fc181SType
  simp only [Try.f181]
  have hx1 := hx.1
  refine Run (cast_succ) ?_; repeat' (first | (with_reducible exact True.intro) | (with_reducible refine Lf.mk ?_ ?_) | (with_reducible intro hb))
  refine Trn (α := Nat) [4, 5, 11, 12, 13, 14, 15, 16, 17, 18, 19, 20, 21, 22, 23, 24, 25, 26] (fun i => [(5, iT i)]) (fun i => []) (fun i => i ≤ xs.length) (fun i => xs.length - i) (0) (Nat.zero_le _) (cast_succ) ?_; intro lx hI; obtain i := lx; (try simp only [List.nil_append, List.cons_append] at hI ⊢)
  refine Run (@eTy_eta) ?_; repeat' (first | (with_reducible exact True.intro) | (with_reducible refine Lf.mk ?_ ?_) | (with_reducible intro hb))
  · refine Cal (@eTy_eta) (H _ (List.getElem_mem hb)) ?_
    refine Run (@eTy_eta) ?_; repeat' (first | (with_reducible exact True.intro) | (with_reducible refine Lf.mk ?_ ?_) | (with_reducible intro hb))
    exact Nxt (cast_succ) (lx + 1) (by omega) (by first | omega | (simp; omega))

theorem eqType_ok (t : Ty) (h : okTy (2^20) t) : FnP Try.prog 146 [agT (eTy t), agT (eTy t)] (bT true) := eqType_of t h (eqTypeS_of t.args ((okTy_iff.1 h).2.2) (fun u hu => eqType_ok u (((okTy_iff.1 h).2.2).2 u hu)))
termination_by SizeOf.sizeOf t
decreasing_by all_goals first | exact Ty.mem hu | exact Val.mem hu | exact Tm.mem hu | exact Pl.mem hu | exact Hd.memP hu | exact Hd.memQ hu | exact Cmp.memH _
theorem eqTypeS_ok (xs : List Ty) (h : okLs (2^20) okTy xs) : FnP Try.prog 181 [slT eTy xs, slT eTy xs] (bT true) := eqTypeS_of xs h (fun t ht => eqType_ok t (h.2 t ht))
theorem toType_ok (t : Ty) (h : okTy (2^20) t) : FnP Try.prog 142 [agT (eTy t)] (agT (eTy t)) := (toType_o t h 1000 1002 (by decide)).tree (by simp -dsimp (maxSteps := 2000000) (disch := omega) only [vs, ↓Option.bind_some, ev1, ofV, scalarB, Kn, Kb, calleeOf, evLoad, ptr, evField, evFieldAddr, shift, ↓pt_at, ↓pt_at1, evExtract, evBin, evLen, evConv, cellsT, noS, Cell.has, Cell.hasN, Cell.anyN, toIV, toIV0, toIVs, ownC, srcM, Ob.own, Ob.esz, allSc, nilK, lenC, ownCell, isPtr, ptrNil, frzO, Cell.frz, Cell.keys, ↓reduceIte, reduceCtorEq, Nat.reduceEqDiff, Nat.reduceBEq, Nat.reduceBNe, Nat.reduceAdd, Nat.reduceMul, Nat.reduceSub, Nat.reduceLT, Nat.reduceLeDiff, Nat.reducePow, Int.reduceLT, Int.reduceLE, Int.reduceEq, Int.reduceNe, quietB, Nat.reduceMod, Int.reduceToNat, ne_eq, eq_self, exists_const, evBytes, byRow, byL, byStr_size, ifsz, ByteArray.size_append, Option.none_or, Option.some_or, evLook, keyD, eTy_eta])
theorem toTypeS_ok (xs : List Ty) (h : okLs (2^20) okTy xs) : FnP Try.prog 178 [slT eTy xs] (slT eTy xs) := (toTypeS_o xs h 1000).tree (by simp -dsimp (maxSteps := 2000000) (disch := omega) only [vs, ↓Option.bind_some, ev1, ofV, scalarB, Kn, Kb, calleeOf, evLoad, ptr, evField, evFieldAddr, shift, ↓pt_at, ↓pt_at1, evExtract, evBin, evLen, evConv, cellsT, noS, Cell.has, Cell.hasN, Cell.anyN, toIV, toIV0, toIVs, ownC, srcM, Ob.own, Ob.esz, allSc, nilK, lenC, ownCell, isPtr, ptrNil, frzO, Cell.frz, Cell.keys, ↓reduceIte, reduceCtorEq, Nat.reduceEqDiff, Nat.reduceBEq, Nat.reduceBNe, Nat.reduceAdd, Nat.reduceMul, Nat.reduceSub, Nat.reduceLT, Nat.reduceLeDiff, Nat.reducePow, Int.reduceLT, Int.reduceLE, Int.reduceEq, Int.reduceNe, quietB, Nat.reduceMod, Int.reduceToNat, ne_eq, eq_self, exists_const, evBytes, byRow, byL, byStr_size, ifsz, ByteArray.size_append, Option.none_or, Option.some_or, evLook, keyD])

end Go.VC.T
/- Data (Term): how they are measured, copied and compared. -/
namespace Go.VC.T
open Go Go.VC Go.Proofs Go.VC.F
set_option linter.unusedSimpArgs false
set_option linter.unusedVariables false
set_option linter.defProp false
set_option maxRecDepth 100000
set_option maxHeartbeats 2000000
def fc84STerm := (And.intro (And.intro (And.intro (And.intro (And.intro sz3 ag3) (And.intro zv3 (And.intro un3 sz4))) (And.intro (And.intro ag4 (And.intro zv4 un4)) (And.intro sz9 (And.intro ag9 zv9)))) (And.intro (And.intro (And.intro un9 (And.intro sz63 ag63)) (And.intro zv63 (And.intro sb63 un63))) (And.intro (And.intro el63 (And.intro ap63 sz66)) (And.intro ag66 (And.intro zv66 fl66_0))))) (And.intro (And.intro (And.intro (And.intro fl66_1 (And.intro fl66_2 pl66)) (And.intro sz67 (And.intro ag67 zv67))) (And.intro (And.intro sb67 (And.intro un67 el67)) (And.intro ap67 (And.intro sz69 ag69)))) (And.intro (And.intro (And.intro zv69 (And.intro fl69_0 fl69_1)) (And.intro fl69_2 (And.intro fl69_3 fl69_4))) (And.intro (And.intro fl69_5 (And.intro pl69 okf85)) (And.intro okf138 (And.intro okf139 sz64))))))
theorem szTerm_of (t : Tm) (h : okTm (2^48) t) (H0 : ∀ left : Int, 0 ≤ left ∧ left ≤ 2^20 → FnP Try.prog 85 [slT eTm t.args, iT left] (iT (szR (zL zTm t.args) left))) (left : Int) (hl : 0 ≤ left ∧ left ≤ 2^20) : FnS Try.prog 84 [] [agT (eTm t), iT left] [] (iT (szR (zTm t) left)) := by
  refine FnS.go [0, 1, 2, 4, 11, 17, 23, 29] [] Try.func84 rfl (fun kt kz => ?_)
  have fcx := fc84STerm
  simp only [Try.f84]
  have ho := okTm_iff.1 h
  have hs1 : t.name.size = zS t.name := rfl
  have hw1 : zS t.name ≤ 2^48 := ho.2.1
  refine Run ((And.intro (And.intro @eTm_eta @eTy_eta) (And.intro @hs1 @szR_add))) ?_; repeat' (first | (with_reducible exact True.intro) | (with_reducible refine Lf.mk ?_ ?_) | (with_reducible intro hb))
  · congr 4; have s2 := szR_spec (zTm t) left; rw [zTm_eta] at s2 ⊢; omega
  · skip
    have e : left - (zS t.name : Int) = szR (zS t.name) left := by have s3 := szR_spec (zS t.name) left; omega
    rw [e] at hb ⊢
    refine Cal ((And.intro (And.intro @eTm_eta @eTy_eta) (And.intro @hs1 @szR_add))) (szType_ok _ ho.2.2.2.1 _ ⟨(by assumption), by have := szR_le (n := zS t.name) hl.1; omega⟩) ?_
    have hz := szR_le (n := zS t.name + zTy t.ty) hl.1
    refine Run ((And.intro (And.intro @eTm_eta @eTy_eta) (And.intro @hs1 @szR_add))) ?_; repeat' (first | (with_reducible exact True.intro) | (with_reducible refine Lf.mk ?_ ?_) | (with_reducible intro hb))
    · congr 4; have s1 := szR_spec (zS t.name + zTy t.ty) left; have s2 := szR_spec (zTm t) left; rw [zTm_eta] at s2 ⊢; omega
    · skip
      refine Cal ((And.intro (And.intro @eTm_eta @eTy_eta) (And.intro @hs1 @szR_add))) (szStringS_ok _ ho.2.2.2.2.1 _ ⟨(by assumption), by have := szR_le (n := zS t.name + zTy t.ty) hl.1; omega⟩) ?_
      have hz := szR_le (n := zS t.name + zTy t.ty + zSL t.labels) hl.1
      refine Run ((And.intro (And.intro @eTm_eta @eTy_eta) (And.intro @hs1 @szR_add))) ?_; repeat' (first | (with_reducible exact True.intro) | (with_reducible refine Lf.mk ?_ ?_) | (with_reducible intro hb))
      · congr 4; have s1 := szR_spec (zS t.name + zTy t.ty + zSL t.labels) left; have s2 := szR_spec (zTm t) left; rw [zTm_eta] at s2 ⊢; omega
      · skip
        refine Cal ((And.intro (And.intro @eTm_eta @eTy_eta) (And.intro @hs1 @szR_add))) (H0 _ ⟨(by assumption), by have := szR_le (n := zS t.name + zTy t.ty + zSL t.labels) hl.1; omega⟩) ?_
        have hz := szR_le (n := zS t.name + zTy t.ty + zSL t.labels + zL zTm t.args) hl.1
        refine Run ((And.intro (And.intro @eTm_eta @eTy_eta) (And.intro @hs1 @szR_add))) ?_; repeat' (first | (with_reducible exact True.intro) | (with_reducible refine Lf.mk ?_ ?_) | (with_reducible intro hb))
        · congr 4; have s1 := szR_spec (zS t.name + zTy t.ty + zSL t.labels + zL zTm t.args) left; have s2 := szR_spec (zTm t) left; rw [zTm_eta] at s2 ⊢; omega
        · skip
          rw [zTm_eta]
def fc85STerm := (And.intro (And.intro (And.intro (And.intro sz3 (And.intro ag3 zv3)) (And.intro (And.intro un3 sz4) (And.intro ag4 zv4))) (And.intro (And.intro un4 (And.intro sz67 ag67)) (And.intro (And.intro zv67 sb67) (And.intro un67 el67)))) (And.intro (And.intro (And.intro ap67 (And.intro sz69 ag69)) (And.intro (And.intro zv69 fl69_0) (And.intro fl69_1 fl69_2))) (And.intro (And.intro (And.intro fl69_3 fl69_4) (And.intro fl69_5 pl69)) (And.intro (And.intro okf84 sz9) (And.intro sz66 sz63)))))
theorem szTermS_of (xs : List Tm) (hx : okLs (2^48) okTm xs) (H : ∀ t ∈ xs, ∀ left : Int, 0 ≤ left ∧ left ≤ 2^20 → FnP Try.prog 84 [agT (eTm t), iT left] (iT (szR (zTm t) left))) (left : Int) (hl : 0 ≤ left ∧ left ≤ 2^20) : FnS Try.prog 85 [] [slT eTm xs, iT left] [] (iT (szR (zL zTm xs) left)) := by
  refine FnS.go [0, 1, 4, 5, 11, 15, 25] [] Try.func85 rfl (fun kt kz => ?_)
  have fcx := fc85STerm
  simp only [Try.f85]
  have hx1 := hx.1
  refine Run (cast_succ) ?_; repeat' (first | (with_reducible exact True.intro) | (with_reducible refine Lf.mk ?_ ?_) | (with_reducible intro hb))
  · simp only [szR_nil hb zL_len]
  · rw [szR_sub hb]
    have hb2 := szR_sub hb ▸ hb
    refine Trn (α := Nat) [1, 4, 5, 12, 13, 14, 15, 16, 17, 18, 19, 20, 21, 22, 23, 24, 25] (fun i => [(5, iT i), (1, iT (szR (zT zTm xs i) left))]) (fun i => []) (fun i => i ≤ xs.length ∧ 0 ≤ szR (zT zTm xs i) left) (fun i => xs.length - i) (0) (⟨Nat.zero_le _, by rw [zT_zero]; exact hb2⟩) ((zT_zero (z := zTm) (l := xs))) ?_; intro lx hI; obtain i := lx; (try simp only [List.nil_append, List.cons_append] at hI ⊢)
    have hz := szR_le (n := zT zTm xs lx) hl.1
    by_cases hlt : lx < xs.length
    · have e : szR (zTm xs[lx]) (szR (zT zTm xs lx) left) = szR (zT zTm xs (lx + 1)) left := by rw [zT_succ hlt, ← szR_add]
      refine Run ((And.intro @eTm_eta @eTy_eta)) ?_; repeat' (first | (with_reducible exact True.intro) | (with_reducible refine Lf.mk ?_ ?_) | (with_reducible intro hb))
      · refine Cal ((And.intro @eTm_eta @eTy_eta)) (H _ (List.getElem_mem hlt) _ ⟨hI.2, by omega⟩) ?_
        refine Run (cast_succ) ?_; repeat' (first | (with_reducible exact True.intro) | (with_reducible refine Lf.mk ?_ ?_) | (with_reducible intro hb))
        · rw [e] at hb
          rw [szR_neg hb zT_le]
        · rw [e] at hb
          exact Nxt (@e) (lx + 1) (⟨by omega, hb⟩) (by first | omega | (simp; omega))
      · omega
    · refine Run (cast_succ) ?_; repeat' (first | (with_reducible exact True.intro) | (with_reducible refine Lf.mk ?_ ?_) | (with_reducible intro hb))
      · omega
      · rw [zT_all (by omega)]

theorem szTerm_ok (t : Tm) (h : okTm (2^48) t) (left : Int) (hl : 0 ≤ left ∧ left ≤ 2^20) : FnP Try.prog 84 [agT (eTm t), iT left] (iT (szR (zTm t) left)) := szTerm_of t h (fun left hl => szTermS_of t.args ((okTm_iff.1 h).2.2.2.2.2) (fun u hu left hl => szTerm_ok u (((okTm_iff.1 h).2.2.2.2.2).2 u hu) left hl) left hl) left hl
termination_by SizeOf.sizeOf t
decreasing_by all_goals first | exact Ty.mem hu | exact Val.mem hu | exact Tm.mem hu | exact Pl.mem hu | exact Hd.memP hu | exact Hd.memQ hu | exact Cmp.memH _
theorem szTermS_ok (xs : List Tm) (h : okLs (2^48) okTm xs) (left : Int) (hl : 0 ≤ left ∧ left ≤ 2^20) : FnP Try.prog 85 [slT eTm xs, iT left] (iT (szR (zL zTm xs) left)) := szTermS_of xs h (fun t ht left hl => szTerm_ok t (h.2 t ht) left hl) left hl
def fc90STerm := (And.intro (And.intro (And.intro (And.intro (And.intro (And.intro sz3 ag3) (And.intro zv3 un3)) (And.intro (And.intro sz9 ag9) (And.intro zv9 un9))) (And.intro (And.intro (And.intro sz63 ag63) (And.intro zv63 sb63)) (And.intro (And.intro un63 el63) (And.intro ap63 (And.intro sz66 ag66))))) (And.intro (And.intro (And.intro (And.intro zv66 fl66_0) (And.intro fl66_1 fl66_2)) (And.intro (And.intro pl66 sz67) (And.intro ag67 zv67))) (And.intro (And.intro (And.intro sb67 un67) (And.intro el67 ap67)) (And.intro (And.intro sz69 ag69) (And.intro zv69 (And.intro fl69_0 fl69_1)))))) (And.intro (And.intro (And.intro (And.intro (And.intro fl69_2 fl69_3) (And.intro fl69_4 fl69_5)) (And.intro (And.intro pl69 sz77) (And.intro ag77 zv77))) (And.intro (And.intro (And.intro fl77_0 fl77_1) (And.intro fl77_2 pl77)) (And.intro (And.intro sz78 ag78) (And.intro zv78 (And.intro sb78 un78))))) (And.intro (And.intro (And.intro (And.intro el78 ap78) (And.intro sz80 ag80)) (And.intro (And.intro zv80 fl80_0) (And.intro fl80_1 fl80_2))) (And.intro (And.intro (And.intro fl80_3 fl80_4) (And.intro fl80_5 pl80)) (And.intro (And.intro okf91 okf142) (And.intro okf143 (And.intro sz64 sz75)))))))
theorem toTerm_w (t : Tm) (h : okTm (2^20) t) (H0 : ∀ q : Nat, FnS Try.prog 91 [] [slT eTm t.args] [(q, .row t.args.length (t.args.flatMap eTm))] (.c (.os q t.args.length))) : FnS Try.prog 90 [] [agT (eTm t)] [(1000, .row t.ty.labels.length (t.ty.labels.flatMap eS)), (1002, .row t.ty.args.length (t.ty.args.flatMap eTy)), (1004, .row t.labels.length (t.labels.flatMap eS)), (1006, .row t.args.length (t.args.flatMap eTm))] (.ag [.im (.sc (.int .i64 t.kind)), .im (.sc (.string t.name)), .im (.sc (.int .i64 t.n)), .im (.sc (.int .i64 t.ty.kind)), .os 1000 t.ty.labels.length, .os 1002 t.ty.args.length, .os 1004 t.labels.length, .os 1006 t.args.length]) := by
  refine FnS.go [0, 1, 2, 3] [] Try.func90 rfl (fun kt kz => ?_)
  have fcx := fc90STerm
  simp only [Try.f90]
  have ho := okTm_iff.1 h
  refine Run ((And.intro @eTm_eta @eTy_eta)) ?_; repeat' (first | (with_reducible exact True.intro) | (with_reducible refine Lf.mk ?_ ?_) | (with_reducible intro hb))
  refine CalI ((And.intro @eTm_eta @eTy_eta)) (toType_o _ ho.2.2.2.1 1000 1002 (by decide)) ?_
  refine Run ((And.intro @eTm_eta @eTy_eta)) ?_; repeat' (first | (with_reducible exact True.intro) | (with_reducible refine Lf.mk ?_ ?_) | (with_reducible intro hb))
  refine CalI ((And.intro @eTm_eta @eTy_eta)) (toStringS_o _ ho.2.2.2.2.1 1004) ?_
  refine Run ((And.intro @eTm_eta @eTy_eta)) ?_; repeat' (first | (with_reducible exact True.intro) | (with_reducible refine Lf.mk ?_ ?_) | (with_reducible intro hb))
  refine CalI ((And.intro @eTm_eta @eTy_eta)) (H0 1006) ?_
  refine Run ((And.intro @eTm_eta @eTy_eta)) ?_; repeat' (first | (with_reducible exact True.intro) | (with_reducible refine Lf.mk ?_ ?_) | (with_reducible intro hb))

theorem toTerm_q (t : Tm) (h : okTm (2^20) t) (H0 : ∀ q : Nat, FnS Try.prog 91 [] [slT eTm t.args] [(q, .row t.args.length (t.args.flatMap eTm))] (.c (.os q t.args.length))) : ∀ q0 q1 q2 q3 : Nat, [q0, q1, q2, q3].Nodup → FnS Try.prog 90 [] [agT (eTm t)] [(q0, .row t.ty.labels.length (t.ty.labels.flatMap eS)), (q1, .row t.ty.args.length (t.ty.args.flatMap eTy)), (q2, .row t.labels.length (t.labels.flatMap eS)), (q3, .row t.args.length (t.args.flatMap eTm))] (.ag [.im (.sc (.int .i64 t.kind)), .im (.sc (.string t.name)), .im (.sc (.int .i64 t.n)), .im (.sc (.int .i64 t.ty.kind)), .os q0 t.ty.labels.length, .os q1 t.ty.args.length, .os q2 t.labels.length, .os q3 t.args.length]) := by
  intro q0 q1 q2 q3 hq
  obtain ⟨p, hp⟩ := pml [1000, 1002, 1004, 1006] [q0, q1, q2, q3] (by decide) hq rfl
  simp only [List.map_cons, List.map_nil, List.cons.injEq, and_true] at hp
  refine ((toTerm_w t h H0).rows.pm p).as ?_ ?_ <;> simp [rowS, rowO, renS, Ob.ren, TV.ren, renL, Cell.ren, hp]
def fc91STerm := (And.intro (And.intro (And.intro (And.intro (And.intro sz3 ag3) (And.intro zv3 (And.intro un3 sz4))) (And.intro (And.intro ag4 (And.intro zv4 un4)) (And.intro sz67 (And.intro ag67 zv67)))) (And.intro (And.intro (And.intro sb67 (And.intro un67 el67)) (And.intro ap67 (And.intro sz69 ag69))) (And.intro (And.intro zv69 (And.intro fl69_0 fl69_1)) (And.intro fl69_2 (And.intro fl69_3 fl69_4))))) (And.intro (And.intro (And.intro (And.intro fl69_5 (And.intro pl69 sz78)) (And.intro ag78 (And.intro zv78 sb78))) (And.intro (And.intro un78 (And.intro el78 ap78)) (And.intro sz80 (And.intro ag80 zv80)))) (And.intro (And.intro (And.intro fl80_0 (And.intro fl80_1 fl80_2)) (And.intro fl80_3 (And.intro fl80_4 fl80_5))) (And.intro (And.intro pl80 (And.intro okf90 sz9)) (And.intro sz66 (And.intro sz63 sz77))))))
theorem toTermS_w (xs : List Tm) (hx : okLs (2^20) okTm xs) (H : ∀ t ∈ xs, ∀ q0 q1 q2 q3 : Nat, [q0, q1, q2, q3].Nodup → FnS Try.prog 90 [] [agT (eTm t)] [(q0, .row t.ty.labels.length (t.ty.labels.flatMap eS)), (q1, .row t.ty.args.length (t.ty.args.flatMap eTy)), (q2, .row t.labels.length (t.labels.flatMap eS)), (q3, .row t.args.length (t.args.flatMap eTm))] (.ag [.im (.sc (.int .i64 t.kind)), .im (.sc (.string t.name)), .im (.sc (.int .i64 t.n)), .im (.sc (.int .i64 t.ty.kind)), .os q0 t.ty.labels.length, .os q1 t.ty.args.length, .os q2 t.labels.length, .os q3 t.args.length])) : FnS Try.prog 91 [] [slT eTm xs] [(14, .vec 80 8 xs.length (xs.flatMap eTm) true)] (.c (.os 14 xs.length)) := by
  refine FnS.go [0, 2, 3, 4, 11] [] Try.func91 rfl (fun kt kz => ?_)
  have fcx := fc91STerm
  simp only [Try.f91]
  have hx1 := hx.1
  refine Run (cast_succ) ?_; repeat' (first | (with_reducible exact True.intro) | (with_reducible refine Lf.mk ?_ ?_) | (with_reducible intro hb))
  refine Trn (α := Nat) [4, 8, 9, 10, 11, 12, 13, 14, 15, 16, 17, 18, 19, 20, 21] (fun i => [(4, iT i), (3, .c (.os 14 xs.length))]) (fun i => [(14, .vec 80 8 xs.length (filled eTm [.sc (.int .i64 0), .sc (.string ⟨#[]⟩), .sc (.int .i64 0), .sc (.int .i64 0), .sl 0 [], .sl 0 [], .sl 0 [], .sl 0 []] xs i) true)]) (fun i => i ≤ xs.length) (fun i => xs.length - i) (0) (Nat.zero_le _) (cast_succ) ?_; intro lx hI; obtain i := lx; (try simp only [List.nil_append, List.cons_append] at hI ⊢)
  refine Run ((And.intro @eTm_eta @eTy_eta)) ?_; repeat' (first | (with_reducible exact True.intro) | (with_reducible refine Lf.mk ?_ ?_) | (with_reducible intro hb))
  · refine CalI ((And.intro @eTm_eta @eTy_eta)) (H _ (List.getElem_mem hb) 1000 1002 1004 1006 (by decide)) ?_
    refine Run ((And.intro @eTm_eta @eTy_eta)) ?_; repeat' (first | (with_reducible exact True.intro) | (with_reducible refine Lf.mk ?_ ?_) | (with_reducible intro hb))
    have hs := filled_step' (E := eTm) (zs := [.sc (.int .i64 0), .sc (.string ⟨#[]⟩), .sc (.int .i64 0), .sc (.int .i64 0), .sl 0 [], .sl 0 [], .sl 0 [], .sl 0 []]) hb
    simp only [eTm_eta, eTy_eta, setL_st, stL_one, slI] at hs
    exact Nxt (@hs) (lx + 1) (by omega) (by first | omega | (simp; omega))

theorem toTermS_q (xs : List Tm) (hx : okLs (2^20) okTm xs) (H : ∀ t ∈ xs, ∀ q0 q1 q2 q3 : Nat, [q0, q1, q2, q3].Nodup → FnS Try.prog 90 [] [agT (eTm t)] [(q0, .row t.ty.labels.length (t.ty.labels.flatMap eS)), (q1, .row t.ty.args.length (t.ty.args.flatMap eTy)), (q2, .row t.labels.length (t.labels.flatMap eS)), (q3, .row t.args.length (t.args.flatMap eTm))] (.ag [.im (.sc (.int .i64 t.kind)), .im (.sc (.string t.name)), .im (.sc (.int .i64 t.n)), .im (.sc (.int .i64 t.ty.kind)), .os q0 t.ty.labels.length, .os q1 t.ty.args.length, .os q2 t.labels.length, .os q3 t.args.length])) (q : Nat) : FnS Try.prog 91 [] [slT eTm xs] [(q, .row xs.length (xs.flatMap eTm))] (.c (.os q xs.length)) := by
  obtain ⟨p, hp⟩ := pm1 14 q
  refine ((toTermS_w xs hx H).rows.pm p).as ?_ ?_ <;> simp [rowS, rowO, renS, Ob.ren, TV.ren, Cell.ren, hp]

theorem toTerm_o (t : Tm) (h : okTm (2^20) t) : ∀ q0 q1 q2 q3 : Nat, [q0, q1, q2, q3].Nodup → FnS Try.prog 90 [] [agT (eTm t)] [(q0, .row t.ty.labels.length (t.ty.labels.flatMap eS)), (q1, .row t.ty.args.length (t.ty.args.flatMap eTy)), (q2, .row t.labels.length (t.labels.flatMap eS)), (q3, .row t.args.length (t.args.flatMap eTm))] (.ag [.im (.sc (.int .i64 t.kind)), .im (.sc (.string t.name)), .im (.sc (.int .i64 t.n)), .im (.sc (.int .i64 t.ty.kind)), .os q0 t.ty.labels.length, .os q1 t.ty.args.length, .os q2 t.labels.length, .os q3 t.args.length]) := toTerm_q t h (fun q => toTermS_q t.args ((okTm_iff.1 h).2.2.2.2.2) (fun u hu => toTerm_o u (((okTm_iff.1 h).2.2.2.2.2).2 u hu)) q)
termination_by SizeOf.sizeOf t
decreasing_by all_goals first | exact Ty.mem hu | exact Val.mem hu | exact Tm.mem hu | exact Pl.mem hu | exact Hd.memP hu | exact Hd.memQ hu | exact Cmp.memH _
theorem toTermS_o (xs : List Tm) (h : okLs (2^20) okTm xs) (q : Nat) : FnS Try.prog 91 [] [slT eTm xs] [(q, .row xs.length (xs.flatMap eTm))] (.c (.os q xs.length)) := toTermS_q xs h (fun t ht => toTerm_o t (h.2 t ht)) q
def fc94STerm := (And.intro (And.intro (And.intro (And.intro (And.intro sz3 ag3) (And.intro zv3 (And.intro un3 sz4))) (And.intro (And.intro ag4 (And.intro zv4 un4)) (And.intro sz9 (And.intro ag9 zv9)))) (And.intro (And.intro (And.intro un9 (And.intro sz63 ag63)) (And.intro zv63 (And.intro sb63 un63))) (And.intro (And.intro el63 (And.intro ap63 sz77)) (And.intro ag77 (And.intro zv77 fl77_0))))) (And.intro (And.intro (And.intro (And.intro fl77_1 (And.intro fl77_2 pl77)) (And.intro sz78 (And.intro ag78 zv78))) (And.intro (And.intro sb78 (And.intro un78 el78)) (And.intro ap78 (And.intro sz80 ag80)))) (And.intro (And.intro (And.intro zv80 (And.intro fl80_0 fl80_1)) (And.intro fl80_2 (And.intro fl80_3 fl80_4))) (And.intro (And.intro fl80_5 (And.intro pl80 okf95)) (And.intro okf146 (And.intro okf147 sz75))))))
theorem eqTerm_of (t : Tm) (h : okTm (2^20) t) (H0 : FnP Try.prog 95 [slT eTm t.args, slT eTm t.args] (bT true)) : FnS Try.prog 94 [] [agT (eTm t), agT (eTm t)] [] (bT true) := by
  refine FnS.go [0, 1, 2, 3, 4, 9, 14, 19, 25, 31, 37] [] Try.func94 rfl (fun kt kz => ?_)
  have fcx := fc94STerm
  simp only [Try.f94]
  have ho := okTm_iff.1 h
  refine Run ((And.intro @eTm_eta @eTy_eta)) ?_; repeat' (first | (with_reducible exact True.intro) | (with_reducible refine Lf.mk ?_ ?_) | (with_reducible intro hb))
  refine Cal ((And.intro @eTm_eta @eTy_eta)) (eqType_ok _ ho.2.2.2.1) ?_
  refine Run ((And.intro @eTm_eta @eTy_eta)) ?_; repeat' (first | (with_reducible exact True.intro) | (with_reducible refine Lf.mk ?_ ?_) | (with_reducible intro hb))
  refine Cal ((And.intro @eTm_eta @eTy_eta)) (eqStringS_rf _ ho.2.2.2.2.1) ?_
  refine Run ((And.intro @eTm_eta @eTy_eta)) ?_; repeat' (first | (with_reducible exact True.intro) | (with_reducible refine Lf.mk ?_ ?_) | (with_reducible intro hb))
  refine Cal ((And.intro @eTm_eta @eTy_eta)) (H0) ?_
  refine Run ((And.intro @eTm_eta @eTy_eta)) ?_; repeat' (first | (with_reducible exact True.intro) | (with_reducible refine Lf.mk ?_ ?_) | (with_reducible intro hb))
def fc95STerm := (And.intro (And.intro (And.intro (And.intro sz3 (And.intro ag3 zv3)) (And.intro (And.intro un3 sz4) (And.intro ag4 zv4))) (And.intro (And.intro un4 (And.intro sz78 ag78)) (And.intro (And.intro zv78 sb78) (And.intro un78 el78)))) (And.intro (And.intro (And.intro ap78 (And.intro sz80 ag80)) (And.intro (And.intro zv80 fl80_0) (And.intro fl80_1 fl80_2))) (And.intro (And.intro (And.intro fl80_3 fl80_4) (And.intro fl80_5 pl80)) (And.intro (And.intro okf94 sz9) (And.intro sz77 sz63)))))
theorem eqTermS_of (xs : List Tm) (hx : okLs (2^20) okTm xs) (H : ∀ t ∈ xs, FnP Try.prog 94 [agT (eTm t), agT (eTm t)] (bT true)) : FnS Try.prog 95 [] [slT eTm xs, slT eTm xs] [] (bT true) := by
  refine FnS.go [0, 1, 4, 5, 10, 14, 26] [] Try.func95 rfl (fun kt kz => ?_)
  have fcx := fc95STerm
  simp only [Try.f95]
  have hx1 := hx.1
  refine Run (cast_succ) ?_; repeat' (first | (with_reducible exact True.intro) | (with_reducible refine Lf.mk ?_ ?_) | (with_reducible intro hb))
  refine Trn (α := Nat) [4, 5, 11, 12, 13, 14, 15, 16, 17, 18, 19, 20, 21, 22, 23, 24, 25, 26] (fun i => [(5, iT i)]) (fun i => []) (fun i => i ≤ xs.length) (fun i => xs.length - i) (0) (Nat.zero_le _) (cast_succ) ?_; intro lx hI; obtain i := lx; (try simp only [List.nil_append, List.cons_append] at hI ⊢)
  refine Run ((And.intro @eTm_eta @eTy_eta)) ?_; repeat' (first | (with_reducible exact True.intro) | (with_reducible refine Lf.mk ?_ ?_) | (with_reducible intro hb))
  · refine Cal ((And.intro @eTm_eta @eTy_eta)) (H _ (List.getElem_mem hb)) ?_
    refine Run ((And.intro @eTm_eta @eTy_eta)) ?_; repeat' (first | (with_reducible exact True.intro) | (with_reducible refine Lf.mk ?_ ?_) | (with_reducible intro hb))
    exact Nxt (cast_succ) (lx + 1) (by omega) (by first | omega | (simp; omega))

theorem eqTerm_ok (t : Tm) (h : okTm (2^20) t) : FnP Try.prog 94 [agT (eTm t), agT (eTm t)] (bT true) := eqTerm_of t h (eqTermS_of t.args ((okTm_iff.1 h).2.2.2.2.2) (fun u hu => eqTerm_ok u (((okTm_iff.1 h).2.2.2.2.2).2 u hu)))
termination_by SizeOf.sizeOf t
decreasing_by all_goals first | exact Ty.mem hu | exact Val.mem hu | exact Tm.mem hu | exact Pl.mem hu | exact Hd.memP hu | exact Hd.memQ hu | exact Cmp.memH _
theorem eqTermS_ok (xs : List Tm) (h : okLs (2^20) okTm xs) : FnP Try.prog 95 [slT eTm xs, slT eTm xs] (bT true) := eqTermS_of xs h (fun t ht => eqTerm_ok t (h.2 t ht))
theorem toTerm_ok (t : Tm) (h : okTm (2^20) t) : FnP Try.prog 90 [agT (eTm t)] (agT (eTm t)) := (toTerm_o t h 1000 1002 1004 1006 (by decide)).tree (by simp -dsimp (maxSteps := 2000000) (disch := omega) only [vs, ↓Option.bind_some, ev1, ofV, scalarB, Kn, Kb, calleeOf, evLoad, ptr, evField, evFieldAddr, shift, ↓pt_at, ↓pt_at1, evExtract, evBin, evLen, evConv, cellsT, noS, Cell.has, Cell.hasN, Cell.anyN, toIV, toIV0, toIVs, ownC, srcM, Ob.own, Ob.esz, allSc, nilK, lenC, ownCell, isPtr, ptrNil, frzO, Cell.frz, Cell.keys, ↓reduceIte, reduceCtorEq, Nat.reduceEqDiff, Nat.reduceBEq, Nat.reduceBNe, Nat.reduceAdd, Nat.reduceMul, Nat.reduceSub, Nat.reduceLT, Nat.reduceLeDiff, Nat.reducePow, Int.reduceLT, Int.reduceLE, Int.reduceEq, Int.reduceNe, quietB, Nat.reduceMod, Int.reduceToNat, ne_eq, eq_self, exists_const, evBytes, byRow, byL, byStr_size, ifsz, ByteArray.size_append, Option.none_or, Option.some_or, evLook, keyD, eTm_eta, eTy_eta])
theorem toTermS_ok (xs : List Tm) (h : okLs (2^20) okTm xs) : FnP Try.prog 91 [slT eTm xs] (slT eTm xs) := (toTermS_o xs h 1000).tree (by simp -dsimp (maxSteps := 2000000) (disch := omega) only [vs, ↓Option.bind_some, ev1, ofV, scalarB, Kn, Kb, calleeOf, evLoad, ptr, evField, evFieldAddr, shift, ↓pt_at, ↓pt_at1, evExtract, evBin, evLen, evConv, cellsT, noS, Cell.has, Cell.hasN, Cell.anyN, toIV, toIV0, toIVs, ownC, srcM, Ob.own, Ob.esz, allSc, nilK, lenC, ownCell, isPtr, ptrNil, frzO, Cell.frz, Cell.keys, ↓reduceIte, reduceCtorEq, Nat.reduceEqDiff, Nat.reduceBEq, Nat.reduceBNe, Nat.reduceAdd, Nat.reduceMul, Nat.reduceSub, Nat.reduceLT, Nat.reduceLeDiff, Nat.reducePow, Int.reduceLT, Int.reduceLE, Int.reduceEq, Int.reduceNe, quietB, Nat.reduceMod, Int.reduceToNat, ne_eq, eq_self, exists_const, evBytes, byRow, byL, byStr_size, ifsz, ByteArray.size_append, Option.none_or, Option.some_or, evLook, keyD])

end Go.VC.T
