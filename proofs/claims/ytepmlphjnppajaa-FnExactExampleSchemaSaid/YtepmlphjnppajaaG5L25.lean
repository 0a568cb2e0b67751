/- Facts of the program: sizes, zero values and fields of its types. -/
import Derived.Test.YtepmlphjnppajaaProg
import Derived.Test.YtepmlphjnppajaaGW3
import Derived.KernelRfl
import Derived.Test.YtepmlphjnppajaaGW4
namespace Go.VC.F
open Go Go.VC
open Go.Proofs
theorem sz3 : szOf Try.prog 3 = some 1 := by kernel_rfl
theorem co3 : Program.cellsOf Try.prog 3 = 1 := by kernel_rfl
theorem ag3 : aggB Try.prog 3 = false := by kernel_rfl
theorem zv3 : wpO.zvOf Try.prog 3 = some [.int .i64 0] := by kernel_rfl
theorem un3 : Try.prog.underlying 3 = some (.int .i64) := by kernel_rfl
theorem sz4 : szOf Try.prog 4 = some 1 := by kernel_rfl
theorem ag4 : aggB Try.prog 4 = false := by kernel_rfl
theorem zv4 : wpO.zvOf Try.prog 4 = some [.bool false] := by kernel_rfl
theorem un4 : Try.prog.underlying 4 = some .bool := by kernel_rfl
theorem sz5 : szOf Try.prog 5 = some 1 := by kernel_rfl
theorem ag5 : aggB Try.prog 5 = false := by kernel_rfl
theorem zv5 : wpO.zvOf Try.prog 5 = some [.int .u8 0] := by kernel_rfl
theorem un5 : Try.prog.underlying 5 = some (.int .u8) := by kernel_rfl
theorem sz9 : szOf Try.prog 9 = some 1 := by kernel_rfl
theorem co9 : Program.cellsOf Try.prog 9 = 1 := by kernel_rfl
theorem by9 : Program.bytesOf Try.prog 9 = 16 := by kernel_rfl
theorem ag9 : aggB Try.prog 9 = false := by kernel_rfl
theorem zv9 : wpO.zvOf Try.prog 9 = some [.string ⟨#[]⟩] := by kernel_rfl
theorem un9 : Try.prog.underlying 9 = some .string := by kernel_rfl
theorem sz27 : szOf Try.prog 27 = some 1 := by kernel_rfl
theorem co27 : Program.cellsOf Try.prog 27 = 1 := by kernel_rfl
theorem ag27 : aggB Try.prog 27 = false := by kernel_rfl
theorem zv27 : wpO.zvOf Try.prog 27 = some [.slice none 0 0] := by kernel_rfl
theorem sb27 : slB Try.prog 27 = true := by kernel_rfl
theorem un27 : Try.prog.underlying 27 = some (.slice 167) := by kernel_rfl
theorem el27 : elOf Try.prog 27 = some (167, 2) := by kernel_rfl
theorem ap27 : apOf Try.prog 27 = some (167, 2, 40, [.string ⟨#[]⟩, .slice none 0 0]) := by kernel_rfl
theorem sz29 : szOf Try.prog 29 = some 1 := by kernel_rfl
theorem co29 : Program.cellsOf Try.prog 29 = 1 := by kernel_rfl
theorem ag29 : aggB Try.prog 29 = true := by kernel_rfl
theorem zv29 : wpO.zvOf Try.prog 29 = some [.slice none 0 0] := by kernel_rfl
theorem st29 : strOf Try.prog 29 = some [(27, 0)] := by kernel_rfl
theorem fl29_0 : fldOf Try.prog 29 0 = some (0, 27) := by kernel_rfl
theorem pl29 : plOf Try.prog 29 = some ([(0, 1)], [.slice none 0 0]) := by kernel_rfl
theorem co31 : Program.cellsOf Try.prog 31 = 2 := by kernel_rfl
theorem st31 : strOf Try.prog 31 = some [(9, 0), (9, 1)] := by kernel_rfl
theorem sz35 : szOf Try.prog 35 = some 1 := by kernel_rfl
theorem ag35 : aggB Try.prog 35 = false := by kernel_rfl
theorem zv35 : wpO.zvOf Try.prog 35 = some [.slice none 0 0] := by kernel_rfl
theorem sb35 : slB Try.prog 35 = true := by kernel_rfl
theorem un35 : Try.prog.underlying 35 = some (.slice 156) := by kernel_rfl
theorem el35 : elOf Try.prog 35 = some (156, 2) := by kernel_rfl
theorem ap35 : apOf Try.prog 35 = some (156, 2, 40, [.string ⟨#[]⟩, .slice none 0 0]) := by kernel_rfl
theorem sz37 : szOf Try.prog 37 = some 1 := by kernel_rfl
theorem ag37 : aggB Try.prog 37 = true := by kernel_rfl
theorem zv37 : wpO.zvOf Try.prog 37 = some [.slice none 0 0] := by kernel_rfl
theorem fl37_0 : fldOf Try.prog 37 0 = some (0, 35) := by kernel_rfl
theorem pl37 : plOf Try.prog 37 = some ([(0, 1)], [.slice none 0 0]) := by kernel_rfl
theorem sz43 : szOf Try.prog 43 = some 1 := by kernel_rfl
theorem ag43 : aggB Try.prog 43 = false := by kernel_rfl
theorem zv43 : wpO.zvOf Try.prog 43 = some [.slice none 0 0] := by kernel_rfl
theorem sb43 : slB Try.prog 43 = true := by kernel_rfl
theorem un43 : Try.prog.underlying 43 = some (.slice 117) := by kernel_rfl
theorem el43 : elOf Try.prog 43 = some (117, 4) := by kernel_rfl
theorem ap43 : apOf Try.prog 43 = some (117, 4, 72, [.string ⟨#[]⟩, .int .i64 0, .slice none 0 0, .slice none 0 0]) := by kernel_rfl
theorem sz45 : szOf Try.prog 45 = some 1 := by kernel_rfl
theorem ag45 : aggB Try.prog 45 = true := by kernel_rfl
theorem zv45 : wpO.zvOf Try.prog 45 = some [.slice none 0 0] := by kernel_rfl
theorem fl45_0 : fldOf Try.prog 45 0 = some (0, 43) := by kernel_rfl
theorem pl45 : plOf Try.prog 45 = some ([(0, 1)], [.slice none 0 0]) := by kernel_rfl
theorem sz50 : szOf Try.prog 50 = some 1 := by kernel_rfl
theorem co50 : Program.cellsOf Try.prog 50 = 1 := by kernel_rfl
theorem ag50 : aggB Try.prog 50 = false := by kernel_rfl
theorem zv50 : wpO.zvOf Try.prog 50 = some [.slice none 0 0] := by kernel_rfl
theorem sb50 : slB Try.prog 50 = true := by kernel_rfl
theorem un50 : Try.prog.underlying 50 = some (.slice 179) := by kernel_rfl
theorem el50 : elOf Try.prog 50 = some (179, 2) := by kernel_rfl
theorem ap50 : apOf Try.prog 50 = some (179, 2, 32, [.int .i64 0, .slice none 0 0]) := by kernel_rfl
theorem sz52 : szOf Try.prog 52 = some 1 := by kernel_rfl
theorem co52 : Program.cellsOf Try.prog 52 = 1 := by kernel_rfl
theorem ag52 : aggB Try.prog 52 = true := by kernel_rfl
theorem zv52 : wpO.zvOf Try.prog 52 = some [.slice none 0 0] := by kernel_rfl
theorem st52 : strOf Try.prog 52 = some [(50, 0)] := by kernel_rfl
theorem fl52_0 : fldOf Try.prog 52 0 = some (0, 50) := by kernel_rfl
theorem pl52 : plOf Try.prog 52 = some ([(0, 1)], [.slice none 0 0]) := by kernel_rfl
theorem sz54 : szOf Try.prog 54 = some 1 := by kernel_rfl
theorem ag54 : aggB Try.prog 54 = false := by kernel_rfl
theorem zv54 : wpO.zvOf Try.prog 54 = some [.slice none 0 0] := by kernel_rfl
theorem sb54 : slB Try.prog 54 = true := by kernel_rfl
theorem un54 : Try.prog.underlying 54 = some (.slice 125) := by kernel_rfl
theorem el54 : elOf Try.prog 54 = some (125, 2) := by kernel_rfl
theorem ap54 : apOf Try.prog 54 = some (125, 2, 32, [.int .i64 0, .slice none 0 0]) := by kernel_rfl
theorem sz56 : szOf Try.prog 56 = some 1 := by kernel_rfl
theorem ag56 : aggB Try.prog 56 = true := by kernel_rfl
theorem zv56 : wpO.zvOf Try.prog 56 = some [.slice none 0 0] := by kernel_rfl
theorem fl56_0 : fldOf Try.prog 56 0 = some (0, 54) := by kernel_rfl
theorem pl56 : plOf Try.prog 56 = some ([(0, 1)], [.slice none 0 0]) := by kernel_rfl
theorem sz63 : szOf Try.prog 63 = some 1 := by kernel_rfl
theorem co63 : Program.cellsOf Try.prog 63 = 1 := by kernel_rfl
theorem ag63 : aggB Try.prog 63 = false := by kernel_rfl
theorem zv63 : wpO.zvOf Try.prog 63 = some [.slice none 0 0] := by kernel_rfl
theorem sb63 : slB Try.prog 63 = true := by kernel_rfl
theorem un63 : Try.prog.underlying 63 = some (.slice 9) := by kernel_rfl
theorem el63 : elOf Try.prog 63 = some (9, 1) := by kernel_rfl
theorem ap63 : apOf Try.prog 63 = some (9, 1, 16, [.string ⟨#[]⟩]) := by kernel_rfl
theorem sz64 : szOf Try.prog 64 = some 1 := by kernel_rfl
theorem co64 : Program.cellsOf Try.prog 64 = 1 := by kernel_rfl
theorem ag64 : aggB Try.prog 64 = false := by kernel_rfl
theorem zv64 : wpO.zvOf Try.prog 64 = some [.slice none 0 0] := by kernel_rfl
theorem sb64 : slB Try.prog 64 = true := by kernel_rfl
theorem un64 : Try.prog.underlying 64 = some (.slice 66) := by kernel_rfl
theorem el64 : elOf Try.prog 64 = some (66, 3) := by kernel_rfl
theorem ap64 : apOf Try.prog 64 = some (66, 3, 56, [.int .i64 0, .slice none 0 0, .slice none 0 0]) := by kernel_rfl
theorem sz66 : szOf Try.prog 66 = some 3 := by kernel_rfl
theorem co66 : Program.cellsOf Try.prog 66 = 3 := by kernel_rfl
theorem by66 : Program.bytesOf Try.prog 66 = 56 := by kernel_rfl
theorem ag66 : aggB Try.prog 66 = true := by kernel_rfl
theorem zv66 : wpO.zvOf Try.prog 66 = some [.int .i64 0, .slice none 0 0, .slice none 0 0] := by kernel_rfl
theorem st66 : strOf Try.prog 66 = some [(3, 0), (63, 1), (64, 2)] := by kernel_rfl
theorem fl66_0 : fldOf Try.prog 66 0 = some (0, 3) := by kernel_rfl
theorem fl66_1 : fldOf Try.prog 66 1 = some (1, 63) := by kernel_rfl
theorem fl66_2 : fldOf Try.prog 66 2 = some (2, 64) := by kernel_rfl
theorem pl66 : plOf Try.prog 66 = some ([(0, 1), (1, 1), (2, 1)], [.int .i64 0, .slice none 0 0, .slice none 0 0]) := by kernel_rfl
theorem sz67 : szOf Try.prog 67 = some 1 := by kernel_rfl
theorem co67 : Program.cellsOf Try.prog 67 = 1 := by kernel_rfl
theorem ag67 : aggB Try.prog 67 = false := by kernel_rfl
theorem zv67 : wpO.zvOf Try.prog 67 = some [.slice none 0 0] := by kernel_rfl
theorem sb67 : slB Try.prog 67 = true := by kernel_rfl
theorem un67 : Try.prog.underlying 67 = some (.slice 69) := by kernel_rfl
theorem el67 : elOf Try.prog 67 = some (69, 8) := by kernel_rfl
theorem ap67 : apOf Try.prog 67 = some (69, 8, 136, [.int .i64 0, .string ⟨#[]⟩, .int .i64 0, .int .i64 0, .slice none 0 0, .slice none 0 0, .slice none 0 0, .slice none 0 0]) := by kernel_rfl
theorem sz69 : szOf Try.prog 69 = some 8 := by kernel_rfl
theorem co69 : Program.cellsOf Try.prog 69 = 8 := by kernel_rfl
theorem by69 : Program.bytesOf Try.prog 69 = 136 := by kernel_rfl
theorem ag69 : aggB Try.prog 69 = true := by kernel_rfl
theorem zv69 : wpO.zvOf Try.prog 69 = some [.int .i64 0, .string ⟨#[]⟩, .int .i64 0, .int .i64 0, .slice none 0 0, .slice none 0 0, .slice none 0 0, .slice none 0 0] := by kernel_rfl
theorem st69 : strOf Try.prog 69 = some [(3, 0), (9, 1), (3, 2), (66, 3), (63, 6), (67, 7)] := by kernel_rfl
theorem fl69_0 : fldOf Try.prog 69 0 = some (0, 3) := by kernel_rfl
theorem fl69_1 : fldOf Try.prog 69 1 = some (1, 9) := by kernel_rfl
theorem fl69_2 : fldOf Try.prog 69 2 = some (2, 3) := by kernel_rfl
theorem fl69_3 : fldOf Try.prog 69 3 = some (3, 66) := by kernel_rfl
theorem fl69_4 : fldOf Try.prog 69 4 = some (6, 63) := by kernel_rfl
theorem fl69_5 : fldOf Try.prog 69 5 = some (7, 67) := by kernel_rfl
theorem pl69 : plOf Try.prog 69 = some ([(0, 1), (1, 1), (2, 1), (3, 3), (6, 1), (7, 1)], [.int .i64 0, .string ⟨#[]⟩, .int .i64 0, .int .i64 0, .slice none 0 0, .slice none 0 0, .slice none 0 0, .slice none 0 0]) := by kernel_rfl
theorem co70 : Program.cellsOf Try.prog 70 = 1 := by kernel_rfl
theorem un70 : Try.prog.underlying 70 = some (.slice 72) := by kernel_rfl
theorem co72 : Program.cellsOf Try.prog 72 = 13 := by kernel_rfl
theorem by72 : Program.bytesOf Try.prog 72 = 224 := by kernel_rfl
theorem st72 : strOf Try.prog 72 = some [(3, 0), (9, 1), (9, 2), (69, 3), (67, 11), (70, 12)] := by kernel_rfl
theorem sz75 : szOf Try.prog 75 = some 1 := by kernel_rfl
theorem ag75 : aggB Try.prog 75 = false := by kernel_rfl
theorem zv75 : wpO.zvOf Try.prog 75 = some [.slice none 0 0] := by kernel_rfl
theorem sb75 : slB Try.prog 75 = true := by kernel_rfl
theorem un75 : Try.prog.underlying 75 = some (.slice 77) := by kernel_rfl
theorem el75 : elOf Try.prog 75 = some (77, 3) := by kernel_rfl
theorem ap75 : apOf Try.prog 75 = some (77, 3, 56, [.int .i64 0, .slice none 0 0, .slice none 0 0]) := by kernel_rfl
theorem sz77 : szOf Try.prog 77 = some 3 := by kernel_rfl
theorem ag77 : aggB Try.prog 77 = true := by kernel_rfl
theorem zv77 : wpO.zvOf Try.prog 77 = some [.int .i64 0, .slice none 0 0, .slice none 0 0] := by kernel_rfl
theorem fl77_0 : fldOf Try.prog 77 0 = some (0, 3) := by kernel_rfl
theorem fl77_1 : fldOf Try.prog 77 1 = some (1, 63) := by kernel_rfl
theorem fl77_2 : fldOf Try.prog 77 2 = some (2, 75) := by kernel_rfl
theorem pl77 : plOf Try.prog 77 = some ([(0, 1), (1, 1), (2, 1)], [.int .i64 0, .slice none 0 0, .slice none 0 0]) := by kernel_rfl
theorem sz78 : szOf Try.prog 78 = some 1 := by kernel_rfl
theorem ag78 : aggB Try.prog 78 = false := by kernel_rfl
theorem zv78 : wpO.zvOf Try.prog 78 = some [.slice none 0 0] := by kernel_rfl
theorem sb78 : slB Try.prog 78 = true := by kernel_rfl
theorem un78 : Try.prog.underlying 78 = some (.slice 80) := by kernel_rfl
theorem el78 : elOf Try.prog 78 = some (80, 8) := by kernel_rfl
theorem ap78 : apOf Try.prog 78 = some (80, 8, 136, [.int .i64 0, .string ⟨#[]⟩, .int .i64 0, .int .i64 0, .slice none 0 0, .slice none 0 0, .slice none 0 0, .slice none 0 0]) := by kernel_rfl
theorem sz80 : szOf Try.prog 80 = some 8 := by kernel_rfl
theorem ag80 : aggB Try.prog 80 = true := by kernel_rfl
theorem zv80 : wpO.zvOf Try.prog 80 = some [.int .i64 0, .string ⟨#[]⟩, .int .i64 0, .int .i64 0, .slice none 0 0, .slice none 0 0, .slice none 0 0, .slice none 0 0] := by kernel_rfl
theorem fl80_0 : fldOf Try.prog 80 0 = some (0, 3) := by kernel_rfl
theorem fl80_1 : fldOf Try.prog 80 1 = some (1, 9) := by kernel_rfl
theorem fl80_2 : fldOf Try.prog 80 2 = some (2, 3) := by kernel_rfl
theorem fl80_3 : fldOf Try.prog 80 3 = some (3, 77) := by kernel_rfl
theorem fl80_4 : fldOf Try.prog 80 4 = some (6, 63) := by kernel_rfl
theorem fl80_5 : fldOf Try.prog 80 5 = some (7, 78) := by kernel_rfl
theorem pl80 : plOf Try.prog 80 = some ([(0, 1), (1, 1), (2, 1), (3, 3), (6, 1), (7, 1)], [.int .i64 0, .string ⟨#[]⟩, .int .i64 0, .int .i64 0, .slice none 0 0, .slice none 0 0, .slice none 0 0, .slice none 0 0]) := by kernel_rfl
theorem sz87 : szOf Try.prog 87 = some 1 := by kernel_rfl
theorem co87 : Program.cellsOf Try.prog 87 = 1 := by kernel_rfl
theorem ag87 : aggB Try.prog 87 = false := by kernel_rfl
theorem zv87 : wpO.zvOf Try.prog 87 = some [.slice none 0 0] := by kernel_rfl
theorem sb87 : slB Try.prog 87 = true := by kernel_rfl
theorem un87 : Try.prog.underlying 87 = some (.slice 199) := by kernel_rfl
theorem el87 : elOf Try.prog 87 = some (199, 4) := by kernel_rfl
theorem ap87 : apOf Try.prog 87 = some (199, 4, 72, [.string ⟨#[]⟩, .int .i64 0, .slice none 0 0, .slice none 0 0]) := by kernel_rfl
theorem sz89 : szOf Try.prog 89 = some 1 := by kernel_rfl
theorem co89 : Program.cellsOf Try.prog 89 = 1 := by kernel_rfl
theorem ag89 : aggB Try.prog 89 = true := by kernel_rfl
theorem zv89 : wpO.zvOf Try.prog 89 = some [.slice none 0 0] := by kernel_rfl
theorem st89 : strOf Try.prog 89 = some [(87, 0)] := by kernel_rfl
theorem fl89_0 : fldOf Try.prog 89 0 = some (0, 87) := by kernel_rfl
theorem pl89 : plOf Try.prog 89 = some ([(0, 1)], [.slice none 0 0]) := by kernel_rfl
theorem sz95 : szOf Try.prog 95 = some 1 := by kernel_rfl
theorem ag95 : aggB Try.prog 95 = false := by kernel_rfl
theorem zv95 : wpO.zvOf Try.prog 95 = some [.slice none 0 0] := by kernel_rfl
theorem sb95 : slB Try.prog 95 = true := by kernel_rfl
theorem un95 : Try.prog.underlying 95 = some (.slice 3) := by kernel_rfl
theorem el95 : elOf Try.prog 95 = some (3, 1) := by kernel_rfl
theorem ap95 : apOf Try.prog 95 = some (3, 1, 8, [.int .i64 0]) := by kernel_rfl
theorem sz103 : szOf Try.prog 103 = some 1 := by kernel_rfl
theorem ag103 : aggB Try.prog 103 = false := by kernel_rfl
theorem zv103 : wpO.zvOf Try.prog 103 = some [.slice none 0 0] := by kernel_rfl
theorem sb103 : slB Try.prog 103 = true := by kernel_rfl
theorem un103 : Try.prog.underlying 103 = some (.slice 107) := by kernel_rfl
theorem el103 : elOf Try.prog 103 = some (107, 4) := by kernel_rfl
theorem ap103 : apOf Try.prog 103 = some (107, 4, 64, [.int .i64 0, .int .i64 0, .slice none 0 0, .slice none 0 0]) := by kernel_rfl
theorem sz107 : szOf Try.prog 107 = some 4 := by kernel_rfl
theorem ag107 : aggB Try.prog 107 = true := by kernel_rfl
theorem zv107 : wpO.zvOf Try.prog 107 = some [.int .i64 0, .int .i64 0, .slice none 0 0, .slice none 0 0] := by kernel_rfl
theorem fl107_0 : fldOf Try.prog 107 0 = some (0, 3) := by kernel_rfl
theorem fl107_1 : fldOf Try.prog 107 1 = some (1, 3) := by kernel_rfl
theorem fl107_2 : fldOf Try.prog 107 2 = some (2, 63) := by kernel_rfl
theorem fl107_3 : fldOf Try.prog 107 3 = some (3, 103) := by kernel_rfl
theorem pl107 : plOf Try.prog 107 = some ([(0, 1), (1, 1), (2, 1), (3, 1)], [.int .i64 0, .int .i64 0, .slice none 0 0, .slice none 0 0]) := by kernel_rfl
theorem sz117 : szOf Try.prog 117 = some 4 := by kernel_rfl
theorem ag117 : aggB Try.prog 117 = true := by kernel_rfl
theorem zv117 : wpO.zvOf Try.prog 117 = some [.string ⟨#[]⟩, .int .i64 0, .slice none 0 0, .slice none 0 0] := by kernel_rfl
theorem fl117_0 : fldOf Try.prog 117 0 = some (0, 9) := by kernel_rfl
theorem fl117_1 : fldOf Try.prog 117 1 = some (1, 77) := by kernel_rfl
theorem pl117 : plOf Try.prog 117 = some ([(0, 1), (1, 3)], [.string ⟨#[]⟩, .int .i64 0, .slice none 0 0, .slice none 0 0]) := by kernel_rfl
theorem sz125 : szOf Try.prog 125 = some 2 := by kernel_rfl
theorem ag125 : aggB Try.prog 125 = true := by kernel_rfl
theorem zv125 : wpO.zvOf Try.prog 125 = some [.int .i64 0, .slice none 0 0] := by kernel_rfl
theorem fl125_0 : fldOf Try.prog 125 0 = some (0, 3) := by kernel_rfl
theorem fl125_1 : fldOf Try.prog 125 1 = some (1, 63) := by kernel_rfl
theorem pl125 : plOf Try.prog 125 = some ([(0, 1), (1, 1)], [.int .i64 0, .slice none 0 0]) := by kernel_rfl
theorem sz156 : szOf Try.prog 156 = some 2 := by kernel_rfl
theorem ag156 : aggB Try.prog 156 = true := by kernel_rfl
theorem zv156 : wpO.zvOf Try.prog 156 = some [.string ⟨#[]⟩, .slice none 0 0] := by kernel_rfl
theorem fl156_0 : fldOf Try.prog 156 0 = some (0, 9) := by kernel_rfl
theorem fl156_1 : fldOf Try.prog 156 1 = some (1, 103) := by kernel_rfl
theorem pl156 : plOf Try.prog 156 = some ([(0, 1), (1, 1)], [.string ⟨#[]⟩, .slice none 0 0]) := by kernel_rfl
theorem sz159 : szOf Try.prog 159 = some 1 := by kernel_rfl
theorem ag159 : aggB Try.prog 159 = false := by kernel_rfl
theorem zv159 : wpO.zvOf Try.prog 159 = some [.pointer none] := by kernel_rfl
theorem un159 : Try.prog.underlying 159 = some (.pointer 77) := by kernel_rfl
theorem sz165 : szOf Try.prog 165 = some 1 := by kernel_rfl
theorem co165 : Program.cellsOf Try.prog 165 = 1 := by kernel_rfl
theorem ag165 : aggB Try.prog 165 = false := by kernel_rfl
theorem zv165 : wpO.zvOf Try.prog 165 = some [.slice none 0 0] := by kernel_rfl
theorem sb165 : slB Try.prog 165 = true := by kernel_rfl
theorem un165 : Try.prog.underlying 165 = some (.slice 245) := by kernel_rfl
theorem el165 : elOf Try.prog 165 = some (245, 4) := by kernel_rfl
theorem ap165 : apOf Try.prog 165 = some (245, 4, 64, [.int .i64 0, .int .i64 0, .slice none 0 0, .slice none 0 0]) := by kernel_rfl
theorem sz167 : szOf Try.prog 167 = some 2 := by kernel_rfl
theorem co167 : Program.cellsOf Try.prog 167 = 2 := by kernel_rfl
theorem by167 : Program.bytesOf Try.prog 167 = 40 := by kernel_rfl
theorem ag167 : aggB Try.prog 167 = true := by kernel_rfl
theorem zv167 : wpO.zvOf Try.prog 167 = some [.string ⟨#[]⟩, .slice none 0 0] := by kernel_rfl
theorem st167 : strOf Try.prog 167 = some [(9, 0), (165, 1)] := by kernel_rfl
theorem fl167_0 : fldOf Try.prog 167 0 = some (0, 9) := by kernel_rfl
theorem fl167_1 : fldOf Try.prog 167 1 = some (1, 165) := by kernel_rfl
theorem pl167 : plOf Try.prog 167 = some ([(0, 1), (1, 1)], [.string ⟨#[]⟩, .slice none 0 0]) := by kernel_rfl
theorem sz179 : szOf Try.prog 179 = some 2 := by kernel_rfl
theorem co179 : Program.cellsOf Try.prog 179 = 2 := by kernel_rfl
theorem by179 : Program.bytesOf Try.prog 179 = 32 := by kernel_rfl
theorem ag179 : aggB Try.prog 179 = true := by kernel_rfl
theorem zv179 : wpO.zvOf Try.prog 179 = some [.int .i64 0, .slice none 0 0] := by kernel_rfl
theorem st179 : strOf Try.prog 179 = some [(3, 0), (63, 1)] := by kernel_rfl
theorem fl179_0 : fldOf Try.prog 179 0 = some (0, 3) := by kernel_rfl
theorem fl179_1 : fldOf Try.prog 179 1 = some (1, 63) := by kernel_rfl
theorem pl179 : plOf Try.prog 179 = some ([(0, 1), (1, 1)], [.int .i64 0, .slice none 0 0]) := by kernel_rfl
theorem sz199 : szOf Try.prog 199 = some 4 := by kernel_rfl
theorem co199 : Program.cellsOf Try.prog 199 = 4 := by kernel_rfl
theorem by199 : Program.bytesOf Try.prog 199 = 72 := by kernel_rfl
theorem ag199 : aggB Try.prog 199 = true := by kernel_rfl
theorem zv199 : wpO.zvOf Try.prog 199 = some [.string ⟨#[]⟩, .int .i64 0, .slice none 0 0, .slice none 0 0] := by kernel_rfl
theorem st199 : strOf Try.prog 199 = some [(9, 0), (66, 1)] := by kernel_rfl
theorem fl199_0 : fldOf Try.prog 199 0 = some (0, 9) := by kernel_rfl
theorem fl199_1 : fldOf Try.prog 199 1 = some (1, 66) := by kernel_rfl
theorem pl199 : plOf Try.prog 199 = some ([(0, 1), (1, 3)], [.string ⟨#[]⟩, .int .i64 0, .slice none 0 0, .slice none 0 0]) := by kernel_rfl
theorem sz200 : szOf Try.prog 200 = some 1 := by kernel_rfl
theorem ag200 : aggB Try.prog 200 = false := by kernel_rfl
theorem zv200 : wpO.zvOf Try.prog 200 = some [.nilFunc] := by kernel_rfl
theorem sz201 : szOf Try.prog 201 = some 1 := by kernel_rfl
theorem ag201 : aggB Try.prog 201 = false := by kernel_rfl
theorem zv201 : wpO.zvOf Try.prog 201 = some [.nilFunc] := by kernel_rfl
theorem sz216 : szOf Try.prog 216 = some 3 := by kernel_rfl
theorem ag216 : aggB Try.prog 216 = true := by kernel_rfl
theorem zv216 : wpO.zvOf Try.prog 216 = some [.string ⟨#[]⟩, .int .i64 0, .bool false] := by kernel_rfl
theorem fl216_0 : fldOf Try.prog 216 0 = some (0, 9) := by kernel_rfl
theorem fl216_1 : fldOf Try.prog 216 1 = some (1, 3) := by kernel_rfl
theorem fl216_2 : fldOf Try.prog 216 2 = some (2, 4) := by kernel_rfl
theorem pl216 : plOf Try.prog 216 = some ([(0, 1), (1, 1), (2, 1)], [.string ⟨#[]⟩, .int .i64 0, .bool false]) := by kernel_rfl
theorem sz219 : szOf Try.prog 219 = some 1 := by kernel_rfl
theorem ag219 : aggB Try.prog 219 = false := by kernel_rfl
theorem zv219 : wpO.zvOf Try.prog 219 = some [.slice none 0 0] := by kernel_rfl
theorem sb219 : slB Try.prog 219 = true := by kernel_rfl
theorem un219 : Try.prog.underlying 219 = some (.slice 5) := by kernel_rfl
theorem el219 : elOf Try.prog 219 = some (5, 1) := by kernel_rfl
theorem ap219 : apOf Try.prog 219 = some (5, 1, 1, [.int .u8 0]) := by kernel_rfl
theorem sz229 : szOf Try.prog 229 = some 1 := by kernel_rfl
theorem ag229 : aggB Try.prog 229 = false := by kernel_rfl
theorem zv229 : wpO.zvOf Try.prog 229 = some [.nilFunc] := by kernel_rfl
theorem sz245 : szOf Try.prog 245 = some 4 := by kernel_rfl
theorem co245 : Program.cellsOf Try.prog 245 = 4 := by kernel_rfl
theorem by245 : Program.bytesOf Try.prog 245 = 64 := by kernel_rfl
theorem ag245 : aggB Try.prog 245 = true := by kernel_rfl
theorem zv245 : wpO.zvOf Try.prog 245 = some [.int .i64 0, .int .i64 0, .slice none 0 0, .slice none 0 0] := by kernel_rfl
theorem st245 : strOf Try.prog 245 = some [(3, 0), (3, 1), (63, 2), (165, 3)] := by kernel_rfl
theorem fl245_0 : fldOf Try.prog 245 0 = some (0, 3) := by kernel_rfl
theorem fl245_1 : fldOf Try.prog 245 1 = some (1, 3) := by kernel_rfl
theorem fl245_2 : fldOf Try.prog 245 2 = some (2, 63) := by kernel_rfl
theorem fl245_3 : fldOf Try.prog 245 3 = some (3, 165) := by kernel_rfl
theorem pl245 : plOf Try.prog 245 = some ([(0, 1), (1, 1), (2, 1), (3, 1)], [.int .i64 0, .int .i64 0, .slice none 0 0, .slice none 0 0]) := by kernel_rfl
theorem sz248 : szOf Try.prog 248 = some 1 := by kernel_rfl
theorem ag248 : aggB Try.prog 248 = false := by kernel_rfl
theorem zv248 : wpO.zvOf Try.prog 248 = some [.pointer none] := by kernel_rfl
theorem un248 : Try.prog.underlying 248 = some (.pointer 216) := by kernel_rfl
theorem sz266 : szOf Try.prog 266 = some 1 := by kernel_rfl
theorem ag266 : aggB Try.prog 266 = false := by kernel_rfl
theorem zv266 : wpO.zvOf Try.prog 266 = some [.map none] := by kernel_rfl
theorem mp266 : mpOf Try.prog 266 = some (.int .i64, .int .i64 0) := by kernel_rfl
theorem okf23 : fnOk Try.prog 23 = true := by kernel_rfl
theorem okf24 : fnOk Try.prog 24 = true := by kernel_rfl
theorem okf25 : fnOk Try.prog 25 = true := by kernel_rfl
theorem okf26 : fnOk Try.prog 26 = true := by kernel_rfl
theorem okf27 : fnOk Try.prog 27 = true := by kernel_rfl
theorem okf58 : fnOk Try.prog 58 = true := by kernel_rfl
theorem okf61 : fnOk Try.prog 61 = true := by kernel_rfl
theorem okf64 : fnOk Try.prog 64 = true := by kernel_rfl
theorem okf65 : fnOk Try.prog 65 = true := by kernel_rfl
theorem okf66 : fnOk Try.prog 66 = true := by kernel_rfl
theorem okf67 : fnOk Try.prog 67 = true := by kernel_rfl
theorem okf68 : fnOk Try.prog 68 = true := by kernel_rfl
theorem okf69 : fnOk Try.prog 69 = true := by kernel_rfl
theorem okf70 : fnOk Try.prog 70 = true := by kernel_rfl
theorem okf71 : fnOk Try.prog 71 = true := by kernel_rfl
theorem okf72 : fnOk Try.prog 72 = true := by kernel_rfl
theorem okf76 : fnOk Try.prog 76 = true := by kernel_rfl
theorem okf81 : fnOk Try.prog 81 = true := by kernel_rfl
theorem okf82 : fnOk Try.prog 82 = true := by kernel_rfl
theorem okf83 : fnOk Try.prog 83 = true := by kernel_rfl
theorem okf84 : fnOk Try.prog 84 = true := by kernel_rfl
theorem okf85 : fnOk Try.prog 85 = true := by kernel_rfl
theorem okf90 : fnOk Try.prog 90 = true := by kernel_rfl
theorem okf91 : fnOk Try.prog 91 = true := by kernel_rfl
theorem okf94 : fnOk Try.prog 94 = true := by kernel_rfl
theorem okf95 : fnOk Try.prog 95 = true := by kernel_rfl
theorem okf97 : fnOk Try.prog 97 = true := by kernel_rfl
theorem okf99 : fnOk Try.prog 99 = true := by kernel_rfl
theorem okf101 : fnOk Try.prog 101 = true := by kernel_rfl
theorem okf104 : fnOk Try.prog 104 = true := by kernel_rfl
theorem okf113 : fnOk Try.prog 113 = true := by kernel_rfl
theorem okf116 : fnOk Try.prog 116 = true := by kernel_rfl
theorem okf117 : fnOk Try.prog 117 = true := by kernel_rfl
theorem okf118 : fnOk Try.prog 118 = true := by kernel_rfl
theorem okf119 : fnOk Try.prog 119 = true := by kernel_rfl
theorem okf120 : fnOk Try.prog 120 = true := by kernel_rfl
theorem okf121 : fnOk Try.prog 121 = true := by kernel_rfl
theorem okf122 : fnOk Try.prog 122 = true := by kernel_rfl
theorem okf123 : fnOk Try.prog 123 = true := by kernel_rfl
theorem okf124 : fnOk Try.prog 124 = true := by kernel_rfl
theorem okf125 : fnOk Try.prog 125 = true := by kernel_rfl
theorem okf126 : fnOk Try.prog 126 = true := by kernel_rfl
theorem okf129 : fnOk Try.prog 129 = true := by kernel_rfl
theorem okf137 : fnOk Try.prog 137 = true := by kernel_rfl
theorem okf138 : fnOk Try.prog 138 = true := by kernel_rfl
theorem okf139 : fnOk Try.prog 139 = true := by kernel_rfl
theorem okf142 : fnOk Try.prog 142 = true := by kernel_rfl
theorem okf143 : fnOk Try.prog 143 = true := by kernel_rfl
theorem okf146 : fnOk Try.prog 146 = true := by kernel_rfl
theorem okf147 : fnOk Try.prog 147 = true := by kernel_rfl
theorem okf148 : fnOk Try.prog 148 = true := by kernel_rfl
theorem okf149 : fnOk Try.prog 149 = true := by kernel_rfl
theorem okf151 : fnOk Try.prog 151 = true := by kernel_rfl
theorem okf152 : fnOk Try.prog 152 = true := by kernel_rfl
theorem okf153 : fnOk Try.prog 153 = true := by kernel_rfl
theorem okf154 : fnOk Try.prog 154 = true := by kernel_rfl
theorem okf163 : fnOk Try.prog 163 = true := by kernel_rfl
theorem okf164 : fnOk Try.prog 164 = true := by kernel_rfl
theorem okf165 : fnOk Try.prog 165 = true := by kernel_rfl
theorem okf166 : fnOk Try.prog 166 = true := by kernel_rfl
theorem okf167 : fnOk Try.prog 167 = true := by kernel_rfl
theorem okf168 : fnOk Try.prog 168 = true := by kernel_rfl
theorem okf169 : fnOk Try.prog 169 = true := by kernel_rfl
theorem okf170 : fnOk Try.prog 170 = true := by kernel_rfl
theorem okf173 : fnOk Try.prog 173 = true := by kernel_rfl
theorem okf176 : fnOk Try.prog 176 = true := by kernel_rfl
theorem okf177 : fnOk Try.prog 177 = true := by kernel_rfl
theorem okf178 : fnOk Try.prog 178 = true := by kernel_rfl
theorem okf180 : fnOk Try.prog 180 = true := by kernel_rfl
theorem okf181 : fnOk Try.prog 181 = true := by kernel_rfl
theorem okf182 : fnOk Try.prog 182 = true := by kernel_rfl
theorem okf183 : fnOk Try.prog 183 = true := by kernel_rfl
theorem okf184 : fnOk Try.prog 184 = true := by kernel_rfl
theorem okf185 : fnOk Try.prog 185 = true := by kernel_rfl
theorem okf186 : fnOk Try.prog 186 = true := by kernel_rfl
theorem okf187 : fnOk Try.prog 187 = true := by kernel_rfl
theorem okf188 : fnOk Try.prog 188 = true := by kernel_rfl
theorem okf189 : fnOk Try.prog 189 = true := by kernel_rfl
theorem okf196 : fnOk Try.prog 196 = true := by kernel_rfl
theorem okf201 : fnOk Try.prog 201 = true := by kernel_rfl
theorem okf202 : fnOk Try.prog 202 = true := by kernel_rfl
theorem okf203 : fnOk Try.prog 203 = true := by kernel_rfl
theorem okf204 : fnOk Try.prog 204 = true := by kernel_rfl
theorem okf205 : fnOk Try.prog 205 = true := by kernel_rfl
theorem okf206 : fnOk Try.prog 206 = true := by kernel_rfl
theorem okf207 : fnOk Try.prog 207 = true := by kernel_rfl
theorem okf208 : fnOk Try.prog 208 = true := by kernel_rfl
theorem okf209 : fnOk Try.prog 209 = true := by kernel_rfl
theorem okf210 : fnOk Try.prog 210 = true := by kernel_rfl
theorem okf211 : fnOk Try.prog 211 = true := by kernel_rfl
theorem okf213 : fnOk Try.prog 213 = true := by kernel_rfl
theorem okf214 : fnOk Try.prog 214 = true := by kernel_rfl
theorem okf215 : fnOk Try.prog 215 = true := by kernel_rfl
theorem okf216 : fnOk Try.prog 216 = true := by kernel_rfl
theorem okf217 : fnOk Try.prog 217 = true := by kernel_rfl
theorem okf218 : fnOk Try.prog 218 = true := by kernel_rfl
theorem okf224 : fnOk Try.prog 224 = true := by kernel_rfl
theorem okf225 : fnOk Try.prog 225 = true := by kernel_rfl
theorem okf226 : fnOk Try.prog 226 = true := by kernel_rfl
theorem okf227 : fnOk Try.prog 227 = true := by kernel_rfl
theorem okf229 : fnOk Try.prog 229 = true := by kernel_rfl
theorem okf230 : fnOk Try.prog 230 = true := by kernel_rfl
theorem okf231 : fnOk Try.prog 231 = true := by kernel_rfl
theorem okf232 : fnOk Try.prog 232 = true := by kernel_rfl
theorem okf234 : fnOk Try.prog 234 = true := by kernel_rfl
theorem okf238 : fnOk Try.prog 238 = true := by kernel_rfl
theorem okf239 : fnOk Try.prog 239 = true := by kernel_rfl
theorem okf240 : fnOk Try.prog 240 = true := by kernel_rfl
theorem okf241 : fnOk Try.prog 241 = true := by kernel_rfl
theorem okf244 : fnOk Try.prog 244 = true := by kernel_rfl
theorem mixed : Try.prog.follows .mixedOrders = true := by kernel_rfl
end Go.VC.F
/- The data of the program, as trees. -/
namespace Go.VC
open Go
/-- A type. -/
inductive Ty where
  | mk (kind : Int) (labels : List ByteArray) (args : List Ty)
  deriving Inhabited
def Ty.kind : Ty → Int | .mk k _ _ => k
def Ty.labels : Ty → List ByteArray | .mk _ l _ => l
def Ty.args : Ty → List Ty | .mk _ _ a => a
mutual
def eTy : Ty → List IV
  | .mk k l a => [.sc (.int .i64 k), slI eS l, .sl a.length (eTyL a)]
def eTyL : List Ty → List IV
  | [] => []
  | t :: r => eTy t ++ eTyL r
end
theorem eTyL_eq : ∀ (l : List Ty), eTyL l = l.flatMap eTy
  | [] => rfl
  | t :: r => by rw [eTyL, eTyL_eq r, List.flatMap_cons]
theorem eTy_eta (t : Ty) : eTy t = [.sc (.int .i64 t.kind), slI eS t.labels, slI eTy t.args] := by
  cases t with
  | mk k l a => rw [eTy, eTyL_eq]; rfl
instance : Wid eTy 3 := ⟨fun t => by rw [eTy_eta]; rfl⟩
/-- A value. -/
inductive Val where
  | mk (kind n : Int) (labels : List ByteArray) (args : List Val)
  deriving Inhabited
def Val.kind : Val → Int | .mk k _ _ _ => k
def Val.n : Val → Int | .mk _ n _ _ => n
def Val.labels : Val → List ByteArray | .mk _ _ l _ => l
def Val.args : Val → List Val | .mk _ _ _ a => a
mutual
def eVal : Val → List IV
  | .mk k n l a => [.sc (.int .i64 k), .sc (.int .i64 n), slI eS l, .sl a.length (eValL a)]
def eValL : List Val → List IV
  | [] => []
  | t :: r => eVal t ++ eValL r
end
theorem eValL_eq : ∀ (l : List Val), eValL l = l.flatMap eVal
  | [] => rfl
  | t :: r => by rw [eValL, eValL_eq r, List.flatMap_cons]
theorem eVal_eta (t : Val) : eVal t = [.sc (.int .i64 t.kind), .sc (.int .i64 t.n), slI eS t.labels, slI eVal t.args] := by
  cases t with
  | mk k n l a => rw [eVal, eValL_eq]; rfl
instance : Wid eVal 4 := ⟨fun t => by rw [eVal_eta]; rfl⟩
/-- A term. -/
inductive Tm where
  | mk (kind : Int) (name : ByteArray) (n : Int) (ty : Ty) (labels : List ByteArray) (args : List Tm)
  deriving Inhabited
def Tm.kind : Tm → Int | .mk k _ _ _ _ _ => k
def Tm.name : Tm → ByteArray | .mk _ s _ _ _ _ => s
def Tm.n : Tm → Int | .mk _ _ n _ _ _ => n
def Tm.ty : Tm → Ty | .mk _ _ _ t _ _ => t
def Tm.labels : Tm → List ByteArray | .mk _ _ _ _ l _ => l
def Tm.args : Tm → List Tm | .mk _ _ _ _ _ a => a
mutual
def eTm : Tm → List IV
  | .mk k s n t l a => [.sc (.int .i64 k), .sc (.string s), .sc (.int .i64 n), .sc (.int .i64 t.kind), slI eS t.labels, slI eTy t.args, slI eS l, .sl a.length (eTmL a)]
def eTmL : List Tm → List IV
  | [] => []
  | t :: r => eTm t ++ eTmL r
end
theorem eTmL_eq : ∀ (l : List Tm), eTmL l = l.flatMap eTm
  | [] => rfl
  | t :: r => by rw [eTmL, eTmL_eq r, List.flatMap_cons]
theorem eTm_eta (t : Tm) : eTm t = [.sc (.int .i64 t.kind), .sc (.string t.name), .sc (.int .i64 t.n), .sc (.int .i64 t.ty.kind), slI eS t.ty.labels, slI eTy t.ty.args, slI eS t.labels, slI eTm t.args] := by
  cases t with
  | mk k s n t l a => rw [eTm, eTmL_eq]; rfl
instance : Wid eTm 8 := ⟨fun t => by rw [eTm_eta]; rfl⟩
/-- A plan. -/
inductive Pl where
  | mk (kind : Int) (var table : ByteArray) (cond : Tm) (keys : List Tm) (args : List Pl)
  deriving Inhabited
def Pl.kind : Pl → Int | .mk k _ _ _ _ _ => k
def Pl.var : Pl → ByteArray | .mk _ s _ _ _ _ => s
def Pl.table : Pl → ByteArray | .mk _ _ s _ _ _ => s
def Pl.cond : Pl → Tm | .mk _ _ _ t _ _ => t
def Pl.keys : Pl → List Tm | .mk _ _ _ _ l _ => l
def Pl.args : Pl → List Pl | .mk _ _ _ _ _ a => a
mutual
def ePl : Pl → List IV
  | .mk k s u t l a => [.sc (.int .i64 k), .sc (.string s), .sc (.string u)] ++ eTm t ++ [slI eTm l, .sl a.length (ePlL a)]
def ePlL : List Pl → List IV
  | [] => []
  | t :: r => ePl t ++ ePlL r
end
theorem ePlL_eq : ∀ (l : List Pl), ePlL l = l.flatMap ePl
  | [] => rfl
  | t :: r => by rw [ePlL, ePlL_eq r, List.flatMap_cons]
theorem ePl_eta (t : Pl) : ePl t = [.sc (.int .i64 t.kind), .sc (.string t.var), .sc (.string t.table), .sc (.int .i64 t.cond.kind), .sc (.string t.cond.name), .sc (.int .i64 t.cond.n), .sc (.int .i64 t.cond.ty.kind), slI eS t.cond.ty.labels, slI eTy t.cond.ty.args, slI eS t.cond.labels, slI eTm t.cond.args, slI eTm t.keys, slI ePl t.args] := by
  cases t with
  | mk k s u t l a => rw [ePl, ePlL_eq, eTm_eta]; rfl
instance : Wid ePl 13 := ⟨fun t => by rw [ePl_eta]; rfl⟩
/-- Products; polynomials are lists of them. -/
structure Mono where
  coef : Int
  vars : List ByteArray
def eMono (a : Mono) : List IV := [.sc (.int .i64 a.coef), slI eS a.vars]
instance : Wid eMono 2 := ⟨fun _ => rfl⟩
structure Ann where
  value : Val
  poly : List Mono
def eAnn (a : Ann) : List IV := eVal a.value ++ [slI eMono a.poly]
theorem eAnn_eta (a : Ann) : eAnn a = [.sc (.int .i64 a.value.kind), .sc (.int .i64 a.value.n), slI eS a.value.labels, slI eVal a.value.args, slI eMono a.poly] := by rw [eAnn, eVal_eta]; rfl
instance : Wid eAnn 5 := ⟨fun t => by rw [eAnn_eta]; rfl⟩
structure Decl where
  name : ByteArray
  row : Ty
def eDecl (a : Decl) : List IV := .sc (.string a.name) :: eTy a.row
theorem eDecl_eta (a : Decl) : eDecl a = [.sc (.string a.name), .sc (.int .i64 a.row.kind), slI eS a.row.labels, slI eTy a.row.args] := by rw [eDecl, eTy_eta]
instance : Wid eDecl 4 := ⟨fun t => by rw [eDecl_eta]; rfl⟩
structure TData where
  name : ByteArray
  rows : List Val
def eTData (a : TData) : List IV := [.sc (.string a.name), slI eVal a.rows]
instance : Wid eTData 2 := ⟨fun _ => rfl⟩
structure Gn where
  var : ByteArray
  table : ByteArray
def eGn (a : Gn) : List IV := [.sc (.string a.var), .sc (.string a.table)]
instance : Wid eGn 2 := ⟨fun _ => rfl⟩
structure Vw where
  table : ByteArray
  cond : Tm
  cols : List ByteArray
  key : ByteArray
def eVw (a : Vw) : List IV := .sc (.string a.table) :: (eTm a.cond ++ [slI eS a.cols, .sc (.string a.key)])
theorem eVw_eta (a : Vw) : eVw a = [.sc (.string a.table), .sc (.int .i64 a.cond.kind), .sc (.string a.cond.name), .sc (.int .i64 a.cond.n), .sc (.int .i64 a.cond.ty.kind), slI eS a.cond.ty.labels, slI eTy a.cond.ty.args, slI eS a.cond.labels, slI eTm a.cond.args, slI eS a.cols, .sc (.string a.key)] := by rw [eVw, eTm_eta]; rfl
instance : Wid eVw 11 := ⟨fun t => by rw [eVw_eta]; rfl⟩
end Go.VC
/- How much a datum counts, when it is measured: no statement of a program. -/
set_option linter.unusedSimpArgs false
set_option linter.unusedVariables false
namespace Go.VC
open Go
/-- What is left after taking. -/
def szR (n : Nat) (left : Int) : Int := if (n : Int) ≤ left then left - n else -1
theorem szR_add (n m : Nat) (l : Int) : szR m (szR n l) = szR (n + m) l := by
  unfold szR
  split <;> split <;> split <;> omega
theorem szR_le {n : Nat} {l : Int} (h : 0 ≤ l) : -1 ≤ szR n l ∧ szR n l ≤ l := by unfold szR; split <;> omega
theorem szR_sub {n : Nat} {l : Int} (h : 0 ≤ l - n) : l - n = szR n l := by unfold szR; rw [if_pos (by omega)]
theorem szR_neg {n m : Nat} {l : Int} (h : szR n l < 0) (hm : n ≤ m) : szR m l = -1 := by unfold szR at h ⊢; split at h <;> split <;> omega
theorem szR_nil {n m : Nat} {l : Int} (h : l - n < 0) (hm : n ≤ m) : szR m l = -1 := by unfold szR; split <;> omega
theorem szR_fits {n : Nat} {l : Int} (h : 0 ≤ szR n l) : (n : Int) ≤ l := by unfold szR at h; split at h <;> omega
theorem szR_spec (n : Nat) (l : Int) : ((n : Int) ≤ l ∧ szR n l = l - n) ∨ (l < n ∧ szR n l = -1) := by unfold szR; split <;> omega
def zL {α : Type} (z : α → Nat) (l : List α) : Nat := l.length + (l.map z).sum
def zT {α : Type} (z : α → Nat) (l : List α) (i : Nat) : Nat := l.length + ((l.take i).map z).sum
theorem zT_zero {α : Type} {z : α → Nat} {l : List α} : zT z l 0 = l.length := by simp [zT]
theorem zT_all {α : Type} {z : α → Nat} {l : List α} {i : Nat} (h : l.length ≤ i) : zT z l i = zL z l := by rw [zT, List.take_of_length_le h, zL]
theorem zT_succ {α : Type} {z : α → Nat} {l : List α} {i : Nat} (h : i < l.length) : zT z l (i + 1) = zT z l i + z l[i] := by
  rw [zT, zT, List.take_succ_eq_append_getElem h, List.map_append, List.sum_append]; simp; omega
theorem sum_take_le {α : Type} {z : α → Nat} : ∀ {l : List α} {i : Nat}, ((l.take i).map z).sum ≤ (l.map z).sum
  | [], i => by simp
  | a :: r, 0 => by simp
  | a :: r, i + 1 => by
    have := sum_take_le (z := z) (l := r) (i := i)
    simp only [List.take_succ_cons, List.map_cons, List.sum_cons]; omega
theorem zT_le {α : Type} {z : α → Nat} {l : List α} {i : Nat} : zT z l i ≤ zL z l := by unfold zT zL; have := sum_take_le (z := z) (l := l) (i := i); omega
theorem zL_len {α : Type} {z : α → Nat} {l : List α} : l.length ≤ zL z l := by unfold zL; omega
theorem zL_mem {α : Type} {z : α → Nat} {l : List α} {x : α} (h : x ∈ l) : z x ≤ zL z l := by
  unfold zL
  induction l with
  | nil => cases h
  | cons a r ih =>
    rcases List.mem_cons.1 h with rfl | h
    · simp only [List.map_cons, List.sum_cons]; omega
    · have := ih h; simp only [List.map_cons, List.sum_cons, List.length_cons] at *; omega
def zS (s : ByteArray) : Nat := s.size
abbrev zSL (l : List ByteArray) : Nat := zL zS l
def okS (b : Nat) (s : ByteArray) : Prop := s.size ≤ b
def ok64 (n : Int) : Prop := -9223372036854775808 ≤ n ∧ n ≤ 9223372036854775807
def okLs {α : Type} (b : Nat) (ok : Nat → α → Prop) (l : List α) : Prop := l.length ≤ b ∧ ∀ s ∈ l, ok b s
theorem okI_int {b : Nat} {n : Int} : okI b (.sc (.int .i64 n)) ↔ ok64 n := by simp [okI, okV, ok64, IntKind.min, IntKind.max, IntKind.signed, IntKind.bits]
theorem okI_str {b : Nat} {s : ByteArray} : okI b (.sc (.string s)) ↔ okS b s := by simp [okI, okV, okS]
theorem okI_L {b : Nat} {α : Type} {E : α → List IV} {l : List α} : okI b (slI E l) ↔ okLs b (fun b t => okL b (E t)) l := by simp [okI_slI, okLs]
theorem okL_nil {b : Nat} : okL b [] ↔ True := by simp [okL]
theorem okL_cons {b : Nat} {x : IV} {r : List IV} : okL b (x :: r) ↔ okI b x ∧ okL b r := by simp [okL]
theorem okS_fn : (fun b s => okL b (eS s)) = okS := by funext b s; simp [eS, okL_cons, okL_nil, okI_str]
theorem mI_int {n : Int} {k : IntKind} : mI (.sc (.int k n)) = 0 := by simp [mI, mV]
theorem mI_str {s : ByteArray} : mI (.sc (.string s)) = zS s := by simp [mI, mV, zS]
theorem mI_L {α : Type} {E : α → List IV} {l : List α} : mI (slI E l) = zL (fun x => mL (E x)) l := by rw [mI_slI, zL]
theorem mL_nil : mL [] = 0 := by simp [mL]
theorem mL_cons {x : IV} {r : List IV} : mL (x :: r) = mI x + mL r := by simp [mL]
theorem mS_fn : (fun s => mL (eS s)) = zS := by funext s; simp [eS, mL_cons, mL_nil, mI_str]
theorem okLs_at {α : Type} {b : Nat} {ok : Nat → α → Prop} {l : List α} (h : okLs b ok l) {i : Nat} (hi : i < l.length) : ok b l[i] := h.2 _ (List.getElem_mem hi)
def okTy (b : Nat) (t : Ty) : Prop := okL b (eTy t)
theorem okTy_fn : (fun b t => okL b (eTy t)) = okTy := rfl
def zTy (t : Ty) : Nat := mL (eTy t)
theorem mTy_fn : (fun t => mL (eTy t)) = zTy := rfl
theorem okTy_down {B b : Nat} {t : Ty} (h : okTy B t) (g : zTy t ≤ b) : okTy b t := okL_down h g
theorem okTy_iff {b : Nat} {t : Ty} : okTy b t ↔ ok64 t.kind ∧ okLs b okS t.labels ∧ okLs b okTy t.args := by
  conv => lhs; unfold okTy
  rw [eTy_eta]; simp only [okL_cons, okL_nil, okI_int, okI_str, okI_L, okS_fn, okTy_fn, and_true, and_assoc]
theorem zTy_eta (t : Ty) : zTy t = zSL t.labels + zL zTy t.args := by
  conv => lhs; unfold zTy
  rw [eTy_eta]; simp only [mL_cons, mL_nil, mI_int, mI_str, mI_L, mS_fn, mTy_fn, zSL, Nat.zero_add, Nat.add_zero, Nat.add_assoc]
def okVal (b : Nat) (t : Val) : Prop := okL b (eVal t)
theorem okVal_fn : (fun b t => okL b (eVal t)) = okVal := rfl
def zVal (t : Val) : Nat := mL (eVal t)
theorem mVal_fn : (fun t => mL (eVal t)) = zVal := rfl
theorem okVal_down {B b : Nat} {t : Val} (h : okVal B t) (g : zVal t ≤ b) : okVal b t := okL_down h g
theorem okVal_iff {b : Nat} {t : Val} : okVal b t ↔ ok64 t.kind ∧ ok64 t.n ∧ okLs b okS t.labels ∧ okLs b okVal t.args := by
  conv => lhs; unfold okVal
  rw [eVal_eta]; simp only [okL_cons, okL_nil, okI_int, okI_str, okI_L, okS_fn, okTy_fn, okVal_fn, and_true, and_assoc]
theorem zVal_eta (t : Val) : zVal t = zSL t.labels + zL zVal t.args := by
  conv => lhs; unfold zVal
  rw [eVal_eta]; simp only [mL_cons, mL_nil, mI_int, mI_str, mI_L, mS_fn, mTy_fn, mVal_fn, zSL, Nat.zero_add, Nat.add_zero, Nat.add_assoc]
def okTm (b : Nat) (t : Tm) : Prop := okL b (eTm t)
theorem okTm_fn : (fun b t => okL b (eTm t)) = okTm := rfl
def zTm (t : Tm) : Nat := mL (eTm t)
theorem mTm_fn : (fun t => mL (eTm t)) = zTm := rfl
theorem okTm_down {B b : Nat} {t : Tm} (h : okTm B t) (g : zTm t ≤ b) : okTm b t := okL_down h g
theorem okTm_iff {b : Nat} {t : Tm} : okTm b t ↔ ok64 t.kind ∧ okS b t.name ∧ ok64 t.n ∧ okTy b t.ty ∧ okLs b okS t.labels ∧ okLs b okTm t.args := by
  conv => lhs; unfold okTm
  rw [eTm_eta, okTy_iff]; simp only [okL_cons, okL_nil, okI_int, okI_str, okI_L, okS_fn, okTy_fn, okVal_fn, okTm_fn, and_true, and_assoc]
theorem zTm_eta (t : Tm) : zTm t = zS t.name + zTy t.ty + zSL t.labels + zL zTm t.args := by
  conv => lhs; unfold zTm
  rw [eTm_eta, zTy_eta]; simp only [mL_cons, mL_nil, mI_int, mI_str, mI_L, mS_fn, mTy_fn, mVal_fn, mTm_fn, zSL, Nat.zero_add, Nat.add_zero, Nat.add_assoc]
def okPl (b : Nat) (t : Pl) : Prop := okL b (ePl t)
theorem okPl_fn : (fun b t => okL b (ePl t)) = okPl := rfl
def zPl (t : Pl) : Nat := mL (ePl t)
theorem mPl_fn : (fun t => mL (ePl t)) = zPl := rfl
theorem okPl_down {B b : Nat} {t : Pl} (h : okPl B t) (g : zPl t ≤ b) : okPl b t := okL_down h g
theorem okPl_iff {b : Nat} {t : Pl} : okPl b t ↔ ok64 t.kind ∧ okS b t.var ∧ okS b t.table ∧ okTm b t.cond ∧ okLs b okTm t.keys ∧ okLs b okPl t.args := by
  conv => lhs; unfold okPl
  rw [ePl_eta, okTm_iff, okTy_iff]; simp only [okL_cons, okL_nil, okI_int, okI_str, okI_L, okS_fn, okTy_fn, okVal_fn, okTm_fn, okPl_fn, and_true, and_assoc]
theorem zPl_eta (t : Pl) : zPl t = zS t.var + zS t.table + zTm t.cond + zL zTm t.keys + zL zPl t.args := by
  conv => lhs; unfold zPl
  rw [ePl_eta, zTm_eta, zTy_eta]; simp only [mL_cons, mL_nil, mI_int, mI_str, mI_L, mS_fn, mTy_fn, mVal_fn, mTm_fn, mPl_fn, zSL, Nat.zero_add, Nat.add_zero, Nat.add_assoc]
def okMono (b : Nat) (t : Mono) : Prop := okL b (eMono t)
theorem okMono_fn : (fun b t => okL b (eMono t)) = okMono := rfl
def zMono (t : Mono) : Nat := mL (eMono t)
theorem mMono_fn : (fun t => mL (eMono t)) = zMono := rfl
theorem okMono_down {B b : Nat} {t : Mono} (h : okMono B t) (g : zMono t ≤ b) : okMono b t := okL_down h g
theorem okMono_iff {b : Nat} {t : Mono} : okMono b t ↔ ok64 t.coef ∧ okLs b okS t.vars := by
  conv => lhs; unfold okMono
  rw [eMono]; simp only [okL_cons, okL_nil, okI_int, okI_str, okI_L, okS_fn, okTy_fn, okVal_fn, okTm_fn, okPl_fn, okMono_fn, and_true, and_assoc]
theorem zMono_eta (t : Mono) : zMono t = zSL t.vars := by
  conv => lhs; unfold zMono
  rw [eMono]; simp only [mL_cons, mL_nil, mI_int, mI_str, mI_L, mS_fn, mTy_fn, mVal_fn, mTm_fn, mPl_fn, mMono_fn, zSL, Nat.zero_add, Nat.add_zero, Nat.add_assoc]
def okAnn (b : Nat) (t : Ann) : Prop := okL b (eAnn t)
theorem okAnn_fn : (fun b t => okL b (eAnn t)) = okAnn := rfl
def zAnn (t : Ann) : Nat := mL (eAnn t)
theorem mAnn_fn : (fun t => mL (eAnn t)) = zAnn := rfl
theorem okAnn_down {B b : Nat} {t : Ann} (h : okAnn B t) (g : zAnn t ≤ b) : okAnn b t := okL_down h g
theorem okAnn_iff0 {b : Nat} {t : Ann} : okAnn b t ↔ okVal b t.value ∧ okLs b okMono t.poly := by
  conv => lhs; unfold okAnn
  rw [eAnn_eta, okVal_iff]; simp only [okL_cons, okL_nil, okI_int, okI_str, okI_L, okS_fn, okTy_fn, okVal_fn, okTm_fn, okPl_fn, okMono_fn, okAnn_fn, and_true, and_assoc]
theorem zAnn_eta0 (t : Ann) : zAnn t = zVal t.value + zL zMono t.poly := by
  conv => lhs; unfold zAnn
  rw [eAnn_eta, zVal_eta]; simp only [mL_cons, mL_nil, mI_int, mI_str, mI_L, mS_fn, mTy_fn, mVal_fn, mTm_fn, mPl_fn, mMono_fn, mAnn_fn, zSL, Nat.zero_add, Nat.add_zero, Nat.add_assoc]
def okDecl (b : Nat) (t : Decl) : Prop := okL b (eDecl t)
theorem okDecl_fn : (fun b t => okL b (eDecl t)) = okDecl := rfl
def zDecl (t : Decl) : Nat := mL (eDecl t)
theorem mDecl_fn : (fun t => mL (eDecl t)) = zDecl := rfl
theorem okDecl_down {B b : Nat} {t : Decl} (h : okDecl B t) (g : zDecl t ≤ b) : okDecl b t := okL_down h g
theorem okDecl_iff {b : Nat} {t : Decl} : okDecl b t ↔ okS b t.name ∧ okTy b t.row := by
  conv => lhs; unfold okDecl
  rw [eDecl_eta, okTy_iff]; simp only [okL_cons, okL_nil, okI_int, okI_str, okI_L, okS_fn, okTy_fn, okVal_fn, okTm_fn, okPl_fn, okMono_fn, okAnn_fn, okDecl_fn, and_true, and_assoc]
theorem zDecl_eta (t : Decl) : zDecl t = zS t.name + zTy t.row := by
  conv => lhs; unfold zDecl
  rw [eDecl_eta, zTy_eta]; simp only [mL_cons, mL_nil, mI_int, mI_str, mI_L, mS_fn, mTy_fn, mVal_fn, mTm_fn, mPl_fn, mMono_fn, mAnn_fn, mDecl_fn, zSL, Nat.zero_add, Nat.add_zero, Nat.add_assoc]
def okTData (b : Nat) (t : TData) : Prop := okL b (eTData t)
theorem okTData_fn : (fun b t => okL b (eTData t)) = okTData := rfl
def zTData (t : TData) : Nat := mL (eTData t)
theorem mTData_fn : (fun t => mL (eTData t)) = zTData := rfl
theorem okTData_down {B b : Nat} {t : TData} (h : okTData B t) (g : zTData t ≤ b) : okTData b t := okL_down h g
theorem okTData_iff {b : Nat} {t : TData} : okTData b t ↔ okS b t.name ∧ okLs b okVal t.rows := by
  conv => lhs; unfold okTData
  rw [eTData]; simp only [okL_cons, okL_nil, okI_int, okI_str, okI_L, okS_fn, okTy_fn, okVal_fn, okTm_fn, okPl_fn, okMono_fn, okAnn_fn, okDecl_fn, okTData_fn, and_true, and_assoc]
theorem zTData_eta (t : TData) : zTData t = zS t.name + zL zVal t.rows := by
  conv => lhs; unfold zTData
  rw [eTData]; simp only [mL_cons, mL_nil, mI_int, mI_str, mI_L, mS_fn, mTy_fn, mVal_fn, mTm_fn, mPl_fn, mMono_fn, mAnn_fn, mDecl_fn, mTData_fn, zSL, Nat.zero_add, Nat.add_zero, Nat.add_assoc]
def okGn (b : Nat) (t : Gn) : Prop := okL b (eGn t)
theorem okGn_fn : (fun b t => okL b (eGn t)) = okGn := rfl
def zGn (t : Gn) : Nat := mL (eGn t)
theorem mGn_fn : (fun t => mL (eGn t)) = zGn := rfl
theorem okGn_down {B b : Nat} {t : Gn} (h : okGn B t) (g : zGn t ≤ b) : okGn b t := okL_down h g
theorem okGn_iff {b : Nat} {t : Gn} : okGn b t ↔ okS b t.var ∧ okS b t.table := by
  conv => lhs; unfold okGn
  rw [eGn]; simp only [okL_cons, okL_nil, okI_int, okI_str, okI_L, okS_fn, okTy_fn, okVal_fn, okTm_fn, okPl_fn, okMono_fn, okAnn_fn, okDecl_fn, okTData_fn, okGn_fn, and_true, and_assoc]
theorem zGn_eta (t : Gn) : zGn t = zS t.var + zS t.table := by
  conv => lhs; unfold zGn
  rw [eGn]; simp only [mL_cons, mL_nil, mI_int, mI_str, mI_L, mS_fn, mTy_fn, mVal_fn, mTm_fn, mPl_fn, mMono_fn, mAnn_fn, mDecl_fn, mTData_fn, mGn_fn, zSL, Nat.zero_add, Nat.add_zero, Nat.add_assoc]
def okVw (b : Nat) (t : Vw) : Prop := okL b (eVw t)
theorem okVw_fn : (fun b t => okL b (eVw t)) = okVw := rfl
def zVw (t : Vw) : Nat := mL (eVw t)
theorem mVw_fn : (fun t => mL (eVw t)) = zVw := rfl
theorem okVw_down {B b : Nat} {t : Vw} (h : okVw B t) (g : zVw t ≤ b) : okVw b t := okL_down h g
theorem okVw_iff {b : Nat} {t : Vw} : okVw b t ↔ okS b t.table ∧ okTm b t.cond ∧ okLs b okS t.cols ∧ okS b t.key := by
  conv => lhs; unfold okVw
  rw [eVw_eta, okTm_iff, okTy_iff]; simp only [okL_cons, okL_nil, okI_int, okI_str, okI_L, okS_fn, okTy_fn, okVal_fn, okTm_fn, okPl_fn, okMono_fn, okAnn_fn, okDecl_fn, okTData_fn, okGn_fn, okVw_fn, and_true, and_assoc]
theorem zVw_eta (t : Vw) : zVw t = zS t.table + zTm t.cond + zSL t.cols + zS t.key := by
  conv => lhs; unfold zVw
  rw [eVw_eta, zTm_eta, zTy_eta]; simp only [mL_cons, mL_nil, mI_int, mI_str, mI_L, mS_fn, mTy_fn, mVal_fn, mTm_fn, mPl_fn, mMono_fn, mAnn_fn, mDecl_fn, mTData_fn, mGn_fn, mVw_fn, zSL, Nat.zero_add, Nat.add_zero, Nat.add_assoc]
theorem Ty.mem {t u : Ty} (h : u ∈ t.args) : SizeOf.sizeOf u < SizeOf.sizeOf t := by
  cases t with
  | mk k l a => have := List.sizeOf_lt_of_mem h; simp only [Ty.mk.sizeOf_spec, Ty.args] at *; omega
theorem Val.mem {t u : Val} (h : u ∈ t.args) : SizeOf.sizeOf u < SizeOf.sizeOf t := by
  cases t with
  | mk k n l a => have := List.sizeOf_lt_of_mem h; simp only [Val.mk.sizeOf_spec, Val.args] at *; omega
theorem Tm.mem {t u : Tm} (h : u ∈ t.args) : SizeOf.sizeOf u < SizeOf.sizeOf t := by
  cases t with
  | mk k s n t l a => have := List.sizeOf_lt_of_mem h; simp only [Tm.mk.sizeOf_spec, Tm.args] at *; omega
theorem Pl.mem {t u : Pl} (h : u ∈ t.args) : SizeOf.sizeOf u < SizeOf.sizeOf t := by
  cases t with
  | mk k s n t l a => have := List.sizeOf_lt_of_mem h; simp only [Pl.mk.sizeOf_spec, Pl.args] at *; omega
def ePoly (l : List Mono) : List IV := [slI eMono l]
theorem ePoly_eta (l : List Mono) : ePoly l = [slI eMono l] := rfl
instance : Wid ePoly 1 := ⟨fun _ => rfl⟩
def okPoly (b : Nat) (t : List Mono) : Prop := okL b (ePoly t)
theorem okPoly_fn : (fun b t => okL b (ePoly t)) = okPoly := rfl
def zPoly (t : List Mono) : Nat := mL (ePoly t)
theorem mPoly_fn : (fun t => mL (ePoly t)) = zPoly := rfl
theorem okPoly_down {B b : Nat} {t : List Mono} (h : okPoly B t) (g : zPoly t ≤ b) : okPoly b t := okL_down h g
theorem okPoly_iff {b : Nat} {t : List Mono} : okPoly b t ↔ okLs b okMono t := by
  conv => lhs; unfold okPoly
  rw [ePoly]; simp only [okL_cons, okL_nil, okI_L, okMono_fn, and_true]
theorem zPoly_eta (t : List Mono) : zPoly t = zL zMono t := by
  conv => lhs; unfold zPoly
  rw [ePoly]; simp only [mL_cons, mL_nil, mI_L, mMono_fn, Nat.add_zero]
def eSch (l : List Decl) : List IV := [slI eDecl l]
theorem eSch_eta (l : List Decl) : eSch l = [slI eDecl l] := rfl
instance : Wid eSch 1 := ⟨fun _ => rfl⟩
def okSch (b : Nat) (t : List Decl) : Prop := okL b (eSch t)
theorem okSch_fn : (fun b t => okL b (eSch t)) = okSch := rfl
def zSch (t : List Decl) : Nat := mL (eSch t)
theorem mSch_fn : (fun t => mL (eSch t)) = zSch := rfl
theorem okSch_down {B b : Nat} {t : List Decl} (h : okSch B t) (g : zSch t ≤ b) : okSch b t := okL_down h g
theorem okSch_iff {b : Nat} {t : List Decl} : okSch b t ↔ okLs b okDecl t := by
  conv => lhs; unfold okSch
  rw [eSch]; simp only [okL_cons, okL_nil, okI_L, okDecl_fn, and_true]
theorem zSch_eta (t : List Decl) : zSch t = zL zDecl t := by
  conv => lhs; unfold zSch
  rw [eSch]; simp only [mL_cons, mL_nil, mI_L, mDecl_fn, Nat.add_zero]
def eDbs (l : List TData) : List IV := [slI eTData l]
theorem eDbs_eta (l : List TData) : eDbs l = [slI eTData l] := rfl
instance : Wid eDbs 1 := ⟨fun _ => rfl⟩
def okDbs (b : Nat) (t : List TData) : Prop := okL b (eDbs t)
theorem okDbs_fn : (fun b t => okL b (eDbs t)) = okDbs := rfl
def zDbs (t : List TData) : Nat := mL (eDbs t)
theorem mDbs_fn : (fun t => mL (eDbs t)) = zDbs := rfl
theorem okDbs_down {B b : Nat} {t : List TData} (h : okDbs B t) (g : zDbs t ≤ b) : okDbs b t := okL_down h g
theorem okDbs_iff {b : Nat} {t : List TData} : okDbs b t ↔ okLs b okTData t := by
  conv => lhs; unfold okDbs
  rw [eDbs]; simp only [okL_cons, okL_nil, okI_L, okTData_fn, and_true]
theorem zDbs_eta (t : List TData) : zDbs t = zL zTData t := by
  conv => lhs; unfold zDbs
  rw [eDbs]; simp only [mL_cons, mL_nil, mI_L, mTData_fn, Nat.add_zero]
theorem okAnn_iff {b : Nat} {t : Ann} : okAnn b t ↔ okVal b t.value ∧ okPoly b t.poly := by rw [okPoly_iff, okAnn_iff0]
theorem zAnn_eta (t : Ann) : zAnn t = zVal t.value + zPoly t.poly := by rw [zPoly_eta, zAnn_eta0]
theorem eMono_eta (t : Mono) : eMono t = [.sc (.int .i64 t.coef), slI eS t.vars] := rfl
theorem eTData_eta (t : TData) : eTData t = [.sc (.string t.name), slI eVal t.rows] := rfl
theorem eGn_eta (t : Gn) : eGn t = [.sc (.string t.var), .sc (.string t.table)] := rfl
/-- A key. -/
structure Kd where
  table : ByteArray
  label : ByteArray
def eKd (a : Kd) : List IV := [.sc (.string a.table), .sc (.string a.label)]
theorem eKd_eta (t : Kd) : eKd t = [.sc (.string t.table), .sc (.string t.label)] := rfl
instance : Wid eKd 2 := ⟨fun _ => rfl⟩
def okKd (b : Nat) (t : Kd) : Prop := okL b (eKd t)
def zKd (t : Kd) : Nat := mL (eKd t)
theorem okKd_down {B b : Nat} {t : Kd} (h : okKd B t) (g : zKd t ≤ b) : okKd b t := okL_down h g
theorem okKd_iff {b : Nat} {t : Kd} : okKd b t ↔ okS b t.table ∧ okS b t.label := by
  conv => lhs; unfold okKd
  rw [eKd]; simp only [okL_cons, okL_nil, okI_str, and_true]
theorem zKd_eta (t : Kd) : zKd t = zS t.table + zS t.label := by
  conv => lhs; unfold zKd
  rw [eKd]; simp only [mL_cons, mL_nil, mI_str, Nat.add_zero]
/-- What a session holds. -/
structure Ses where
  schema : List Decl
  db : List TData
  query : Tm
  other : Tm
def eSes (a : Ses) : List IV := slI eDecl a.schema :: slI eTData a.db :: (eTm a.query ++ eTm a.other)
theorem eSes_eta (a : Ses) : eSes a = [slI eDecl a.schema, slI eTData a.db, .sc (.int .i64 a.query.kind), .sc (.string a.query.name), .sc (.int .i64 a.query.n), .sc (.int .i64 a.query.ty.kind), slI eS a.query.ty.labels, slI eTy a.query.ty.args, slI eS a.query.labels, slI eTm a.query.args, .sc (.int .i64 a.other.kind), .sc (.string a.other.name), .sc (.int .i64 a.other.n), .sc (.int .i64 a.other.ty.kind), slI eS a.other.ty.labels, slI eTy a.other.ty.args, slI eS a.other.labels, slI eTm a.other.args] := by rw [eSes, eTm_eta, eTm_eta]; rfl
instance : Wid eSes 18 := ⟨fun t => by rw [eSes_eta]; rfl⟩
def okSes (b : Nat) (t : Ses) : Prop := okL b (eSes t)
def zSes (t : Ses) : Nat := mL (eSes t)
theorem okSes_down {B b : Nat} {t : Ses} (h : okSes B t) (g : zSes t ≤ b) : okSes b t := okL_down h g
theorem okSes_iff {b : Nat} {t : Ses} : okSes b t ↔ okSch b t.schema ∧ okDbs b t.db ∧ okTm b t.query ∧ okTm b t.other := by
  conv => lhs; unfold okSes
  rw [eSes]; simp only [okL_cons, okL_append, okI_L, okDecl_fn, okTData_fn, okTm, okSch_iff, okDbs_iff]
theorem zSes_eta (t : Ses) : zSes t = zSch t.schema + zDbs t.db + zTm t.query + zTm t.other := by
  conv => lhs; unfold zSes
  rw [eSes]; simp only [mL_cons, mL_append, mI_L, mDecl_fn, mTData_fn, zTm, zSch_eta, zDbs_eta, Nat.add_assoc]
end Go.VC
/- When data are equal: no statement of a program. -/
set_option linter.unusedVariables false
namespace Go.VC
open Go
noncomputable instance : DecidableEq Ty := fun a b => Classical.propDecidable _
noncomputable instance : DecidableEq Val := fun a b => Classical.propDecidable _
noncomputable instance : DecidableEq Tm := fun a b => Classical.propDecidable _
noncomputable instance : DecidableEq Pl := fun a b => Classical.propDecidable _
noncomputable instance : DecidableEq Mono := fun a b => Classical.propDecidable _
noncomputable instance : DecidableEq Ann := fun a b => Classical.propDecidable _
noncomputable instance : DecidableEq Decl := fun a b => Classical.propDecidable _
noncomputable instance : DecidableEq TData := fun a b => Classical.propDecidable _
noncomputable instance : DecidableEq Vw := fun a b => Classical.propDecidable _
noncomputable instance : DecidableEq Ses := fun a b => Classical.propDecidable _
theorem Ty.ext {t u : Ty} (h1 : t.kind = u.kind) (h2 : t.labels = u.labels) (h3 : t.args = u.args) : t = u := by
  cases t; cases u; simp_all [Ty.kind, Ty.labels, Ty.args]
theorem Val.ext {t u : Val} (h1 : t.kind = u.kind) (h0 : t.n = u.n) (h2 : t.labels = u.labels) (h3 : t.args = u.args) : t = u := by
  cases t; cases u; simp_all [Val.kind, Val.n, Val.labels, Val.args]
theorem Tm.ext {t u : Tm} (h1 : t.kind = u.kind) (h4 : t.name = u.name) (h0 : t.n = u.n) (h5 : t.ty = u.ty) (h2 : t.labels = u.labels) (h3 : t.args = u.args) : t = u := by
  cases t; cases u; simp_all [Tm.kind, Tm.name, Tm.n, Tm.ty, Tm.labels, Tm.args]
theorem Mono.ext {t u : Mono} (h1 : t.coef = u.coef) (h2 : t.vars = u.vars) : t = u := by cases t; cases u; simp_all
theorem Ann.ext {t u : Ann} (h1 : t.value = u.value) (h2 : t.poly = u.poly) : t = u := by cases t; cases u; simp_all
theorem Decl.ext {t u : Decl} (h1 : t.name = u.name) (h2 : t.row = u.row) : t = u := by cases t; cases u; simp_all
theorem TData.ext {t u : TData} (h1 : t.name = u.name) (h2 : t.rows = u.rows) : t = u := by cases t; cases u; simp_all
theorem Vw.ext {t u : Vw} (h1 : t.table = u.table) (h2 : t.cond = u.cond) (h3 : t.cols = u.cols) (h4 : t.key = u.key) : t = u := by cases t; cases u; simp_all
theorem Ses.ext {t u : Ses} (h1 : t.schema = u.schema) (h2 : t.db = u.db) (h3 : t.query = u.query) (h4 : t.other = u.other) : t = u := by cases t; cases u; simp_all
theorem take_all {α : Type} {xs ys : List α} {i : Nat} (h : xs.take i = ys.take i) (hl : xs.length = ys.length) (hi : xs.length ≤ i) : xs = ys := by
  rw [List.take_of_length_le hi, List.take_of_length_le (by omega)] at h; exact h
theorem ne_len {α : Type} {xs ys : List α} (h : ¬ xs.length = ys.length) : xs ≠ ys := fun e => h (by rw [e])
theorem ne_at {α : Type} {xs ys : List α} {i : Nat} (hx : i < xs.length) (hy : i < ys.length) (h : ¬ xs[i] = ys[i]) : xs ≠ ys := fun e => h (by subst e; rfl)
end Go.VC
/- Heads, comprehensions, queries, as trees: no statement of a program. -/
set_option linter.unusedSimpArgs false
set_option linter.unusedVariables false
namespace Go.VC
open Go
mutual
/-- A head. -/
inductive Hd where
  | mk (kind : Int) (term : Tm) (labels : List ByteArray) (parts : List Hd) (query : List Cmp)
/-- A comprehension. -/
inductive Cmp where
  | mk (gens : List Gn) (wh : Tm) (head : Hd)
end
def Hd.kind : Hd → Int | .mk k _ _ _ _ => k
def Hd.term : Hd → Tm | .mk _ t _ _ _ => t
def Hd.labels : Hd → List ByteArray | .mk _ _ l _ _ => l
def Hd.parts : Hd → List Hd | .mk _ _ _ p _ => p
def Hd.query : Hd → List Cmp | .mk _ _ _ _ q => q
def Cmp.gens : Cmp → List Gn | .mk g _ _ => g
def Cmp.wh : Cmp → Tm | .mk _ w _ => w
def Cmp.head : Cmp → Hd | .mk _ _ h => h
instance : Inhabited Hd := ⟨.mk 0 default [] [] []⟩
instance : Inhabited Cmp := ⟨.mk [] default default⟩
mutual
def eHd : Hd → List IV
  | .mk k t l p q => [.sc (.int .i64 k)] ++ (eTm t ++ [slI eS l, .sl p.length (eHdL p), .sl q.length (eCmpL q)])
def eHdL : List Hd → List IV
  | [] => []
  | t :: r => eHd t ++ eHdL r
def eCmp : Cmp → List IV
  | .mk g w h => [slI eGn g] ++ (eTm w ++ eHd h)
def eCmpL : List Cmp → List IV
  | [] => []
  | t :: r => eCmp t ++ eCmpL r
end
theorem eHdL_eq : ∀ (l : List Hd), eHdL l = l.flatMap eHd
  | [] => by rw [eHdL]; rfl
  | t :: r => by rw [eHdL, eHdL_eq r, List.flatMap_cons]
theorem eCmpL_eq : ∀ (l : List Cmp), eCmpL l = l.flatMap eCmp
  | [] => by rw [eCmpL]; rfl
  | t :: r => by rw [eCmpL, eCmpL_eq r, List.flatMap_cons]
theorem eHd_app (t : Hd) : eHd t = [.sc (.int .i64 t.kind)] ++ (eTm t.term ++ ([slI eS t.labels, slI eHd t.parts, slI eCmp t.query])) := by
  cases t with
  | mk k t l p q => rw [eHd, eHdL_eq, eCmpL_eq]; rfl
theorem eCmp_app (t : Cmp) : eCmp t = [slI eGn t.gens] ++ (eTm t.wh ++ (eHd t.head)) := by
  cases t with
  | mk g w h => rw [eCmp]; rfl
theorem eHd_eta (t : Hd) : eHd t = [.sc (.int .i64 t.kind), .sc (.int .i64 t.term.kind), .sc (.string t.term.name), .sc (.int .i64 t.term.n), .sc (.int .i64 t.term.ty.kind), slI eS t.term.ty.labels, slI eTy t.term.ty.args, slI eS t.term.labels, slI eTm t.term.args, slI eS t.labels, slI eHd t.parts, slI eCmp t.query] := by rw [eHd_app, eTm_eta]; rfl
theorem eCmp_eta (t : Cmp) : eCmp t = [slI eGn t.gens, .sc (.int .i64 t.wh.kind), .sc (.string t.wh.name), .sc (.int .i64 t.wh.n), .sc (.int .i64 t.wh.ty.kind), slI eS t.wh.ty.labels, slI eTy t.wh.ty.args, slI eS t.wh.labels, slI eTm t.wh.args, .sc (.int .i64 t.head.kind), .sc (.int .i64 t.head.term.kind), .sc (.string t.head.term.name), .sc (.int .i64 t.head.term.n), .sc (.int .i64 t.head.term.ty.kind), slI eS t.head.term.ty.labels, slI eTy t.head.term.ty.args, slI eS t.head.term.labels, slI eTm t.head.term.args, slI eS t.head.labels, slI eHd t.head.parts, slI eCmp t.head.query] := by rw [eCmp_app, eTm_eta, eHd_eta]; rfl
instance : Wid eHd 12 := ⟨fun t => by rw [eHd_eta]; rfl⟩
instance : Wid eCmp 21 := ⟨fun t => by rw [eCmp_eta]; rfl⟩
def okHd (b : Nat) (t : Hd) : Prop := okL b (eHd t)
theorem okHd_fn : (fun b t => okL b (eHd t)) = okHd := rfl
def zHd (t : Hd) : Nat := mL (eHd t)
theorem mHd_fn : (fun t => mL (eHd t)) = zHd := rfl
theorem okHd_down {B b : Nat} {t : Hd} (h : okHd B t) (g : zHd t ≤ b) : okHd b t := okL_down h g
def okCmp (b : Nat) (t : Cmp) : Prop := okL b (eCmp t)
theorem okCmp_fn : (fun b t => okL b (eCmp t)) = okCmp := rfl
def zCmp (t : Cmp) : Nat := mL (eCmp t)
theorem mCmp_fn : (fun t => mL (eCmp t)) = zCmp := rfl
theorem okCmp_down {B b : Nat} {t : Cmp} (h : okCmp B t) (g : zCmp t ≤ b) : okCmp b t := okL_down h g
theorem okHd_iff {b : Nat} {t : Hd} : okHd b t ↔ ok64 t.kind ∧ okTm b t.term ∧ okLs b okS t.labels ∧ okLs b okHd t.parts ∧ okLs b okCmp t.query := by
  conv => lhs; unfold okHd
  rw [eHd_app]; simp only [okL_append, okL_cons, okL_nil, okI_int, okI_str, okI_L, okS_fn, okTy_fn, okVal_fn, okTm_fn, okPl_fn, okMono_fn, okAnn_fn, okDecl_fn, okTData_fn, okGn_fn, okHd_fn, okCmp_fn, and_true, true_and, and_assoc, okTm]
theorem zHd_eta (t : Hd) : zHd t = zTm t.term + zSL t.labels + zL zHd t.parts + zL zCmp t.query := by
  conv => lhs; unfold zHd
  rw [eHd_app]; simp only [mL_append, mL_cons, mL_nil, mI_int, mI_str, mI_L, mS_fn, mTy_fn, mVal_fn, mTm_fn, mPl_fn, mMono_fn, mAnn_fn, mDecl_fn, mTData_fn, mGn_fn, mHd_fn, mCmp_fn, zSL, Nat.zero_add, Nat.add_zero, Nat.add_assoc, zTm]
theorem okCmp_iff {b : Nat} {t : Cmp} : okCmp b t ↔ okLs b okGn t.gens ∧ okTm b t.wh ∧ okHd b t.head := by
  conv => lhs; unfold okCmp
  rw [eCmp_app]; simp only [okL_append, okL_cons, okL_nil, okI_int, okI_str, okI_L, okS_fn, okTy_fn, okVal_fn, okTm_fn, okPl_fn, okMono_fn, okAnn_fn, okDecl_fn, okTData_fn, okGn_fn, okHd_fn, okCmp_fn, and_true, true_and, and_assoc, okTm, okHd]
theorem zCmp_eta (t : Cmp) : zCmp t = zL zGn t.gens + zTm t.wh + zHd t.head := by
  conv => lhs; unfold zCmp
  rw [eCmp_app]; simp only [mL_append, mL_cons, mL_nil, mI_int, mI_str, mI_L, mS_fn, mTy_fn, mVal_fn, mTm_fn, mPl_fn, mMono_fn, mAnn_fn, mDecl_fn, mTData_fn, mGn_fn, mHd_fn, mCmp_fn, zSL, Nat.zero_add, Nat.add_zero, Nat.add_assoc, zTm, zHd]
/-- A query: its comprehensions. -/
def eQr (l : List Cmp) : List IV := [slI eCmp l]
theorem eQr_eta (l : List Cmp) : eQr l = [slI eCmp l] := rfl
instance : Wid eQr 1 := ⟨fun _ => rfl⟩
def okQr (b : Nat) (t : List Cmp) : Prop := okL b (eQr t)
theorem okQr_fn : (fun b t => okL b (eQr t)) = okQr := rfl
def zQr (t : List Cmp) : Nat := mL (eQr t)
theorem mQr_fn : (fun t => mL (eQr t)) = zQr := rfl
theorem okQr_down {B b : Nat} {t : List Cmp} (h : okQr B t) (g : zQr t ≤ b) : okQr b t := okL_down h g
theorem okQr_iff {b : Nat} {t : List Cmp} : okQr b t ↔ okLs b okCmp t := by
  conv => lhs; unfold okQr
  rw [eQr]; simp only [okL_cons, okL_nil, okI_L, okCmp_fn, and_true]
theorem zQr_eta (t : List Cmp) : zQr t = zL zCmp t := by
  conv => lhs; unfold zQr
  rw [eQr]; simp only [mL_cons, mL_nil, mI_L, mCmp_fn, Nat.add_zero]
theorem okHd_iff' {b : Nat} {t : Hd} : okHd b t ↔ ok64 t.kind ∧ okTm b t.term ∧ okLs b okS t.labels ∧ okLs b okHd t.parts ∧ okQr b t.query := by rw [okHd_iff, okQr_iff]
theorem zHd_eta' (t : Hd) : zHd t = zTm t.term + zSL t.labels + zL zHd t.parts + zQr t.query := by rw [zHd_eta, zQr_eta]
theorem Hd.ext {t u : Hd} (h1 : t.kind = u.kind) (h2 : t.term = u.term) (h3 : t.labels = u.labels) (h4 : t.parts = u.parts) (h5 : t.query = u.query) : t = u := by
  cases t; cases u; simp_all [Hd.kind, Hd.term, Hd.labels, Hd.parts, Hd.query]
theorem Cmp.ext {t u : Cmp} (h1 : t.gens = u.gens) (h2 : t.wh = u.wh) (h3 : t.head = u.head) : t = u := by
  cases t; cases u; simp_all [Cmp.gens, Cmp.wh, Cmp.head]
noncomputable instance : DecidableEq Hd := fun a b => Classical.propDecidable _
noncomputable instance : DecidableEq Cmp := fun a b => Classical.propDecidable _
theorem Hd.memP {t u : Hd} (h : u ∈ t.parts) : SizeOf.sizeOf u < SizeOf.sizeOf t := by
  cases t with
  | mk k t l p q => have := List.sizeOf_lt_of_mem h; simp only [Hd.mk.sizeOf_spec, Hd.parts] at *; omega
theorem Hd.memQ {t : Hd} {c : Cmp} (h : c ∈ t.query) : SizeOf.sizeOf c < SizeOf.sizeOf t := by
  cases t with
  | mk k t l p q => have := List.sizeOf_lt_of_mem h; simp only [Hd.mk.sizeOf_spec, Hd.query] at *; omega
theorem Cmp.memH (c : Cmp) : SizeOf.sizeOf c.head < SizeOf.sizeOf c := by
  cases c with
  | mk g w h => simp only [Cmp.mk.sizeOf_spec, Cmp.head]; omega
end Go.VC
/- Flat data, as trees: no statement of a program. -/
set_option linter.unusedSimpArgs false
set_option linter.unusedVariables false
namespace Go.VC
open Go
/-- A flat comprehension. -/
structure FC where
  outer : Int
  outerGens : Int
  tag : Int
  gens : List Gn
  wh : Tm
  cols : List Tm
def eFC (a : FC) : List IV := [.sc (.int .i64 a.outer), .sc (.int .i64 a.outerGens), .sc (.int .i64 a.tag), slI eGn a.gens] ++ (eTm a.wh ++ ([slI eTm a.cols]))
theorem eFC_app (a : FC) : eFC a = [.sc (.int .i64 a.outer), .sc (.int .i64 a.outerGens), .sc (.int .i64 a.tag), slI eGn a.gens] ++ (eTm a.wh ++ ([slI eTm a.cols])) := rfl
theorem eFC_eta (a : FC) : eFC a = [.sc (.int .i64 a.outer), .sc (.int .i64 a.outerGens), .sc (.int .i64 a.tag), slI eGn a.gens, .sc (.int .i64 a.wh.kind), .sc (.string a.wh.name), .sc (.int .i64 a.wh.n), .sc (.int .i64 a.wh.ty.kind), slI eS a.wh.ty.labels, slI eTy a.wh.ty.args, slI eS a.wh.labels, slI eTm a.wh.args, slI eTm a.cols] := by rw [eFC, eTm_eta]; rfl
instance : Wid eFC 13 := ⟨fun t => by rw [eFC_eta]; rfl⟩
def okFC (b : Nat) (t : FC) : Prop := okL b (eFC t)
theorem okFC_fn : (fun b t => okL b (eFC t)) = okFC := rfl
def zFC (t : FC) : Nat := mL (eFC t)
theorem mFC_fn : (fun t => mL (eFC t)) = zFC := rfl
theorem okFC_down {B b : Nat} {t : FC} (h : okFC B t) (g : zFC t ≤ b) : okFC b t := okL_down h g
theorem okFC_iff {b : Nat} {t : FC} : okFC b t ↔ ok64 t.outer ∧ ok64 t.outerGens ∧ ok64 t.tag ∧ okLs b okGn t.gens ∧ okTm b t.wh ∧ okLs b okTm t.cols := by
  conv => lhs; unfold okFC
  rw [eFC_app]; simp only [okL_append, okL_cons, okL_nil, okI_int, okI_str, okI_L, okS_fn, okTy_fn, okVal_fn, okTm_fn, okPl_fn, okMono_fn, okAnn_fn, okDecl_fn, okTData_fn, okGn_fn, okHd_fn, okCmp_fn, okQr_fn, okFC_fn, and_true, true_and, and_assoc, okTm]
theorem zFC_eta (t : FC) : zFC t = zL zGn t.gens + zTm t.wh + zL zTm t.cols := by
  conv => lhs; unfold zFC
  rw [eFC_app]; simp only [mL_append, mL_cons, mL_nil, mI_int, mI_str, mI_L, mS_fn, mTy_fn, mVal_fn, mTm_fn, mPl_fn, mMono_fn, mAnn_fn, mDecl_fn, mTData_fn, mGn_fn, mHd_fn, mCmp_fn, mQr_fn, mFC_fn, zSL, Nat.zero_add, Nat.add_zero, Nat.add_assoc, zTm]
theorem FC.ext {t u : FC} (h0 : t.outer = u.outer) (h1 : t.outerGens = u.outerGens) (h2 : t.tag = u.tag) (h3 : t.gens = u.gens) (h4 : t.wh = u.wh) (h5 : t.cols = u.cols) : t = u := by cases t; cases u; simp_all
noncomputable instance : DecidableEq FC := fun a b => Classical.propDecidable _
/-- A flat query. -/
structure FQ where
  path : List ByteArray
  comps : List FC
def eFQ (a : FQ) : List IV := [slI eS a.path, slI eFC a.comps]
theorem eFQ_app (a : FQ) : eFQ a = [slI eS a.path, slI eFC a.comps] := rfl
theorem eFQ_eta (a : FQ) : eFQ a = [slI eS a.path, slI eFC a.comps] := by rfl
instance : Wid eFQ 2 := ⟨fun t => by rw [eFQ_eta]; rfl⟩
def okFQ (b : Nat) (t : FQ) : Prop := okL b (eFQ t)
theorem okFQ_fn : (fun b t => okL b (eFQ t)) = okFQ := rfl
def zFQ (t : FQ) : Nat := mL (eFQ t)
theorem mFQ_fn : (fun t => mL (eFQ t)) = zFQ := rfl
theorem okFQ_down {B b : Nat} {t : FQ} (h : okFQ B t) (g : zFQ t ≤ b) : okFQ b t := okL_down h g
theorem okFQ_iff {b : Nat} {t : FQ} : okFQ b t ↔ okLs b okS t.path ∧ okLs b okFC t.comps := by
  conv => lhs; unfold okFQ
  rw [eFQ_app]; simp only [okL_append, okL_cons, okL_nil, okI_int, okI_str, okI_L, okS_fn, okTy_fn, okVal_fn, okTm_fn, okPl_fn, okMono_fn, okAnn_fn, okDecl_fn, okTData_fn, okGn_fn, okHd_fn, okCmp_fn, okQr_fn, okFC_fn, okFQ_fn, and_true, true_and, and_assoc]
theorem zFQ_eta (t : FQ) : zFQ t = zSL t.path + zL zFC t.comps := by
  conv => lhs; unfold zFQ
  rw [eFQ_app]; simp only [mL_append, mL_cons, mL_nil, mI_int, mI_str, mI_L, mS_fn, mTy_fn, mVal_fn, mTm_fn, mPl_fn, mMono_fn, mAnn_fn, mDecl_fn, mTData_fn, mGn_fn, mHd_fn, mCmp_fn, mQr_fn, mFC_fn, mFQ_fn, zSL, Nat.zero_add, Nat.add_zero, Nat.add_assoc]
theorem FQ.ext {t u : FQ} (h0 : t.path = u.path) (h1 : t.comps = u.comps) : t = u := by cases t; cases u; simp_all
noncomputable instance : DecidableEq FQ := fun a b => Classical.propDecidable _
end Go.VC
/- Marks: every scalar that a row leads to, numbered in order: no statement of a program. -/
set_option linter.unusedSimpArgs false
set_option linter.unusedVariables false
namespace Go.VC
open Go
section
variable (mT : Int → ByteArray)
mutual
def cnI : IV → Nat
  | .sc (.int _ _) => 1
  | .sc (.string _) => 1
  | .sl _ cs => cnL cs
  | _ => 0
def cnL : List IV → Nat
  | [] => 0
  | x :: r => cnI x + cnL r
end
mutual
def mkI (k : Int) : IV → IV
  | .sc (.int i _) => .sc (.int i k)
  | .sc (.string _) => .sc (.string (mT k))
  | .sl n cs => .sl n (mkL k cs)
  | x => x
def mkL (k : Int) : List IV → List IV
  | [] => []
  | x :: r => mkI k x :: mkL (k + cnI x) r
end
theorem cnL_append : ∀ {a b : List IV}, cnL (a ++ b) = cnL a + cnL b
  | [], b => by simp [cnL]
  | x :: r, b => by simp only [List.cons_append, cnL, cnL_append (a := r), Nat.add_assoc]
theorem mkL_append : ∀ {k : Int} {a b : List IV}, mkL mT k (a ++ b) = mkL mT k a ++ mkL mT (k + cnL a) b
  | k, [], b => by simp [mkL, cnL]
  | k, x :: r, b => by
    simp only [List.cons_append, mkL, cnL, mkL_append (a := r)]
    rw [show k + ((cnI x + cnL r : Nat) : Int) = k + (cnI x : Int) + (cnL r : Int) by omega]
theorem mkL_len : ∀ {k : Int} {a : List IV}, (mkL mT k a).length = a.length
  | _, [] => rfl
  | k, x :: r => by simp only [mkL, List.length_cons, mkL_len (a := r)]
variable {α : Type} {E : α → List IV} {z : Nat}
/-- The row at element i's turn. -/
def mkA (E : α → List IV) (k : Int) (xs : List α) (i : Nat) : List IV := mkL mT k ((xs.take i).flatMap E)
/-- How many marks there are before element i. -/
def cnT (E : α → List IV) (xs : List α) (i : Nat) : Nat := cnL ((xs.take i).flatMap E)
theorem mkA_len [Wid E z] {k : Int} {xs : List α} {i : Nat} (h : i ≤ xs.length) : (mkA mT E k xs i).length = i * z := by
  rw [mkA, mkL_len, flat_len', List.length_take, Nat.min_eq_left h]
theorem mkA_zero {k : Int} {xs : List α} : mkA mT E k xs 0 = [] := by simp [mkA, mkL]
theorem cnT_zero {xs : List α} : cnT E xs 0 = 0 := by simp [cnT, cnL]
theorem cnT_succ {xs : List α} {i : Nat} (h : i < xs.length) : cnT E xs (i + 1) = cnT E xs i + cnL (E xs[i]) := by
  rw [cnT, take_at h, List.flatMap_append, cnL_append, flat_one, cnT]
theorem mkA_succ {k : Int} {xs : List α} {i : Nat} (h : i < xs.length) : mkA mT E k xs (i + 1) = mkA mT E k xs i ++ mkL mT (k + cnT E xs i) (E xs[i]) := by
  rw [mkA, take_at h, List.flatMap_append, mkL_append, flat_one, mkA, cnT]
theorem mkA_all {k : Int} {xs : List α} {i : Nat} (h : xs.length ≤ i) : mkA mT E k xs i = mkL mT k (xs.flatMap E) := by rw [mkA, List.take_of_length_le h]
theorem cnT_all {xs : List α} {i : Nat} (h : xs.length ≤ i) : cnT E xs i = cnL (xs.flatMap E) := by rw [cnT, List.take_of_length_le h]
theorem cnT_le {xs : List α} {i : Nat} : cnT E xs i ≤ cnL (xs.flatMap E) := by
  have : xs.flatMap E = (xs.take i).flatMap E ++ (xs.drop i).flatMap E := by rw [← List.flatMap_append, List.take_append_drop]
  rw [this, cnL_append]; unfold cnT; omega
theorem drop_flat {xs : List α} {i : Nat} (h : i < xs.length) : (xs.drop i).flatMap E = E xs[i] ++ (xs.drop (i + 1)).flatMap E := by rw [drop_at h, List.flatMap_cons]
theorem drop_all {xs : List α} {i : Nat} (h : xs.length ≤ i) : (xs.drop i).flatMap E = [] := by rw [List.drop_of_length_le h]; rfl
/-- What is left to mark, read from element i on. -/
theorem mk_drop [w : Wid E z] {k : Int} {xs : List α} {i : Nat} (h : i < xs.length) : (mkL mT k (xs.flatMap E)).drop (i * z) = mkL mT (k + cnT E xs i) (E xs[i]) ++ mkL mT (k + cnT E xs (i + 1)) ((xs.drop (i + 1)).flatMap E) := by
  have e : xs.flatMap E = (xs.take i).flatMap E ++ (E xs[i] ++ (xs.drop (i + 1)).flatMap E) := by
    rw [← drop_flat h, ← List.flatMap_append, List.take_append_drop]
  have hl : (mkL mT k ((xs.take i).flatMap E)).length = i * z := mkA_len mT (Nat.le_of_lt h)
  conv => lhs; rw [e, mkL_append]
  rw [List.drop_left' hl, mkL_append, cnT_succ h, cnT]
  congr 2
  omega
theorem pt_mk [w : Wid E z] {k : Int} {xs : List α} {i : Nat} (h : i < xs.length) : IV.pt ((mkL mT k (xs.flatMap E)).drop (i * z)) = .pt (mkL mT (k + cnT E xs i) (E xs[i]) ++ mkL mT (k + cnT E xs (i + 1)) ((xs.drop (i + 1)).flatMap E)) := by rw [mk_drop mT h]
theorem pt_mk1 [w : Wid E 1] {k : Int} {xs : List α} {i : Nat} (h : i < xs.length) : IV.pt ((mkL mT k (xs.flatMap E)).drop i) = .pt (mkL mT (k + cnT E xs i) (E xs[i]) ++ mkL mT (k + cnT E xs (i + 1)) ((xs.drop (i + 1)).flatMap E)) := by
  have := pt_mk mT (E := E) (z := 1) (k := k) h
  rwa [Nat.mul_one] at this
end
section
variable (mT : Int → ByteArray)
theorem mkL_i {k a : Int} {i : IntKind} {r : List IV} : mkL mT k (.sc (.int i a) :: r) = .sc (.int i k) :: mkL mT (k + 1) r := by rw [mkL, mkI, cnI]; rfl
theorem mkL_s {k : Int} {s : ByteArray} {r : List IV} : mkL mT k (.sc (.string s) :: r) = .sc (.string (mT k)) :: mkL mT (k + 1) r := by rw [mkL, mkI, cnI]; rfl
theorem mkL_l {k : Int} {n : Nat} {cs r : List IV} : mkL mT k (.sl n cs :: r) = .sl n (mkL mT k cs) :: mkL mT (k + (cnL cs : Int)) r := by rw [mkL, mkI, cnI]
theorem mkL_n {k : Int} : mkL mT k [] = [] := by rw [mkL]
end
theorem cnL_i {a : Int} {i : IntKind} {r : List IV} : cnL (.sc (.int i a) :: r) = cnL r + 1 := by rw [cnL, cnI]; omega
theorem cnL_s {s : ByteArray} {r : List IV} : cnL (.sc (.string s) :: r) = cnL r + 1 := by rw [cnL, cnI]; omega
theorem cnL_l {n : Nat} {cs r : List IV} : cnL (.sl n cs :: r) = cnL cs + cnL r := by rw [cnL, cnI]
theorem cnL_n : cnL [] = 0 := by rw [cnL]
/-- Each element bears at least one mark. -/
class Cn1 {α : Type} (E : α → List IV) : Prop where
  one : ∀ a, 1 ≤ cnL (E a)
instance : Cn1 eS := ⟨fun _ => by simp only [eS, cnL_s, cnL_n]; omega⟩
instance : Cn1 eI := ⟨fun _ => by simp only [eI, cnL_i, cnL_n]; omega⟩
instance : Cn1 eTy := ⟨fun _ => by rw [eTy_eta]; simp only [cnL_i]; omega⟩
instance : Cn1 eVal := ⟨fun _ => by rw [eVal_eta]; simp only [cnL_i]; omega⟩
instance : Cn1 eTm := ⟨fun _ => by rw [eTm_eta]; simp only [cnL_i]; omega⟩
instance : Cn1 ePl := ⟨fun _ => by rw [ePl_eta]; simp only [cnL_i]; omega⟩
instance : Cn1 eMono := ⟨fun _ => by rw [eMono_eta]; simp only [cnL_i]; omega⟩
instance : Cn1 eAnn := ⟨fun _ => by rw [eAnn_eta]; simp only [cnL_i]; omega⟩
instance : Cn1 eDecl := ⟨fun _ => by rw [eDecl_eta]; simp only [cnL_s]; omega⟩
instance : Cn1 eTData := ⟨fun _ => by rw [eTData_eta]; simp only [cnL_s]; omega⟩
instance : Cn1 eGn := ⟨fun _ => by rw [eGn_eta]; simp only [cnL_s]; omega⟩
instance : Cn1 eKd := ⟨fun _ => by rw [eKd_eta]; simp only [cnL_s]; omega⟩
instance : Cn1 eHd := ⟨fun _ => by rw [eHd_eta]; simp only [cnL_i]; omega⟩
instance : Cn1 eCmp := ⟨fun _ => by rw [eCmp_eta]; simp only [slI, cnL_l, cnL_i]; omega⟩
instance : Cn1 eFC := ⟨fun _ => by rw [eFC_eta]; simp only [cnL_i]; omega⟩
theorem cnL_len {α : Type} {E : α → List IV} [c : Cn1 E] : ∀ {xs : List α}, xs.length ≤ cnL (xs.flatMap E)
  | [] => by simp
  | x :: r => by
    have h1 := c.one x
    have h2 := cnL_len (E := E) (xs := r)
    rw [List.flatMap_cons, cnL_append, List.length_cons]; omega
theorem Ty.lt_args (t : Ty) : SizeOf.sizeOf t.args < SizeOf.sizeOf t := by cases t; simp only [Ty.mk.sizeOf_spec, Ty.args]; omega
theorem Val.lt_args (t : Val) : SizeOf.sizeOf t.args < SizeOf.sizeOf t := by cases t; simp only [Val.mk.sizeOf_spec, Val.args]; omega
theorem Tm.lt_args (t : Tm) : SizeOf.sizeOf t.args < SizeOf.sizeOf t := by cases t; simp only [Tm.mk.sizeOf_spec, Tm.args]; omega
theorem Pl.lt_args (t : Pl) : SizeOf.sizeOf t.args < SizeOf.sizeOf t := by cases t; simp only [Pl.mk.sizeOf_spec, Pl.args]; omega
theorem Hd.lt_parts (t : Hd) : SizeOf.sizeOf t.parts < SizeOf.sizeOf t := by cases t; simp only [Hd.mk.sizeOf_spec, Hd.parts]; omega
theorem Hd.lt_query (t : Hd) : SizeOf.sizeOf t.query < SizeOf.sizeOf t := by cases t; simp only [Hd.mk.sizeOf_spec, Hd.query]; omega
theorem Cmp.lt_parts (t : Cmp) : SizeOf.sizeOf t.head.parts < SizeOf.sizeOf t := by have := Cmp.memH t; have := Hd.lt_parts t.head; omega
theorem Cmp.lt_query (t : Cmp) : SizeOf.sizeOf t.head.query < SizeOf.sizeOf t := by have := Cmp.memH t; have := Hd.lt_query t.head; omega
/-! The cells of a row, from an element on. -/
theorem ivl {A B : List IV} : (A ++ B).length = A.length + B.length := List.length_append
theorem iv0 {a v : IV} {l : List IV} : (a :: l).set 0 v = v :: l := rfl
theorem ivs {a v : IV} {l : List IV} {n : Nat} : (a :: l).set (n + 1) v = a :: l.set n v := rfl
theorem mid_set {A : List IV} {m : Nat} (c : Nat) (h : A.length = m) (D : List IV) (v : IV) : (A ++ D).set (m + c) v = A ++ D.set c v := by
  subst h
  rw [List.set_append_right _ _ (by omega), Nat.add_sub_cancel_left]
theorem mid_set0 {A : List IV} {m : Nat} (h : A.length = m) (D : List IV) (v : IV) : (A ++ D).set m v = A ++ D.set 0 v := mid_set 0 h D v
theorem mid_get {A : List IV} {m : Nat} (c : Nat) (h : A.length = m) (D : List IV) : (A ++ D)[m + c]? = D[c]? := by
  subst h
  rw [List.getElem?_append_right (by omega), Nat.add_sub_cancel_left]
theorem mid_get0 {A : List IV} {m : Nat} (h : A.length = m) (D : List IV) : (A ++ D)[m]? = D[0]? := mid_get 0 h D
theorem mid_drop {A D : List IV} {m : Nat} (h : A.length = m) : (A ++ D).drop m = D := List.drop_left' h
end Go.VC
/- Functions on texts and numbers: what each returns. -/
namespace Go.VC.T
open Go Go.VC Go.Proofs Go.VC.F
set_option linter.unusedSimpArgs false
set_option linter.unusedVariables false
set_option linter.defProp false
set_option maxRecDepth 100000
def fc147A1 := (And.intro (And.intro (And.intro (And.intro sz3 ag3) (And.intro zv3 un3)) (And.intro (And.intro sz4 ag4) (And.intro zv4 (And.intro un4 sz9)))) (And.intro (And.intro (And.intro ag9 zv9) (And.intro un9 (And.intro sz63 ag63))) (And.intro (And.intro zv63 sb63) (And.intro un63 (And.intro el63 ap63)))))
theorem eqStringS_ok (xs ys : List ByteArray) (hx : xs.length ≤ 2^48) : FnS Try.prog 147 [] [slT eS xs, slT eS ys] [] (bT (decide (xs = ys))) := by
  refine FnS.go [0, 1, 4, 5, 10, 14, 25] [] Try.func147 rfl (fun kt kz => ?_)
  have fcx := fc147A1
  simp only [Try.f147]
  refine Run (cast_succ) ?_; repeat' (first | (with_reducible exact True.intro) | (with_reducible refine Lf.mk ?_ ?_) | (with_reducible intro hb))
  · have : xs ≠ ys := fun h => hb (by rw [h])
    simp [this]
  · have hl : xs.length = ys.length := by omega
    refine Trn (α := Nat) [4, 5, 11, 12, 13, 14, 15, 16, 17, 18, 19, 20, 21, 22, 23, 24, 25] (fun i => [(5, iT i)]) (fun i => []) (fun i => i ≤ xs.length ∧ xs.take i = ys.take i) (fun i => xs.length - i) (0) (⟨Nat.zero_le _, rfl⟩) (cast_succ) ?_; intro lx hI; obtain i := lx; (try simp only [List.nil_append, List.cons_append] at hI ⊢)
    refine Run (@eS.eq_1) ?_; repeat' (first | (with_reducible exact True.intro) | (with_reducible refine Lf.mk ?_ ?_) | (with_reducible intro hb))
    · have : xs ≠ ys := fun h => hb (by subst h; rfl)
      simp [this]
    · exact Nxt (cast_succ) (lx + 1) (⟨by omega, take_eq_at hI.2 (by omega) (by omega) hb⟩) (by first | omega | (simp; omega))
    · have : xs = ys := by
        have h := hI.2
        rw [List.take_of_length_le (by omega), List.take_of_length_le (by omega)] at h; exact h
      simp [this]
def fc143A1 := (And.intro (And.intro (And.intro (And.intro sz3 ag3) (And.intro zv3 un3)) (And.intro (And.intro sz4 ag4) (And.intro zv4 (And.intro un4 sz9)))) (And.intro (And.intro (And.intro ag9 zv9) (And.intro un9 (And.intro sz63 ag63))) (And.intro (And.intro zv63 sb63) (And.intro un63 (And.intro el63 ap63)))))
theorem toStringS_ow (xs : List ByteArray) (hx : xs.length ≤ 2^40) : FnS Try.prog 143 [] [slT eS xs] [(14, .vec 9 1 xs.length (xs.flatMap eS) true)] (.c (.os 14 xs.length)) := by
  refine FnS.go [0, 2, 3, 4, 11] [] Try.func143 rfl (fun kt kz => ?_)
  have fcx := fc143A1
  simp only [Try.f143]
  refine Run (cast_succ) ?_; repeat' (first | (with_reducible exact True.intro) | (with_reducible refine Lf.mk ?_ ?_) | (with_reducible intro hb))
  refine Trn (α := Nat) [4, 8, 9, 10, 11, 12, 13, 14, 15, 16, 17, 18, 19, 20] (fun i => [(4, iT i), (3, .c (.os 14 xs.length))]) (fun i => [(14, .vec 9 1 xs.length (filled eS [.sc (.string ⟨#[]⟩)] xs i) true)]) (fun i => i ≤ xs.length) (fun i => xs.length - i) (0) (Nat.zero_le _) (cast_succ) ?_; intro lx hI; obtain i := lx; (try simp only [List.nil_append, List.cons_append] at hI ⊢)
  refine Run (@eS.eq_1) ?_; repeat' (first | (with_reducible exact True.intro) | (with_reducible refine Lf.mk ?_ ?_) | (with_reducible intro hb))
  · exact Nxt (cast_succ) (lx + 1) (by omega) (by first | omega | (simp; omega))

theorem toStringS_o (xs : List ByteArray) (hx : okLs (2^20) okS xs) (q : Nat) : FnS Try.prog 143 [] [slT eS xs] [(q, .row xs.length (xs.flatMap eS))] (.c (.os q xs.length)) := by
  obtain ⟨p, hp⟩ := pm1 14 q
  refine ((toStringS_ow xs (by have := hx.1; omega)).rows.pm p).as ?_ ?_ <;> simp [rowS, rowO, renS, Ob.ren, TV.ren, Cell.ren, hp]
theorem toStringS_ok (xs : List ByteArray) (hx : xs.length ≤ 2^40) : FnP Try.prog 143 [slT eS xs] (slT eS xs) := (toStringS_ow xs hx).tree (by simp -dsimp (maxSteps := 2000000) (disch := omega) only [vs, ↓Option.bind_some, ev1, ofV, scalarB, Kn, Kb, calleeOf, evLoad, ptr, evField, evFieldAddr, shift, ↓pt_at, ↓pt_at1, evExtract, evBin, evLen, evConv, cellsT, noS, Cell.has, Cell.hasN, Cell.anyN, toIV, toIV0, toIVs, ownC, srcM, Ob.own, Ob.esz, allSc, nilK, lenC, ownCell, isPtr, ptrNil, frzO, Cell.frz, Cell.keys, ↓reduceIte, reduceCtorEq, Nat.reduceEqDiff, Nat.reduceBEq, Nat.reduceBNe, Nat.reduceAdd, Nat.reduceMul, Nat.reduceSub, Nat.reduceLT, Nat.reduceLeDiff, Nat.reducePow, Int.reduceLT, Int.reduceLE, Int.reduceEq, Int.reduceNe, quietB, Nat.reduceMod, Int.reduceToNat, ne_eq, eq_self, exists_const, evBytes, byRow, byL, byStr_size, ifsz, ByteArray.size_append, Option.none_or, Option.some_or, evLook, keyD])
end Go.VC.T
/- Data: how they are measured, copied and compared. -/
namespace Go.VC.T
open Go Go.VC Go.Proofs Go.VC.F
set_option linter.unusedSimpArgs false
set_option linter.unusedVariables false
set_option linter.defProp false
set_option maxRecDepth 100000
def fc139A2 := (And.intro (And.intro (And.intro (And.intro sz3 ag3) (And.intro zv3 un3)) (And.intro (And.intro sz4 ag4) (And.intro zv4 (And.intro un4 sz9)))) (And.intro (And.intro (And.intro ag9 zv9) (And.intro un9 (And.intro sz63 ag63))) (And.intro (And.intro zv63 sb63) (And.intro un63 (And.intro el63 ap63)))))
theorem szStringS_ok (xs : List ByteArray) (hx : okLs (2^48) okS xs) (left : Int) (hl : 0 ≤ left ∧ left ≤ 2^20) : FnS Try.prog 139 [] [slT eS xs, iT left] [] (iT (szR (zSL xs) left)) := by
  refine FnS.go [0, 1, 4, 5, 11, 15, 26] [] Try.func139 rfl (fun kt kz => ?_)
  have fcx := fc139A2
  simp only [Try.f139]
  have hx1 := hx.1
  refine Run (cast_succ) ?_; repeat' (first | (with_reducible exact True.intro) | (with_reducible refine Lf.mk ?_ ?_) | (with_reducible intro hb))
  · simp only [zSL, szR_nil hb zL_len]
  · rw [szR_sub hb]
    have hb2 := szR_sub hb ▸ hb
    refine Trn (α := Nat) [1, 4, 5, 12, 13, 14, 15, 16, 17, 18, 19, 20, 21, 22, 23, 24, 25, 26] (fun i => [(5, iT i), (1, iT (szR (zT zS xs i) left))]) (fun i => []) (fun i => i ≤ xs.length ∧ 0 ≤ szR (zT zS xs i) left) (fun i => xs.length - i) (0) (⟨Nat.zero_le _, by rw [zT_zero]; exact hb2⟩) (@zT_zero) ?_; intro lx hI; obtain i := lx; (try simp only [List.nil_append, List.cons_append] at hI ⊢)
    have hz := szR_le (n := zT zS xs lx) hl.1
    by_cases hlt : lx < xs.length
    · have hx2 : zS xs[lx] ≤ 2^48 := okLs_at hx hlt
      have hx3 : xs[lx].size = zS xs[lx] := rfl
      refine Run ((And.intro @eS.eq_1 @hx3)) ?_; repeat' (first | (with_reducible exact True.intro) | (with_reducible refine Lf.mk ?_ ?_) | (with_reducible intro hb))
      · rw [szR_neg (n := zT zS xs (lx + 1)) (by rw [zT_succ hlt, ← szR_add]; unfold szR at *; split <;> omega) zT_le]
      · have e : szR (zT zS xs lx) left - (zS xs[lx] : Int) = szR (zT zS xs (lx + 1)) left := by rw [szR_sub hb, szR_add, ← zT_succ hlt]
        rw [e] at hb
        exact Nxt (@e) (lx + 1) (⟨by omega, hb⟩) (by first | omega | (simp; omega))
      · omega
    · refine Run (cast_succ) ?_; repeat' (first | (with_reducible exact True.intro) | (with_reducible refine Lf.mk ?_ ?_) | (with_reducible intro hb))
      · omega
      · rw [zT_all (by omega)]
theorem eqStringS_rf (xs : List ByteArray) (h : okLs (2^20) okS xs) : FnP Try.prog 147 [slT eS xs, slT eS xs] (bT true) := by
  have := eqStringS_ok xs xs (by have := h.1; omega)
  simpa using this

theorem toStringS_rf (xs : List ByteArray) (h : okLs (2^20) okS xs) : FnP Try.prog 143 [slT eS xs] (slT eS xs) := toStringS_ok xs (by have := h.1; omega)
end Go.VC.T
/- Reading lists. -/
namespace Go.VC
open Go
theorem rdS {P : Program} {t e : TypeId} {m : Nat} {α : Type} {E : α → List IV} {ok : Nat → α → Prop} {z y : Nat} (ht : P.underlying t = some (.slice e)) (hz : P.cellsOf e = z) (hy : P.bytesOf e = y) (h1 : 1 ≤ y)
    (h : ∀ k, k < m → Rd P e k E (ok (2^48))) : Rd P t m (fun xs : List α => [slI E xs]) (okLs (2^48) ok) := by
  cases m with
  | zero => exact .zero
  | succ m =>
    refine (rd_slice ht hz hy (h m (by omega))).map id (fun _ _ => rfl) fun a h => ⟨?_, h.1⟩
    have h2 := h.2.2.2
    have h3 : a.length ≤ a.length * y := Nat.le_mul_of_pos_right _ (by omega)
    simp [reachBytes] at h2
    show a.length ≤ 2 ^ 48
    omega
theorem rdStr {P : Program} {t : TypeId} {m : Nat} (ht : P.underlying t = some .string) : Rd P t m eS (okS (2^48)) :=
  (rd_string ht m).map id (fun _ _ => rfl) fun a h => by simp [reachBytes] at h; show a.size ≤ 2 ^ 48; omega
theorem rdI {P : Program} {t : TypeId} {m : Nat} (ht : P.underlying t = some (.int .i64)) : Rd P t m (fun n : Int => [.sc (.int .i64 n)]) ok64 :=
  (rd_i64 ht m).map id (fun _ _ => rfl) fun _ h => h
end Go.VC
/- Comparing data: no statement of a program. -/
set_option linter.unusedVariables false
namespace Go.VC
open Go
def numC (a b : Int) : Int := (if b < a then 1 else 0) - (if a < b then 1 else 0)
theorem numC_eq {a b : Int} : numC a b = 0 ↔ a = b := by unfold numC; split <;> split <;> omega
theorem cmpS_bits {x y : ByteArray} (h : x ≠ y) : (if sLt y x = true then (1 : Int) else 0) - (if sLt x y = true then 1 else 0) = cmpS x y := by
  unfold cmpS
  cases h1 : sLt x y with
  | true => rw [sLt_asymm h1]; simp
  | false => rw [sLt_tri h1 h]; simp [h]
theorem cmpL_eq : ∀ {x y : List ByteArray}, cmpL x y = 0 ↔ x = y
  | [], [] => by simp [cmpL]
  | [], _ :: _ => by simp [cmpL]
  | _ :: _, [] => by simp [cmpL]
  | a :: x, b :: y => by
    rw [cmpL]
    by_cases h : a = b
    · simp [h, cmpL_eq (x := x) (y := y)]
    · simp [h, cmpS_eq]
/-- The first that is not zero. -/
def orC : List Int → Int
  | [] => 0
  | x :: r => if x = 0 then orC r else x
mutual
def cmpV : Val → Val → Int
  | .mk k n l a, w => orC [numC k w.kind, numC n w.n, numC a.length w.args.length, cmpL l w.labels, cmpVL a w.args]
def cmpVL : List Val → List Val → Int
  | [], _ => 0
  | x :: r, ys => match ys with
    | [] => 0
    | y :: s => if cmpV x y = 0 then cmpVL r s else cmpV x y
end
theorem cmpV_eta (v w : Val) : cmpV v w = orC [numC v.kind w.kind, numC v.n w.n, numC v.args.length w.args.length, cmpL v.labels w.labels, cmpVL v.args w.args] := by
  cases v with
  | mk k n l a => rw [cmpV]; rfl
mutual
theorem cmpV_eq : ∀ {v w : Val}, cmpV v w = 0 ↔ v = w
  | .mk k n l a, w => by
    rw [cmpV_eta]
    simp only [orC]
    constructor
    · intro h
      split at h
      · rename_i h1
        split at h
        · rename_i h2
          split at h
          · rename_i h3
            split at h
            · rename_i h4
              split at h
              · rename_i h5
                have h3' : a.length = w.args.length := by have := numC_eq.1 h3; exact Int.ofNat.inj this
                exact Val.ext (numC_eq.1 h1) (numC_eq.1 h2) (cmpL_eq.1 h4) ((cmpVL_eq (xs := a) h3').1 h5)
              · contradiction
            · contradiction
          · contradiction
        · contradiction
      · contradiction
    · rintro rfl
      have h5 := (cmpVL_eq (xs := a) (ys := a) rfl).2 rfl
      simp [numC_eq.2 rfl, cmpL_eq.2 rfl, Val.kind, Val.n, Val.args, Val.labels, h5]
theorem cmpVL_eq : ∀ {xs ys : List Val}, xs.length = ys.length → (cmpVL xs ys = 0 ↔ xs = ys)
  | [], ys, h => by
    cases ys with
    | nil => simp [cmpVL]
    | cons => simp at h
  | x :: r, ys, h => by
    cases ys with
    | nil => simp at h
    | cons y s =>
      have h1 := cmpV_eq (v := x) (w := y)
      have h2 := cmpVL_eq (xs := r) (ys := s) (by simpa using h)
      rw [cmpVL]
      by_cases e : cmpV x y = 0
      · rw [if_pos e, h2, h1.1 e]; simp
      · have : x ≠ y := fun q => e (h1.2 q)
        simp [e, this]
end
theorem cmpVL_at {xs ys : List Val} {i : Nat} (hx : i < xs.length) (hy : i < ys.length) : cmpVL (xs.drop i) (ys.drop i) = if cmpV xs[i] ys[i] = 0 then cmpVL (xs.drop (i + 1)) (ys.drop (i + 1)) else cmpV xs[i] ys[i] := by
  rw [drop_at hx, drop_at hy, cmpVL]
theorem cmpVL_nil {xs ys : List Val} {i : Nat} (h : xs.length ≤ i) : cmpVL (xs.drop i) (ys.drop i) = 0 := by
  rw [List.drop_of_length_le h, cmpVL]
end Go.VC
/- Comparisons: what each returns. -/
namespace Go.VC.T
open Go Go.VC Go.Proofs Go.VC.F
set_option linter.unusedSimpArgs false
set_option linter.unusedVariables false
set_option linter.defProp false
set_option maxRecDepth 100000
set_option maxHeartbeats 2000000
def fc211A10 := (And.intro (And.intro (And.intro sz4 ag4) (And.intro zv4 un4)) (And.intro (And.intro sz9 ag9) (And.intro zv9 un9)))
theorem isNaNS_ok (a : ByteArray) : FnS Try.prog 211 [] [sT a] [] (bT false) := by
  refine FnS.go [0, 2] [] Try.func211 rfl (fun kt kz => ?_)
  have fcx := fc211A10
  simp only [Try.f211]
  refine Run (cast_succ) ?_; repeat' (first | (with_reducible exact True.intro) | (with_reducible refine Lf.mk ?_ ?_) | (with_reducible intro hb))
def fc173A10 := (And.intro (And.intro (And.intro sz3 (And.intro ag3 zv3)) (And.intro un3 (And.intro sz4 ag4))) (And.intro (And.intro zv4 (And.intro un4 sz9)) (And.intro (And.intro ag9 zv9) (And.intro un9 okf211))))
theorem cmpCompareS_ok (a b : ByteArray) : FnS Try.prog 173 [] [sT a, sT b] [] (iT (cmpS a b)) := by
  refine FnS.go [0, 1, 4, 5, 6, 11, 12, 13, 16, 19] [] Try.func173 rfl (fun kt kz => ?_)
  have fcx := fc173A10
  simp only [Try.f173]
  refine Run (cast_succ) ?_; repeat' (first | (with_reducible exact True.intro) | (with_reducible refine Lf.mk ?_ ?_) | (with_reducible intro hb))
  refine Cal (cast_succ) (isNaNS_ok a) ?_
  refine Run (cast_succ) ?_; repeat' (first | (with_reducible exact True.intro) | (with_reducible refine Lf.mk ?_ ?_) | (with_reducible intro hb))
  refine Cal (cast_succ) (isNaNS_ok b) ?_
  refine Run (@sGt) ?_; repeat' (first | (with_reducible exact True.intro) | (with_reducible refine Lf.mk ?_ ?_) | (with_reducible intro hb))
  · rw [cmpS, if_pos hb]
  · rename_i h1
    rw [cmpS, if_neg (by simp [h1]), if_neg (by rintro rfl; rw [sLt_irrefl] at hb; cases hb)]
  · rename_i h1
    rw [cmpS, if_neg (by simp [h1]), if_pos (by
      apply Classical.byContradiction; intro hn
      rw [sLt_tri h1 hn] at hb; cases hb)]
def fc152A10 := (And.intro (And.intro (And.intro sz3 ag3) (And.intro zv3 un3)) (And.intro (And.intro sz4 ag4) (And.intro zv4 un4)))
theorem l1Bit_ok (b : Bool) : FnS Try.prog 152 [] [bT b] [] (iT (if b then 1 else 0)) := by
  refine FnS.go [0, 2, 3] [] Try.func152 rfl (fun kt kz => ?_)
  have fcx := fc152A10
  simp only [Try.f152]
  cases b
  · refine Run (cast_succ) ?_; repeat' (first | (with_reducible exact True.intro) | (with_reducible refine Lf.mk ?_ ?_) | (with_reducible intro hb))
  · refine Run (cast_succ) ?_; repeat' (first | (with_reducible exact True.intro) | (with_reducible refine Lf.mk ?_ ?_) | (with_reducible intro hb))
def fc170A10 := (And.intro (And.intro (And.intro sz3 ag3) (And.intro zv3 un3)) (And.intro (And.intro sz4 ag4) (And.intro zv4 (And.intro un4 okf152))))
theorem l5Number_ok (a b : Int) : FnS Try.prog 170 [] [iT a, iT b] [] (iT (numC a b)) := by
  refine FnS.go [0, 1, 4] [] Try.func170 rfl (fun kt kz => ?_)
  have fcx := fc170A10
  simp only [Try.f170]
  refine Run (cast_succ) ?_; repeat' (first | (with_reducible exact True.intro) | (with_reducible refine Lf.mk ?_ ?_) | (with_reducible intro hb))
  refine Cal (cast_succ) (l1Bit_ok (decide (b < a))) ?_
  refine Run (cast_succ) ?_; repeat' (first | (with_reducible exact True.intro) | (with_reducible refine Lf.mk ?_ ?_) | (with_reducible intro hb))
  refine Cal (cast_succ) (l1Bit_ok (decide (a < b))) ?_
  refine Run (cast_succ) ?_; repeat' (first | (with_reducible exact True.intro) | (with_reducible refine Lf.mk ?_ ?_) | (with_reducible intro hb))
  simp [numC]
def fc131A10 := (And.intro (And.intro (And.intro (And.intro sz3 ag3) (And.intro zv3 (And.intro un3 sz4))) (And.intro (And.intro ag4 zv4) (And.intro un4 (And.intro sz9 ag9)))) (And.intro (And.intro (And.intro zv9 un9) (And.intro sz63 (And.intro ag63 zv63))) (And.intro (And.intro sb63 un63) (And.intro el63 (And.intro ap63 okf173)))))
theorem slicesCompare_ok (xs ys : List ByteArray) (hx : xs.length ≤ 2^48) : FnS Try.prog 131 [] [slT eS xs, slT eS ys] [] (iT (cmpL xs ys)) := by
  refine FnS.go [0, 1, 4, 5, 6, 7, 8, 9, 10, 11, 12, 19, 28, 35] [] Try.func131 rfl (fun kt kz => ?_)
  have fcx := fc131A10
  simp only [Try.f131]
  refine Run (cast_succ) ?_; repeat' (first | (with_reducible exact True.intro) | (with_reducible refine Lf.mk ?_ ?_) | (with_reducible intro hb))
  refine Trn (α := Nat) [4, 5, 6, 7, 8, 11, 12, 13, 14, 15, 16, 17, 18, 19, 20, 21, 22, 23, 24, 25, 26, 27, 28, 29, 30] (fun i => [(11, iT i)]) (fun i => []) (fun i => i ≤ xs.length ∧ i ≤ ys.length ∧ cmpL (xs.drop i) (ys.drop i) = cmpL xs ys) (fun i => xs.length - i) (0) (⟨Nat.zero_le _, Nat.zero_le _, rfl⟩) (cast_succ) ?_; intro lx hI; obtain i := lx; (try simp only [List.nil_append, List.cons_append] at hI ⊢)
  have hc := hI.2.2
  by_cases hlt : lx < xs.length
  · by_cases hlt2 : lx < ys.length
    · rw [cmpL_drop (x := xs[lx]) (y := ys[lx]) (by simp [hlt]) (by simp [hlt2])] at hc
      refine Run (@eS.eq_1) ?_; repeat' (first | (with_reducible exact True.intro) | (with_reducible refine Lf.mk ?_ ?_) | (with_reducible intro hb))
      · omega
      · refine Cal (cast_succ) (cmpCompareS_ok xs[lx] ys[lx]) ?_
        refine Run (cast_succ) ?_; repeat' (first | (with_reducible exact True.intro) | (with_reducible refine Lf.mk ?_ ?_) | (with_reducible intro hb))
        · rw [← hc, if_neg fun e => hb (cmpS_eq.2 e)]
        · rw [if_pos (cmpS_eq.1 hb)] at hc
          exact Nxt (cast_succ) (lx + 1) (⟨by omega, by omega, hc⟩) (by first | omega | (simp; omega))
      · omega
    · rw [drop_at hlt, List.drop_of_length_le (l := ys) (by omega)] at hc
      refine Run (@eS.eq_1) ?_; repeat' (first | (with_reducible exact True.intro) | (with_reducible refine Lf.mk ?_ ?_) | (with_reducible intro hb))
      all_goals first | omega | (rw [← hc]; rfl) | skip
  · refine Run (@eS.eq_1) ?_; repeat' (first | (with_reducible exact True.intro) | (with_reducible refine Lf.mk ?_ ?_) | (with_reducible intro hb))
    all_goals first | omega | skip
    · rw [← hc, List.drop_of_length_le (by omega), drop_at (by omega)]; rfl
    · rw [← hc, List.drop_of_length_le (by omega), List.drop_of_length_le (by omega)]; rfl
def fc128A10 := (And.intro (And.intro (And.intro (And.intro sz3 ag3) (And.intro zv3 (And.intro un3 sz4))) (And.intro (And.intro ag4 zv4) (And.intro un4 (And.intro sz9 ag9)))) (And.intro (And.intro (And.intro zv9 un9) (And.intro sz63 (And.intro ag63 zv63))) (And.intro (And.intro sb63 (And.intro un63 el63)) (And.intro ap63 (And.intro okf152 okf170)))))
theorem l5Labels_ok (xs ys : List ByteArray) (hx : xs.length ≤ 2^48) (hy : ys.length ≤ 2^48) : FnS Try.prog 128 [] [slT eS xs, slT eS ys] [] (iT (cmpL xs ys)) := by
  refine FnS.go [0, 1, 4, 5, 15, 26] [] Try.func128 rfl (fun kt kz => ?_)
  have fcx := fc128A10
  simp only [Try.f128]
  refine Run (cast_succ) ?_; repeat' (first | (with_reducible exact True.intro) | (with_reducible refine Lf.mk ?_ ?_) | (with_reducible intro hb))
  refine Trn (α := Nat) [4, 5, 6, 7, 8, 9, 10, 11, 12, 13, 14, 15, 16, 17, 18, 19, 20, 21, 22, 23, 24, 25, 26, 27, 28, 29, 30, 31, 32, 33, 34, 35, 36, 37, 38, 39, 40, 41, 42, 43, 44, 45, 46, 47] (fun i => [(5, iT i)]) (fun i => []) (fun i => i ≤ xs.length ∧ i ≤ ys.length ∧ cmpL (xs.drop i) (ys.drop i) = cmpL xs ys) (fun i => xs.length - i) (0) (⟨Nat.zero_le _, Nat.zero_le _, rfl⟩) (cast_succ) ?_; intro lx hI; obtain i := lx; (try simp only [List.nil_append, List.cons_append] at hI ⊢)
  have hc := hI.2.2
  have hn : ¬ (lx < xs.length ∧ lx < ys.length) → numC xs.length ys.length = cmpL xs ys := by
    intro hq
    by_cases h1 : lx < xs.length
    · have h2 : ¬ lx < ys.length := fun h2 => hq ⟨h1, h2⟩
      rw [← hc, List.drop_of_length_le (l := ys) (by omega), drop_at h1, numC, if_pos (by omega), if_neg (by omega)]; rfl
    · rw [← hc, List.drop_of_length_le (by omega), numC, if_neg (by omega)]
      by_cases h2 : lx < ys.length
      · rw [drop_at h2, if_pos (by omega)]; rfl
      · rw [List.drop_of_length_le (by omega), if_neg (by omega)]; rfl
  by_cases hlt : lx < xs.length
  · by_cases hlt2 : lx < ys.length
    · rw [cmpL_drop (x := xs[lx]) (y := ys[lx]) (by simp [hlt]) (by simp [hlt2])] at hc
      refine Run ((And.intro (And.intro @eS.eq_1 @hlt) (And.intro @hlt2 @sGt))) ?_; repeat' (first | (with_reducible exact True.intro) | (with_reducible refine Lf.mk ?_ ?_) | (with_reducible intro hb))
      · refine Cal ((And.intro @eS.eq_1 @sGt)) (l1Bit_ok (sLt ys[lx] xs[lx])) ?_
        refine Run (cast_succ) ?_; repeat' (first | (with_reducible exact True.intro) | (with_reducible refine Lf.mk ?_ ?_) | (with_reducible intro hb))
        refine Cal ((And.intro @eS.eq_1 @sGt)) (l1Bit_ok (sLt xs[lx] ys[lx])) ?_
        refine Run (cast_succ) ?_; repeat' (first | (with_reducible exact True.intro) | (with_reducible refine Lf.mk ?_ ?_) | (with_reducible intro hb))
        all_goals rw [← hc, if_neg hb, ← cmpS_bits hb]
      · rw [if_pos hb] at hc
        exact Nxt (cast_succ) (lx + 1) (⟨by omega, by omega, hc⟩) (by first | omega | (simp; omega))
    · refine Run ((And.intro @eS.eq_1 (And.intro @hlt @hlt2))) ?_; repeat' (first | (with_reducible exact True.intro) | (with_reducible refine Lf.mk ?_ ?_) | (with_reducible intro hb))
      refine Cal (cast_succ) (l5Number_ok xs.length ys.length) ?_
      refine Run ((And.intro @hn (And.intro @hlt @hlt2))) ?_; repeat' (first | (with_reducible exact True.intro) | (with_reducible refine Lf.mk ?_ ?_) | (with_reducible intro hb))
  · refine Run ((And.intro @eS.eq_1 @hlt)) ?_; repeat' (first | (with_reducible exact True.intro) | (with_reducible refine Lf.mk ?_ ?_) | (with_reducible intro hb))
    refine Cal (cast_succ) (l5Number_ok xs.length ys.length) ?_
    refine Run ((And.intro @hn @hlt)) ?_; repeat' (first | (with_reducible exact True.intro) | (with_reducible refine Lf.mk ?_ ?_) | (with_reducible intro hb))

end Go.VC.T
/- Lists: whether some element has a property, and the first one that has it: no statement of a program. -/
set_option linter.unusedVariables false
namespace Go.VC
open Go
theorem any_at {α : Type} {p : α → Bool} {l : List α} {i : Nat} (h : i < l.length) (hp : p l[i] = true) : l.any p = true := List.any_eq_true.2 ⟨_, List.getElem_mem h, hp⟩
theorem any_take {α : Type} {p : α → Bool} {l : List α} {i : Nat} (h : i < l.length) (ht : (l.take i).any p = false) (hp : p l[i] = false) : (l.take (i + 1)).any p = false := by
  rw [take_at h, List.any_append, ht]; simp [hp]
theorem any_all {α : Type} {p : α → Bool} {l : List α} {i : Nat} (h : l.length ≤ i) (ht : (l.take i).any p = false) : l.any p = false := by
  rwa [List.take_of_length_le h] at ht
theorem all_at {α : Type} {p : α → Bool} {l : List α} {i : Nat} (h : i < l.length) (hp : p l[i] = false) : l.all p = false := by
  cases ha : l.all p with
  | false => rfl
  | true => have := List.all_eq_true.1 ha _ (List.getElem_mem h); rw [hp] at this; cases this
theorem all_take {α : Type} {p : α → Bool} {l : List α} {i : Nat} (h : i < l.length) (ht : (l.take i).all p = true) (hp : p l[i] = true) : (l.take (i + 1)).all p = true := by
  rw [take_at h, List.all_append, ht]; simp [hp]
theorem all_all {α : Type} {p : α → Bool} {l : List α} {i : Nat} (h : l.length ≤ i) (ht : (l.take i).all p = true) : l.all p = true := by
  rwa [List.take_of_length_le h] at ht
/-- The place of the first element with a property; -1 without. -/
def idxI {α : Type} (p : α → Bool) (l : List α) : Int := if l.any p then (l.findIdx p : Int) else -1
theorem idx_at {α : Type} {p : α → Bool} {l : List α} {i : Nat} (h : i < l.length) (ht : (l.take i).any p = false) (hp : p l[i] = true) : idxI p l = i := by
  rw [idxI, if_pos (any_at h hp)]
  congr 1
  rw [List.findIdx_eq h]
  refine ⟨hp, fun j hj => ?_⟩
  have := List.any_eq_false.1 ht l[j] (by
    rw [List.mem_iff_getElem]
    exact ⟨j, by simp; omega, by simp⟩)
  simpa using this
theorem idx_no {α : Type} {p : α → Bool} {l : List α} (h : l.any p = false) : idxI p l = -1 := by rw [idxI, h]; rfl
theorem idx_ge {α : Type} {p : α → Bool} {l : List α} : decide (0 ≤ idxI p l) = l.any p := by
  unfold idxI
  cases l.any p <;> simp
theorem idx_le {α : Type} {p : α → Bool} {l : List α} : -1 ≤ idxI p l ∧ idxI p l < l.length := by
  unfold idxI
  split
  · rename_i h
    obtain ⟨x, hx, hp⟩ := List.any_eq_true.1 h
    have := List.findIdx_lt_length_of_exists ⟨x, hx, hp⟩
    omega
  · omega
end Go.VC
/- Searching lists of texts; sorted lists. -/
namespace Go.VC
open Go
def SortedS (l : List ByteArray) : Prop := ∀ k, (h : k + 1 < l.length) → sLt l[k + 1] (l[k]'(by omega)) = false
noncomputable instance (l : List ByteArray) : Decidable (SortedS l) := Classical.propDecidable _
end Go.VC
namespace Go.VC.T
open Go Go.VC Go.Proofs Go.VC.F
set_option linter.unusedSimpArgs false
set_option linter.unusedVariables false
set_option linter.defProp false
set_option maxRecDepth 100000
set_option maxHeartbeats 2000000
def fc60A23 := (And.intro (And.intro (And.intro (And.intro sz3 ag3) (And.intro zv3 un3)) (And.intro (And.intro sz4 ag4) (And.intro zv4 (And.intro un4 sz9)))) (And.intro (And.intro (And.intro ag9 zv9) (And.intro un9 (And.intro sz63 ag63))) (And.intro (And.intro zv63 sb63) (And.intro un63 (And.intro el63 ap63)))))
theorem indexOf_ok (xs : List ByteArray) (s : ByteArray) (hx : xs.length ≤ 2^48) : FnS Try.prog 60 [] [slT eS xs, sT s] [] (iT (idxI (fun x => decide (x = s)) xs)) := by
  refine FnS.go [0, 1, 4, 5, 9, 17] [] Try.func60 rfl (fun kt kz => ?_)
  have fcx := fc60A23
  simp only [Try.f60]
  refine Run (cast_succ) ?_; repeat' (first | (with_reducible exact True.intro) | (with_reducible refine Lf.mk ?_ ?_) | (with_reducible intro hb))
  refine Trn (α := Nat) [4, 5, 6, 7, 8, 9, 10, 11, 12, 13, 14, 15, 16, 17, 18] (fun i => [(5, iT i)]) (fun i => []) (fun i => i ≤ xs.length ∧ (xs.take i).any (fun x => decide (x = s)) = false) (fun i => xs.length - i) (0) (⟨Nat.zero_le _, rfl⟩) (cast_succ) ?_; intro lx hI; obtain i := lx; (try simp only [List.nil_append, List.cons_append] at hI ⊢)
  by_cases hlt : lx < xs.length
  · refine Run ((And.intro @hlt @eS.eq_1)) ?_; repeat' (first | (with_reducible exact True.intro) | (with_reducible refine Lf.mk ?_ ?_) | (with_reducible intro hb))
    · rw [idx_at (p := fun x => decide (x = s)) hlt hI.2 (by simpa using hb)]
    · exact Nxt (cast_succ) (lx + 1) (⟨by omega, any_take hlt hI.2 (by simpa using hb)⟩) (by first | omega | (simp; omega))
  · have ha := any_all (by omega) hI.2
    refine Run (@hlt) ?_; repeat' (first | (with_reducible exact True.intro) | (with_reducible refine Lf.mk ?_ ?_) | (with_reducible intro hb))
    rw [idx_no ha]
def fc117A23 := (And.intro (And.intro (And.intro (And.intro sz3 ag3) (And.intro zv3 un3)) (And.intro (And.intro sz4 ag4) (And.intro zv4 (And.intro un4 sz9)))) (And.intro (And.intro (And.intro ag9 zv9) (And.intro un9 (And.intro sz63 ag63))) (And.intro (And.intro zv63 sb63) (And.intro un63 (And.intro el63 ap63)))))
theorem slIdxS_ok (xs : List ByteArray) (s : ByteArray) (hx : xs.length ≤ 2^48) : FnS Try.prog 117 [] [slT eS xs, sT s] [] (iT (idxI (fun x => decide (x = s)) xs)) := by
  refine FnS.go [0, 1, 4, 5, 7, 8, 9, 16] [] Try.func117 rfl (fun kt kz => ?_)
  have fcx := fc117A23
  simp only [Try.f117]
  refine Run (cast_succ) ?_; repeat' (first | (with_reducible exact True.intro) | (with_reducible refine Lf.mk ?_ ?_) | (with_reducible intro hb))
  refine Trn (α := Nat) [4, 5, 8, 9, 10, 11, 12, 13, 14, 15, 16, 17, 18] (fun i => [(8, iT i)]) (fun i => []) (fun i => i ≤ xs.length ∧ (xs.take i).any (fun x => decide (x = s)) = false) (fun i => xs.length - i) (0) (⟨Nat.zero_le _, rfl⟩) (cast_succ) ?_; intro lx hI; obtain i := lx; (try simp only [List.nil_append, List.cons_append] at hI ⊢)
  by_cases hlt : lx < xs.length
  · refine Run ((And.intro @hlt @eS.eq_1)) ?_; repeat' (first | (with_reducible exact True.intro) | (with_reducible refine Lf.mk ?_ ?_) | (with_reducible intro hb))
    · rw [idx_at (p := fun x => decide (x = s)) hlt hI.2 (by simpa using hb.symm)]
    · exact Nxt (cast_succ) (lx + 1) (⟨by omega, any_take hlt hI.2 (by simpa using fun h => hb h.symm)⟩) (by first | omega | (simp; omega))
  · have ha := any_all (by omega) hI.2
    refine Run (@hlt) ?_; repeat' (first | (with_reducible exact True.intro) | (with_reducible refine Lf.mk ?_ ?_) | (with_reducible intro hb))
    rw [idx_no ha]
def fc171A23 := (And.intro (And.intro (And.intro (And.intro sz3 ag3) (And.intro zv3 (And.intro un3 sz4))) (And.intro (And.intro ag4 zv4) (And.intro un4 (And.intro sz9 ag9)))) (And.intro (And.intro (And.intro zv9 un9) (And.intro sz63 (And.intro ag63 zv63))) (And.intro (And.intro sb63 un63) (And.intro el63 (And.intro ap63 okf117)))))
theorem slHasS_ok (xs : List ByteArray) (s : ByteArray) (hx : xs.length ≤ 2^48) : FnS Try.prog 171 [] [slT eS xs, sT s] [] (bT (xs.any (fun x => decide (x = s)))) := by
  refine FnS.go [0, 1, 4] [] Try.func171 rfl (fun kt kz => ?_)
  have fcx := fc171A23
  simp only [Try.f171]
  refine Run (cast_succ) ?_; repeat' (first | (with_reducible exact True.intro) | (with_reducible refine Lf.mk ?_ ?_) | (with_reducible intro hb))
  refine Cal (cast_succ) (slIdxS_ok xs s hx) ?_
  refine Run ((idx_ge (p := fun x => decide (x = s)) (l := xs))) ?_; repeat' (first | (with_reducible exact True.intro) | (with_reducible refine Lf.mk ?_ ?_) | (with_reducible intro hb))
def fc244A23 := (And.intro (And.intro (And.intro (And.intro sz3 ag3) (And.intro zv3 (And.intro un3 sz4))) (And.intro (And.intro ag4 (And.intro zv4 un4)) (And.intro sz9 (And.intro ag9 zv9)))) (And.intro (And.intro (And.intro un9 sz63) (And.intro ag63 (And.intro zv63 sb63))) (And.intro (And.intro un63 (And.intro el63 ap63)) (And.intro sz200 (And.intro ag200 zv200)))))
theorem slIdxFS_ok (g : Nat) (hg : fnOk Try.prog g = true) (c : IV) (p : ByteArray → Bool) (xs : List ByteArray) (hx : xs.length ≤ 2^48) (H : ∀ x ∈ xs, FnP Try.prog g [sT x, .c (.im c)] (bT (p x))) : FnS Try.prog 244 [] [slT eS xs, .c (.im (.fn g [c]))] [] (iT (idxI p xs)) := by
  refine FnS.go [0, 1, 4, 5, 7, 8, 9, 16] [] Try.func244 rfl (fun kt kz => ?_)
  have fcx := fc244A23
  simp only [Try.f244]
  refine Run (cast_succ) ?_; repeat' (first | (with_reducible exact True.intro) | (with_reducible refine Lf.mk ?_ ?_) | (with_reducible intro hb))
  refine Trn (α := Nat) [4, 5, 8, 9, 10, 11, 12, 13, 14, 15, 16, 17, 18] (fun i => [(8, iT i)]) (fun i => []) (fun i => i ≤ xs.length ∧ (xs.take i).any p = false) (fun i => xs.length - i) (0) (⟨Nat.zero_le _, rfl⟩) (cast_succ) ?_; intro lx hI; obtain i := lx; (try simp only [List.nil_append, List.cons_append] at hI ⊢)
  by_cases hlt : lx < xs.length
  · refine Run ((And.intro @hlt (And.intro @eS.eq_1 @hg))) ?_; repeat' (first | (with_reducible exact True.intro) | (with_reducible refine Lf.mk ?_ ?_) | (with_reducible intro hb))
    refine Cal (cast_succ) (H _ (List.getElem_mem hlt)) ?_
    refine Run (cast_succ) ?_; repeat' (first | (with_reducible exact True.intro) | (with_reducible refine Lf.mk ?_ ?_) | (with_reducible intro hb))
    · rw [idx_at hlt hI.2 hb]
    · exact Nxt (cast_succ) (lx + 1) (⟨by omega, any_take hlt hI.2 hb⟩) (by first | omega | (simp; omega))
  · have ha := any_all (by omega) hI.2
    refine Run (@hlt) ?_; repeat' (first | (with_reducible exact True.intro) | (with_reducible refine Lf.mk ?_ ?_) | (with_reducible intro hb))
    rw [idx_no ha]
def fc239A23 := (And.intro (And.intro (And.intro (And.intro sz3 ag3) (And.intro zv3 un3)) (And.intro (And.intro sz4 ag4) (And.intro zv4 (And.intro un4 sz63)))) (And.intro (And.intro (And.intro ag63 zv63) (And.intro sb63 (And.intro un63 el63))) (And.intro (And.intro ap63 sz200) (And.intro ag200 (And.intro zv200 okf244)))))
theorem slHasFS_ok (g : Nat) (hg : fnOk Try.prog g = true) (c : IV) (p : ByteArray → Bool) (xs : List ByteArray) (hx : xs.length ≤ 2^48) (H : ∀ x ∈ xs, FnP Try.prog g [sT x, .c (.im c)] (bT (p x))) : FnS Try.prog 239 [] [slT eS xs, .c (.im (.fn g [c]))] [] (bT (xs.any p)) := by
  refine FnS.go [0, 1, 4] [] Try.func239 rfl (fun kt kz => ?_)
  have fcx := fc239A23
  simp only [Try.f239]
  refine Run (cast_succ) ?_; repeat' (first | (with_reducible exact True.intro) | (with_reducible refine Lf.mk ?_ ?_) | (with_reducible intro hb))
  refine Cal (cast_succ) (slIdxFS_ok g hg c p xs hx H) ?_
  refine Run ((idx_ge (p := p) (l := xs))) ?_; repeat' (first | (with_reducible exact True.intro) | (with_reducible refine Lf.mk ?_ ?_) | (with_reducible intro hb))
def fc196A23 := (And.intro (And.intro (And.intro sz4 ag4) (And.intro zv4 un4)) (And.intro (And.intro sz9 ag9) (And.intro zv9 (And.intro un9 okf211))))
theorem cmpLess_ok (x y : ByteArray) : FnS Try.prog 196 [] [sT x, sT y] [] (bT (sLt x y)) := by
  refine FnS.go [0, 1, 4] [] Try.func196 rfl (fun kt kz => ?_)
  have fcx := fc196A23
  simp only [Try.f196]
  refine Run (cast_succ) ?_; repeat' (first | (with_reducible exact True.intro) | (with_reducible refine Lf.mk ?_ ?_) | (with_reducible intro hb))
  refine Cal (cast_succ) (isNaNS_ok x) ?_
  refine Run (cast_succ) ?_; repeat' (first | (with_reducible exact True.intro) | (with_reducible refine Lf.mk ?_ ?_) | (with_reducible intro hb))
def fc172A23 := (And.intro (And.intro (And.intro (And.intro sz3 ag3) (And.intro zv3 (And.intro un3 sz4))) (And.intro (And.intro ag4 zv4) (And.intro un4 (And.intro sz9 ag9)))) (And.intro (And.intro (And.intro zv9 un9) (And.intro sz63 (And.intro ag63 zv63))) (And.intro (And.intro sb63 un63) (And.intro el63 (And.intro ap63 okf196)))))
theorem slSortedS_ok (xs : List ByteArray) (hx : xs.length ≤ 2^48) : FnS Try.prog 172 [] [slT eS xs] [] (bT (decide (SortedS xs))) := by
  refine FnS.go [0, 2, 3, 8, 20] [] Try.func172 rfl (fun kt kz => ?_)
  have fcx := fc172A23
  simp only [Try.f172]
  by_cases h0 : xs = []
  · subst h0
    refine Run (cast_succ) ?_; repeat' (first | (with_reducible exact True.intro) | (with_reducible refine Lf.mk ?_ ?_) | (with_reducible intro hb))
    refine Trn (α := Nat) [2, 3, 7, 8, 9, 10, 11, 12, 13, 14, 15, 16, 17, 18, 19, 20] (fun i => [(3, iT (((0 : Nat) : Int) - 1))]) (fun i => []) (fun i => True) (fun i => i) (0) (trivial) (cast_succ) ?_; intro lx hI; obtain i := lx; (try simp only [List.nil_append, List.cons_append] at hI ⊢)
    refine Run (cast_succ) ?_; repeat' (first | (with_reducible exact True.intro) | (with_reducible refine Lf.mk ?_ ?_) | (with_reducible intro hb))
    · omega
    · rw [decide_eq_true (show SortedS [] from fun k h => by simp at h)]
  · have hl : 0 < xs.length := List.length_pos_iff.2 h0
    refine Run (cast_succ) ?_; repeat' (first | (with_reducible exact True.intro) | (with_reducible refine Lf.mk ?_ ?_) | (with_reducible intro hb))
    refine Trn (α := Nat) [2, 3, 7, 8, 9, 10, 11, 12, 13, 14, 15, 16, 17, 18, 19, 20] (fun i => [(3, iT (i : Int))]) (fun i => []) (fun i => i < xs.length ∧ ∀ k, (h : k + 1 < xs.length) → i ≤ k → sLt xs[k + 1] (xs[k]'(by omega)) = false) (fun i => i) (xs.length - 1) (⟨by omega, fun k h hk => by omega⟩) ((show ((xs.length - 1 : Nat) : Int) = (xs.length : Int) - 1 by omega)) ?_; intro lx hI; obtain i := lx; (try simp only [List.nil_append, List.cons_append] at hI ⊢)
    by_cases hp : 0 < lx
    · have hz : (0 : Int) < (lx : Int) := by omega
      refine Run ((And.intro @hz @eS.eq_1)) ?_; repeat' (first | (with_reducible exact True.intro) | (with_reducible refine Lf.mk ?_ ?_) | (with_reducible intro hb))
      refine Cal (cast_succ) (cmpLess_ok xs[lx] xs[lx - 1]) ?_
      refine Run (cast_succ) ?_; repeat' (first | (with_reducible exact True.intro) | (with_reducible refine Lf.mk ?_ ?_) | (with_reducible intro hb))
      · rw [decide_eq_false fun hs => by
          have h1 := hs (lx - 1) (by omega)
          have e : lx - 1 + 1 = lx := by omega
          simp only [e] at h1
          rw [hb] at h1; cases h1]
      · exact Nxt ((show ((lx - 1 : Nat) : Int) = (lx : Int) - 1 by omega)) (lx - 1) (⟨by omega, fun k h hk => by
          by_cases hk2 : lx ≤ k
          · exact hI.2 k h hk2
          · have e : k = lx - 1 := by omega
            subst e
            have e : lx - 1 + 1 = lx := by omega
            simp only [e]
            exact hb⟩) (by omega)
    · have hz : ¬ (0 : Int) < (lx : Int) := by omega
      refine Run (@hz) ?_; repeat' (first | (with_reducible exact True.intro) | (with_reducible refine Lf.mk ?_ ?_) | (with_reducible intro hb))
      rw [decide_eq_true (show SortedS xs from fun k h => hI.2 k h (by omega))]

end Go.VC.T
/- Data (Mono): how they are measured, copied and compared. -/
namespace Go.VC.T
open Go Go.VC Go.Proofs Go.VC.F
set_option linter.unusedSimpArgs false
set_option linter.unusedVariables false
set_option linter.defProp false
set_option maxRecDepth 100000
set_option maxHeartbeats 2000000
def fc126SMono := (And.intro (And.intro (And.intro (And.intro sz3 ag3) (And.intro zv3 (And.intro un3 sz4))) (And.intro (And.intro ag4 (And.intro zv4 un4)) (And.intro sz63 (And.intro ag63 zv63)))) (And.intro (And.intro (And.intro sb63 un63) (And.intro el63 (And.intro ap63 sz179))) (And.intro (And.intro ag179 (And.intro zv179 fl179_0)) (And.intro fl179_1 (And.intro pl179 okf139)))))
theorem szMono_ok (t : Mono) (h : okMono (2^48) t) (left : Int) (hl : 0 ≤ left ∧ left ≤ 2^20) : FnS Try.prog 126 [] [agT (eMono t), iT left] [] (iT (szR (zMono t) left)) := by
  refine FnS.go [0, 1, 2, 4, 10] [] Try.func126 rfl (fun kt kz => ?_)
  have fcx := fc126SMono
  simp only [Try.f126]
  have ho := okMono_iff.1 h
  refine Run ((And.intro @eMono_eta @szR_add)) ?_; repeat' (first | (with_reducible exact True.intro) | (with_reducible refine Lf.mk ?_ ?_) | (with_reducible intro hb))
  refine Cal ((And.intro @eMono_eta @szR_add)) (szStringS_ok _ ho.2 _ hl) ?_
  have hz := szR_le (n := zSL t.vars) hl.1
  refine Run ((And.intro @eMono_eta @szR_add)) ?_; repeat' (first | (with_reducible exact True.intro) | (with_reducible refine Lf.mk ?_ ?_) | (with_reducible intro hb))
  · congr 4; have s1 := szR_spec (zSL t.vars) left; have s2 := szR_spec (zMono t) left; rw [zMono_eta] at s2 ⊢; omega
  · skip
    rw [zMono_eta]
def fc72SMono := (And.intro (And.intro (And.intro (And.intro sz3 ag3) (And.intro zv3 (And.intro un3 sz4))) (And.intro (And.intro ag4 (And.intro zv4 un4)) (And.intro sz50 (And.intro ag50 zv50)))) (And.intro (And.intro (And.intro sb50 (And.intro un50 el50)) (And.intro ap50 (And.intro sz179 ag179))) (And.intro (And.intro zv179 (And.intro fl179_0 fl179_1)) (And.intro pl179 (And.intro okf126 sz63)))))
theorem szMonoS_of (xs : List Mono) (hx : okLs (2^48) okMono xs) (H : ∀ t ∈ xs, ∀ left : Int, 0 ≤ left ∧ left ≤ 2^20 → FnP Try.prog 126 [agT (eMono t), iT left] (iT (szR (zMono t) left))) (left : Int) (hl : 0 ≤ left ∧ left ≤ 2^20) : FnS Try.prog 72 [] [slT eMono xs, iT left] [] (iT (szR (zL zMono xs) left)) := by
  refine FnS.go [0, 1, 4, 5, 11, 15, 25] [] Try.func72 rfl (fun kt kz => ?_)
  have fcx := fc72SMono
  simp only [Try.f72]
  have hx1 := hx.1
  refine Run (cast_succ) ?_; repeat' (first | (with_reducible exact True.intro) | (with_reducible refine Lf.mk ?_ ?_) | (with_reducible intro hb))
  · simp only [szR_nil hb zL_len]
  · rw [szR_sub hb]
    have hb2 := szR_sub hb ▸ hb
    refine Trn (α := Nat) [1, 4, 5, 12, 13, 14, 15, 16, 17, 18, 19, 20, 21, 22, 23, 24, 25] (fun i => [(5, iT i), (1, iT (szR (zT zMono xs i) left))]) (fun i => []) (fun i => i ≤ xs.length ∧ 0 ≤ szR (zT zMono xs i) left) (fun i => xs.length - i) (0) (⟨Nat.zero_le _, by rw [zT_zero]; exact hb2⟩) ((zT_zero (z := zMono) (l := xs))) ?_; intro lx hI; obtain i := lx; (try simp only [List.nil_append, List.cons_append] at hI ⊢)
    have hz := szR_le (n := zT zMono xs lx) hl.1
    by_cases hlt : lx < xs.length
    · have e : szR (zMono xs[lx]) (szR (zT zMono xs lx) left) = szR (zT zMono xs (lx + 1)) left := by rw [zT_succ hlt, ← szR_add]
      refine Run (@eMono_eta) ?_; repeat' (first | (with_reducible exact True.intro) | (with_reducible refine Lf.mk ?_ ?_) | (with_reducible intro hb))
      · refine Cal (@eMono_eta) (H _ (List.getElem_mem hlt) _ ⟨hI.2, by omega⟩) ?_
        refine Run (cast_succ) ?_; repeat' (first | (with_reducible exact True.intro) | (with_reducible refine Lf.mk ?_ ?_) | (with_reducible intro hb))
        · rw [e] at hb
          rw [szR_neg hb zT_le]
        · rw [e] at hb
          exact Nxt (@e) (lx + 1) (⟨by omega, hb⟩) (by first | omega | (simp; omega))
      · omega
    · refine Run (cast_succ) ?_; repeat' (first | (with_reducible exact True.intro) | (with_reducible refine Lf.mk ?_ ?_) | (with_reducible intro hb))
      · omega
      · rw [zT_all (by omega)]

theorem szMonoS_ok (xs : List Mono) (h : okLs (2^48) okMono xs) (left : Int) (hl : 0 ≤ left ∧ left ≤ 2^20) : FnP Try.prog 72 [slT eMono xs, iT left] (iT (szR (zL zMono xs) left)) := szMonoS_of xs h (fun t ht left hl => szMono_ok t (h.2 t ht) left hl) left hl
def fc129SMono := (And.intro (And.intro (And.intro (And.intro sz3 (And.intro ag3 zv3)) (And.intro un3 (And.intro sz63 ag63))) (And.intro (And.intro zv63 (And.intro sb63 un63)) (And.intro el63 (And.intro ap63 sz125)))) (And.intro (And.intro (And.intro ag125 (And.intro zv125 fl125_0)) (And.intro fl125_1 (And.intro pl125 sz179))) (And.intro (And.intro ag179 (And.intro zv179 fl179_0)) (And.intro fl179_1 (And.intro pl179 okf143)))))
theorem toMono_w (t : Mono) (h : okMono (2^20) t) : FnS Try.prog 129 [] [agT (eMono t)] [(1000, .row t.vars.length (t.vars.flatMap eS))] (.ag [.im (.sc (.int .i64 t.coef)), .os 1000 t.vars.length]) := by
  refine FnS.go [0, 1, 2, 3] [] Try.func129 rfl (fun kt kz => ?_)
  have fcx := fc129SMono
  simp only [Try.f129]
  have ho := okMono_iff.1 h
  refine Run (@eMono_eta) ?_; repeat' (first | (with_reducible exact True.intro) | (with_reducible refine Lf.mk ?_ ?_) | (with_reducible intro hb))
  refine CalI (@eMono_eta) (toStringS_o _ ho.2 1000) ?_
  refine Run (@eMono_eta) ?_; repeat' (first | (with_reducible exact True.intro) | (with_reducible refine Lf.mk ?_ ?_) | (with_reducible intro hb))

theorem toMono_o (t : Mono) (h : okMono (2^20) t) : ∀ q0 : Nat, [q0].Nodup → FnS Try.prog 129 [] [agT (eMono t)] [(q0, .row t.vars.length (t.vars.flatMap eS))] (.ag [.im (.sc (.int .i64 t.coef)), .os q0 t.vars.length]) := by
  intro q0 hq
  obtain ⟨p, hp⟩ := pml [1000] [q0] (by decide) hq rfl
  simp only [List.map_cons, List.map_nil, List.cons.injEq, and_true] at hp
  refine ((toMono_w t h).rows.pm p).as ?_ ?_ <;> simp [rowS, rowO, renS, Ob.ren, TV.ren, renL, Cell.ren, hp]
def fc76SMono := (And.intro (And.intro (And.intro (And.intro (And.intro sz3 ag3) (And.intro zv3 un3)) (And.intro (And.intro sz4 ag4) (And.intro zv4 (And.intro un4 sz50)))) (And.intro (And.intro (And.intro ag50 zv50) (And.intro sb50 un50)) (And.intro (And.intro el50 ap50) (And.intro sz54 (And.intro ag54 zv54))))) (And.intro (And.intro (And.intro (And.intro sb54 un54) (And.intro el54 ap54)) (And.intro (And.intro sz125 ag125) (And.intro zv125 (And.intro fl125_0 fl125_1)))) (And.intro (And.intro (And.intro pl125 sz179) (And.intro ag179 zv179)) (And.intro (And.intro fl179_0 fl179_1) (And.intro pl179 (And.intro okf129 sz63))))))
theorem toMonoS_w (xs : List Mono) (hx : okLs (2^20) okMono xs) (H : ∀ t ∈ xs, ∀ q0 : Nat, [q0].Nodup → FnS Try.prog 129 [] [agT (eMono t)] [(q0, .row t.vars.length (t.vars.flatMap eS))] (.ag [.im (.sc (.int .i64 t.coef)), .os q0 t.vars.length])) : FnS Try.prog 76 [] [slT eMono xs] [(14, .vec 125 2 xs.length (xs.flatMap eMono) true)] (.c (.os 14 xs.length)) := by
  refine FnS.go [0, 2, 3, 4, 11] [] Try.func76 rfl (fun kt kz => ?_)
  have fcx := fc76SMono
  simp only [Try.f76]
  have hx1 := hx.1
  refine Run (cast_succ) ?_; repeat' (first | (with_reducible exact True.intro) | (with_reducible refine Lf.mk ?_ ?_) | (with_reducible intro hb))
  refine Trn (α := Nat) [4, 8, 9, 10, 11, 12, 13, 14, 15, 16, 17, 18, 19, 20, 21] (fun i => [(4, iT i), (3, .c (.os 14 xs.length))]) (fun i => [(14, .vec 125 2 xs.length (filled eMono [.sc (.int .i64 0), .sl 0 []] xs i) true)]) (fun i => i ≤ xs.length) (fun i => xs.length - i) (0) (Nat.zero_le _) (cast_succ) ?_; intro lx hI; obtain i := lx; (try simp only [List.nil_append, List.cons_append] at hI ⊢)
  refine Run (@eMono_eta) ?_; repeat' (first | (with_reducible exact True.intro) | (with_reducible refine Lf.mk ?_ ?_) | (with_reducible intro hb))
  · refine CalI (@eMono_eta) (H _ (List.getElem_mem hb) 1000 (by decide)) ?_
    refine Run (@eMono_eta) ?_; repeat' (first | (with_reducible exact True.intro) | (with_reducible refine Lf.mk ?_ ?_) | (with_reducible intro hb))
    have hs := filled_step' (E := eMono) (zs := [.sc (.int .i64 0), .sl 0 []]) hb
    simp only [eMono_eta, setL_st, stL_one, slI] at hs
    exact Nxt (@hs) (lx + 1) (by omega) (by first | omega | (simp; omega))

theorem toMonoS_q (xs : List Mono) (hx : okLs (2^20) okMono xs) (H : ∀ t ∈ xs, ∀ q0 : Nat, [q0].Nodup → FnS Try.prog 129 [] [agT (eMono t)] [(q0, .row t.vars.length (t.vars.flatMap eS))] (.ag [.im (.sc (.int .i64 t.coef)), .os q0 t.vars.length])) (q : Nat) : FnS Try.prog 76 [] [slT eMono xs] [(q, .row xs.length (xs.flatMap eMono))] (.c (.os q xs.length)) := by
  obtain ⟨p, hp⟩ := pm1 14 q
  refine ((toMonoS_w xs hx H).rows.pm p).as ?_ ?_ <;> simp [rowS, rowO, renS, Ob.ren, TV.ren, Cell.ren, hp]

theorem toMonoS_o (xs : List Mono) (h : okLs (2^20) okMono xs) (q : Nat) : FnS Try.prog 76 [] [slT eMono xs] [(q, .row xs.length (xs.flatMap eMono))] (.c (.os q xs.length)) := toMonoS_q xs h (fun t ht => toMono_o t (h.2 t ht)) q
def fc137SMono := (And.intro (And.intro (And.intro (And.intro sz3 ag3) (And.intro zv3 (And.intro un3 sz4))) (And.intro (And.intro ag4 (And.intro zv4 un4)) (And.intro sz63 (And.intro ag63 zv63)))) (And.intro (And.intro (And.intro sb63 un63) (And.intro el63 (And.intro ap63 sz125))) (And.intro (And.intro ag125 (And.intro zv125 fl125_0)) (And.intro fl125_1 (And.intro pl125 okf147)))))
theorem eqMono_ok (t : Mono) (h : okMono (2^20) t) : FnS Try.prog 137 [] [agT (eMono t), agT (eMono t)] [] (bT true) := by
  refine FnS.go [0, 1, 2, 3, 4, 9, 15] [] Try.func137 rfl (fun kt kz => ?_)
  have fcx := fc137SMono
  simp only [Try.f137]
  have ho := okMono_iff.1 h
  refine Run (@eMono_eta) ?_; repeat' (first | (with_reducible exact True.intro) | (with_reducible refine Lf.mk ?_ ?_) | (with_reducible intro hb))
  refine Cal (@eMono_eta) (eqStringS_rf _ ho.2) ?_
  refine Run (@eMono_eta) ?_; repeat' (first | (with_reducible exact True.intro) | (with_reducible refine Lf.mk ?_ ?_) | (with_reducible intro hb))
def fc81SMono := (And.intro (And.intro (And.intro (And.intro sz3 ag3) (And.intro zv3 (And.intro un3 sz4))) (And.intro (And.intro ag4 (And.intro zv4 un4)) (And.intro sz54 (And.intro ag54 zv54)))) (And.intro (And.intro (And.intro sb54 (And.intro un54 el54)) (And.intro ap54 (And.intro sz125 ag125))) (And.intro (And.intro zv125 (And.intro fl125_0 fl125_1)) (And.intro pl125 (And.intro okf137 sz63)))))
theorem eqMonoS_of (xs : List Mono) (hx : okLs (2^20) okMono xs) (H : ∀ t ∈ xs, FnP Try.prog 137 [agT (eMono t), agT (eMono t)] (bT true)) : FnS Try.prog 81 [] [slT eMono xs, slT eMono xs] [] (bT true) := by
  refine FnS.go [0, 1, 4, 5, 10, 14, 26] [] Try.func81 rfl (fun kt kz => ?_)
  have fcx := fc81SMono
  simp only [Try.f81]
  have hx1 := hx.1
  refine Run (cast_succ) ?_; repeat' (first | (with_reducible exact True.intro) | (with_reducible refine Lf.mk ?_ ?_) | (with_reducible intro hb))
  refine Trn (α := Nat) [4, 5, 11, 12, 13, 14, 15, 16, 17, 18, 19, 20, 21, 22, 23, 24, 25, 26] (fun i => [(5, iT i)]) (fun i => []) (fun i => i ≤ xs.length) (fun i => xs.length - i) (0) (Nat.zero_le _) (cast_succ) ?_; intro lx hI; obtain i := lx; (try simp only [List.nil_append, List.cons_append] at hI ⊢)
  refine Run (@eMono_eta) ?_; repeat' (first | (with_reducible exact True.intro) | (with_reducible refine Lf.mk ?_ ?_) | (with_reducible intro hb))
  · refine Cal (@eMono_eta) (H _ (List.getElem_mem hb)) ?_
    refine Run (@eMono_eta) ?_; repeat' (first | (with_reducible exact True.intro) | (with_reducible refine Lf.mk ?_ ?_) | (with_reducible intro hb))
    exact Nxt (cast_succ) (lx + 1) (by omega) (by first | omega | (simp; omega))

theorem eqMonoS_ok (xs : List Mono) (h : okLs (2^20) okMono xs) : FnP Try.prog 81 [slT eMono xs, slT eMono xs] (bT true) := eqMonoS_of xs h (fun t ht => eqMono_ok t (h.2 t ht))
theorem toMono_ok (t : Mono) (h : okMono (2^20) t) : FnP Try.prog 129 [agT (eMono t)] (agT (eMono t)) := (toMono_o t h 1000 (by decide)).tree (by simp -dsimp (maxSteps := 2000000) (disch := omega) only [vs, ↓Option.bind_some, ev1, ofV, scalarB, Kn, Kb, calleeOf, evLoad, ptr, evField, evFieldAddr, shift, ↓pt_at, ↓pt_at1, evExtract, evBin, evLen, evConv, cellsT, noS, Cell.has, Cell.hasN, Cell.anyN, toIV, toIV0, toIVs, ownC, srcM, Ob.own, Ob.esz, allSc, nilK, lenC, ownCell, isPtr, ptrNil, frzO, Cell.frz, Cell.keys, ↓reduceIte, reduceCtorEq, Nat.reduceEqDiff, Nat.reduceBEq, Nat.reduceBNe, Nat.reduceAdd, Nat.reduceMul, Nat.reduceSub, Nat.reduceLT, Nat.reduceLeDiff, Nat.reducePow, Int.reduceLT, Int.reduceLE, Int.reduceEq, Int.reduceNe, quietB, Nat.reduceMod, Int.reduceToNat, ne_eq, eq_self, exists_const, evBytes, byRow, byL, byStr_size, ifsz, ByteArray.size_append, Option.none_or, Option.some_or, evLook, keyD, eMono_eta])
theorem toMonoS_ok (xs : List Mono) (h : okLs (2^20) okMono xs) : FnP Try.prog 76 [slT eMono xs] (slT eMono xs) := (toMonoS_o xs h 1000).tree (by simp -dsimp (maxSteps := 2000000) (disch := omega) only [vs, ↓Option.bind_some, ev1, ofV, scalarB, Kn, Kb, calleeOf, evLoad, ptr, evField, evFieldAddr, shift, ↓pt_at, ↓pt_at1, evExtract, evBin, evLen, evConv, cellsT, noS, Cell.has, Cell.hasN, Cell.anyN, toIV, toIV0, toIVs, ownC, srcM, Ob.own, Ob.esz, allSc, nilK, lenC, ownCell, isPtr, ptrNil, frzO, Cell.frz, Cell.keys, ↓reduceIte, reduceCtorEq, Nat.reduceEqDiff, Nat.reduceBEq, Nat.reduceBNe, Nat.reduceAdd, Nat.reduceMul, Nat.reduceSub, Nat.reduceLT, Nat.reduceLeDiff, Nat.reducePow, Int.reduceLT, Int.reduceLE, Int.reduceEq, Int.reduceNe, quietB, Nat.reduceMod, Int.reduceToNat, ne_eq, eq_self, exists_const, evBytes, byRow, byL, byStr_size, ifsz, ByteArray.size_append, Option.none_or, Option.some_or, evLook, keyD])

end Go.VC.T
/- Data (Poly): how they are measured, copied and compared. -/
namespace Go.VC.T
open Go Go.VC Go.Proofs Go.VC.F
set_option linter.unusedSimpArgs false
set_option linter.unusedVariables false
set_option linter.defProp false
set_option maxRecDepth 100000
set_option maxHeartbeats 2000000
def fc28SPoly := (And.intro (And.intro (And.intro (And.intro sz3 ag3) (And.intro zv3 (And.intro un3 sz4))) (And.intro (And.intro ag4 zv4) (And.intro un4 (And.intro sz50 ag50)))) (And.intro (And.intro (And.intro zv50 sb50) (And.intro un50 (And.intro el50 ap50))) (And.intro (And.intro sz52 (And.intro ag52 zv52)) (And.intro fl52_0 (And.intro pl52 okf72)))))
theorem szPoly_ok (t : List Mono) (h : okPoly (2^48) t) (left : Int) (hl : 0 ≤ left ∧ left ≤ 2^20) : FnS Try.prog 28 [] [agT (ePoly t), iT left] [] (iT (szR (zPoly t) left)) := by
  refine FnS.go [0, 1, 2, 4, 10] [] Try.func28 rfl (fun kt kz => ?_)
  have fcx := fc28SPoly
  simp only [Try.f28]
  have ho := okPoly_iff.1 h
  refine Run ((And.intro @ePoly_eta @szR_add)) ?_; repeat' (first | (with_reducible exact True.intro) | (with_reducible refine Lf.mk ?_ ?_) | (with_reducible intro hb))
  refine Cal ((And.intro @ePoly_eta @szR_add)) (szMonoS_ok _ ho _ hl) ?_
  have hz := szR_le (n := zL zMono t) hl.1
  refine Run ((And.intro @ePoly_eta @szR_add)) ?_; repeat' (first | (with_reducible exact True.intro) | (with_reducible refine Lf.mk ?_ ?_) | (with_reducible intro hb))
  · congr 4; have s1 := szR_spec (zL zMono t) left; have s2 := szR_spec (zPoly t) left; rw [zPoly_eta] at s2 ⊢; omega
  · skip
    rw [zPoly_eta]

def fc30SPoly := (And.intro (And.intro (And.intro (And.intro sz50 (And.intro ag50 zv50)) (And.intro sb50 (And.intro un50 el50))) (And.intro (And.intro ap50 (And.intro sz52 ag52)) (And.intro zv52 (And.intro fl52_0 pl52)))) (And.intro (And.intro (And.intro sz54 (And.intro ag54 zv54)) (And.intro sb54 (And.intro un54 el54))) (And.intro (And.intro ap54 (And.intro sz56 ag56)) (And.intro (And.intro zv56 fl56_0) (And.intro pl56 okf76)))))
theorem toPoly_w (t : List Mono) (h : okPoly (2^20) t) : FnS Try.prog 30 [] [agT (ePoly t)] [(1000, .row t.length (t.flatMap eMono))] (.ag [.os 1000 t.length]) := by
  refine FnS.go [0, 1, 2, 3] [] Try.func30 rfl (fun kt kz => ?_)
  have fcx := fc30SPoly
  simp only [Try.f30]
  have ho := okPoly_iff.1 h
  refine Run (@ePoly_eta) ?_; repeat' (first | (with_reducible exact True.intro) | (with_reducible refine Lf.mk ?_ ?_) | (with_reducible intro hb))
  refine CalI (@ePoly_eta) (toMonoS_o _ ho 1000) ?_
  refine Run (@ePoly_eta) ?_; repeat' (first | (with_reducible exact True.intro) | (with_reducible refine Lf.mk ?_ ?_) | (with_reducible intro hb))

theorem toPoly_o (t : List Mono) (h : okPoly (2^20) t) : ∀ q0 : Nat, [q0].Nodup → FnS Try.prog 30 [] [agT (ePoly t)] [(q0, .row t.length (t.flatMap eMono))] (.ag [.os q0 t.length]) := by
  intro q0 hq
  obtain ⟨p, hp⟩ := pml [1000] [q0] (by decide) hq rfl
  simp only [List.map_cons, List.map_nil, List.cons.injEq, and_true] at hp
  refine ((toPoly_w t h).rows.pm p).as ?_ ?_ <;> simp [rowS, rowO, renS, Ob.ren, TV.ren, renL, Cell.ren, hp]

def fc32SPoly := (And.intro (And.intro (And.intro (And.intro sz4 ag4) (And.intro zv4 un4)) (And.intro (And.intro sz54 ag54) (And.intro zv54 sb54))) (And.intro (And.intro (And.intro un54 el54) (And.intro ap54 sz56)) (And.intro (And.intro ag56 zv56) (And.intro fl56_0 (And.intro pl56 okf81)))))
theorem eqPoly_ok (t : List Mono) (h : okPoly (2^20) t) : FnS Try.prog 32 [] [agT (ePoly t), agT (ePoly t)] [] (bT true) := by
  refine FnS.go [0, 1, 2, 3, 4, 10] [] Try.func32 rfl (fun kt kz => ?_)
  have fcx := fc32SPoly
  simp only [Try.f32]
  have ho := okPoly_iff.1 h
  refine Run (@ePoly_eta) ?_; repeat' (first | (with_reducible exact True.intro) | (with_reducible refine Lf.mk ?_ ?_) | (with_reducible intro hb))
  refine Cal (@ePoly_eta) (eqMonoS_ok _ ho) ?_
  refine Run (@ePoly_eta) ?_; repeat' (first | (with_reducible exact True.intro) | (with_reducible refine Lf.mk ?_ ?_) | (with_reducible intro hb))

theorem toPoly_ok (t : List Mono) (h : okPoly (2^20) t) : FnP Try.prog 30 [agT (ePoly t)] (agT (ePoly t)) := (toPoly_o t h 1000 (by decide)).tree (by simp -dsimp (maxSteps := 2000000) (disch := omega) only [vs, ↓Option.bind_some, ev1, ofV, scalarB, Kn, Kb, calleeOf, evLoad, ptr, evField, evFieldAddr, shift, ↓pt_at, ↓pt_at1, evExtract, evBin, evLen, evConv, cellsT, noS, Cell.has, Cell.hasN, Cell.anyN, toIV, toIV0, toIVs, ownC, srcM, Ob.own, Ob.esz, allSc, nilK, lenC, ownCell, isPtr, ptrNil, frzO, Cell.frz, Cell.keys, ↓reduceIte, reduceCtorEq, Nat.reduceEqDiff, Nat.reduceBEq, Nat.reduceBNe, Nat.reduceAdd, Nat.reduceMul, Nat.reduceSub, Nat.reduceLT, Nat.reduceLeDiff, Nat.reducePow, Int.reduceLT, Int.reduceLE, Int.reduceEq, Int.reduceNe, quietB, Nat.reduceMod, Int.reduceToNat, ne_eq, eq_self, exists_const, evBytes, byRow, byL, byStr_size, ifsz, ByteArray.size_append, Option.none_or, Option.some_or, evLook, keyD, ePoly_eta])

end Go.VC.T
/- Marks as texts; rows of texts and numbers that are marked. -/
namespace Go.VC
/-- The digits of a number, ahead of a text. -/
def dgt (k : Nat) (out : ByteArray) : ByteArray := if _h : k = 0 then out else dgt (k / 10) (byStr [((48 + k % 10 : Nat) : Int)] ++ out)
termination_by k
decreasing_by omega
theorem dgt_zero {out : ByteArray} : dgt 0 out = out := by rw [dgt]; simp
theorem dgt_pos {k : Nat} {out : ByteArray} (h : 0 < k) : dgt k out = dgt (k / 10) (byStr [((48 + k % 10 : Nat) : Int)] ++ out) := by
  conv => lhs; rw [dgt]
  rw [dif_neg (by omega)]
def mT (k : Int) : ByteArray := if k ≤ 0 then ⟨#[109, 48]⟩ else ⟨#[109]⟩ ++ dgt k.toNat ⟨#[]⟩
end Go.VC
namespace Go.VC.T
open Go Go.VC Go.Proofs Go.VC.F
set_option linter.unusedSimpArgs false
set_option linter.unusedVariables false
set_option linter.defProp false
set_option maxRecDepth 100000
set_option maxHeartbeats 2000000
theorem dg_wrap (m : Nat) : IntKind.u8.wrap (IntKind.i64.wrap (48 + (m : Int).tmod 10)) = ((48 + m % 10 : Nat) : Int) := by
  have h : (m : Int).tmod 10 = ((m % 10 : Nat) : Int) := by rw [Int.tmod_eq_emod_of_nonneg (by omega)]; omega
  rw [h, wrap64 (by omega)]
  simp [IntKind.wrap, IntKind.signed, IntKind.bits]
  omega
theorem dg_div (m : Nat) : (m : Int).tdiv 10 = ((m / 10 : Nat) : Int) := by
  rw [Int.tdiv_eq_ediv_of_nonneg (by omega)]; omega
def fc121M0 := (And.intro (And.intro (And.intro (And.intro sz3 ag3) (And.intro zv3 (And.intro un3 sz4))) (And.intro (And.intro ag4 (And.intro zv4 un4)) (And.intro sz5 (And.intro ag5 zv5)))) (And.intro (And.intro (And.intro un5 (And.intro sz9 ag9)) (And.intro zv9 (And.intro un9 sz219))) (And.intro (And.intro ag219 (And.intro zv219 sb219)) (And.intro un219 (And.intro el219 ap219)))))
theorem markText_ok (k : Int) (hk : k ≤ 2^62) : FnS Try.prog 121 [] [iT k] [] (sT (mT k)) := by
  refine FnS.go [0, 2, 3, 5, 7] [] Try.func121 rfl (fun kt kz => ?_)
  have fcx := fc121M0
  simp only [Try.f121]
  refine Run (cast_succ) ?_; repeat' (first | (with_reducible exact True.intro) | (with_reducible refine Lf.mk ?_ ?_) | (with_reducible intro hb))
  · simp only [mT, if_pos hb]
  refine Trn (α := Nat × ByteArray) [0, 3, 6, 7, 8, 9, 10, 11, 12, 13, 14, 15, 16, 17] (fun ⟨m, o⟩ => [(0, iT (m : Int)), (3, sT o)]) (fun ⟨m, o⟩ => []) (fun ⟨m, o⟩ => (m : Int) ≤ 2^62 ∧ dgt m o = dgt k.toNat ⟨#[]⟩ ∧ o.size + m ≤ k.toNat) (fun ⟨m, o⟩ => m) ((k.toNat, ⟨#[]⟩)) (⟨by omega, rfl, by show 0 + k.toNat ≤ k.toNat; omega⟩) ((show ((k.toNat : Nat) : Int) = k by omega)) ?_; intro lx hI; obtain ⟨m, o⟩ := lx; (try simp only [List.nil_append, List.cons_append] at hI ⊢)
  have hk2 : (k.toNat : Int) ≤ 2^62 := by omega
  refine Run ((And.intro (dg_wrap m) (And.intro (dg_div m) (show (ByteArray.mk #[109]).size = 1 from rfl)))) ?_; repeat' (first | (with_reducible exact True.intro) | (with_reducible refine Lf.mk ?_ ?_) | (with_reducible intro hb))
  · exact Nxt (cast_succ) ((m / 10, byStr [((48 + m % 10 : Nat) : Int)] ++ o)) (⟨by omega, by rw [← dgt_pos (by omega)]; exact hI.2.1, by rw [ByteArray.size_append, byStr_size]; simp only [List.length_cons, List.length_nil]; omega⟩) (by first | omega | (simp; omega))
  · have hm : m = 0 := by omega
    subst hm
    have hd := hI.2.1
    rw [dgt_zero] at hd
    simp only [mT, if_neg (show ¬ k ≤ 0 by omega), hd]

end Go.VC.T
/- Rows of texts and numbers: how they are marked. -/
namespace Go.VC.T
open Go Go.VC Go.Proofs Go.VC.F
set_option linter.unusedSimpArgs false
set_option linter.unusedVariables false
set_option linter.defProp false
set_option maxRecDepth 100000
set_option maxHeartbeats 2000000
def fc122M1 := (And.intro (And.intro (And.intro (And.intro sz3 ag3) (And.intro zv3 (And.intro un3 sz4))) (And.intro (And.intro ag4 zv4) (And.intro un4 (And.intro sz9 ag9)))) (And.intro (And.intro (And.intro zv9 un9) (And.intro sz63 (And.intro ag63 zv63))) (And.intro (And.intro sb63 un63) (And.intro el63 (And.intro ap63 okf121)))))
theorem markStringS_of (xs : List ByteArray) (k : Int) (hk : 0 ≤ k ∧ k + (cnL (xs.flatMap eS) : Int) ≤ 2^60) : FnS Try.prog 122 [(1, .row xs.length (xs.flatMap eS))] [.c (.os 1 xs.length), iT k] [(1, .row xs.length (mkL mT k (xs.flatMap eS)))] (iT (k + (cnL (xs.flatMap eS) : Int))) := by
  refine FnS.go [0, 1, 4, 5, 9] [] Try.func122 rfl (fun kt kz => ?_)
  have fcx := fc122M1
  simp only [Try.f122]
  have hx : xs.length ≤ 2^60 := by have := cnL_len (E := eS) (xs := xs); omega
  refine Run (cast_succ) ?_; repeat' (first | (with_reducible exact True.intro) | (with_reducible refine Lf.mk ?_ ?_) | (with_reducible intro hb))
  refine Trn (α := Nat) [1, 5, 6, 7, 8, 9, 10, 11, 12, 13, 14, 15, 16, 17, 18] (fun i => [(5, iT i), (1, iT (k + (cnT eS xs i : Int)))]) (fun i => [(1, .row xs.length (mkA mT eS k xs i ++ (xs.drop i).flatMap eS))]) (fun i => i ≤ xs.length) (fun i => xs.length - i) (0) (Nat.zero_le _) ((And.intro (And.intro (mkA_zero mT (E := eS) (k := k) (xs := xs)) (cnT_zero (E := eS) (xs := xs))) (And.intro (List.drop_zero (l := xs)) (And.intro @Int.ofNat_zero @Int.add_zero)))) ?_; intro lx hI; obtain i := lx; (try simp only [List.nil_append, List.cons_append] at hI ⊢)
  by_cases hlt : lx < xs.length
  · have hA : (mkA mT eS k xs lx).length = lx := by have := mkA_len mT (E := eS) (k := k) (Nat.le_of_lt hlt); omega
    have hd := drop_flat (E := eS) hlt
    simp only [eS] at hd
    have hc := cnT_le (E := eS) (xs := xs) (i := lx + 1)
    have ecn : cnT eS xs (lx + 1) = cnT eS xs lx + (1) := by rw [cnT_succ hlt]; (simp only [eS, slI, cnL_i, cnL_s, cnL_l, cnL_n]) <;> omega
    have e : k + (cnT eS xs lx : Int) + 1 = k + (cnT eS xs (lx + 1) : Int) := by omega
    have ec : mkA mT eS k xs lx ++ (.sc (.string (mT (k + (cnT eS xs lx : Int)))) :: (xs.drop (lx + 1)).flatMap eS) = mkA mT eS k xs (lx + 1) ++ (xs.drop (lx + 1)).flatMap eS := by rw [mkA_succ mT hlt]; simp only [eS, slI, mkL_i, mkL_s, mkL_l, mkL_n, List.append_assoc, List.cons_append, List.nil_append]
    refine Run ((And.intro (And.intro @hd (And.intro @hlt @ivl)) (And.intro (And.intro @iv0 @ivs) (And.intro @ownCells_get (mid_set0 hA))))) ?_; repeat' (first | (with_reducible exact True.intro) | (with_reducible refine Lf.mk ?_ ?_) | (with_reducible intro hb))
    refine Cal ((And.intro (And.intro @hd (And.intro @hlt @ivl)) (And.intro (And.intro @iv0 @ivs) (And.intro @ownCells_get (mid_set0 hA))))) (markText_ok (k + (cnT eS xs lx : Int)) (by omega)) ?_
    refine Run ((And.intro (And.intro @hd (And.intro @hlt @ivl)) (And.intro (And.intro @iv0 @ivs) (And.intro @ownCells_get (mid_set0 hA))))) ?_; repeat' (first | (with_reducible exact True.intro) | (with_reducible refine Lf.mk ?_ ?_) | (with_reducible intro hb))
    exact Nxt ((And.intro @e @ec)) (lx + 1) (by omega) (by first | omega | (simp; omega))
  · have hge : xs.length ≤ lx := by omega
    have e1 := cnT_all (E := eS) hge
    have e2 := mkA_all mT (E := eS) (k := k) hge
    have e3 := drop_all (E := eS) hge
    refine Run ((And.intro (And.intro @e1 @e2) (And.intro @e3 @hlt))) ?_; repeat' (first | (with_reducible exact True.intro) | (with_reducible refine Lf.mk ?_ ?_) | (with_reducible intro hb))

theorem markStringS_ok (xs : List ByteArray) (k : Int) (hk : 0 ≤ k ∧ k + (cnL (xs.flatMap eS) : Int) ≤ 2^60) : FnS Try.prog 122 [(1, .row xs.length (xs.flatMap eS))] [.c (.os 1 xs.length), iT k] [(1, .row xs.length (mkL mT k (xs.flatMap eS)))] (iT (k + (cnL (xs.flatMap eS) : Int))) := markStringS_of xs k hk
theorem markStringS_q (xs : List ByteArray) (k : Int) (hk : 0 ≤ k ∧ k + (cnL (xs.flatMap eS) : Int) ≤ 2^60) (q : Nat) : FnS Try.prog 122 [(q, .row xs.length (xs.flatMap eS))] [.c (.os q xs.length), iT k] [(q, .row xs.length (mkL mT k (xs.flatMap eS)))] (iT (k + (cnL (xs.flatMap eS) : Int))) := by
  obtain ⟨p, hp⟩ := pm1 1 q
  refine ((markStringS_ok xs k hk).renA p).asA ?_ ?_ ?_ ?_ <;> simp [renS, Ob.ren, TV.ren, Cell.ren, hp]
def fc124M1 := (And.intro (And.intro (And.intro (And.intro sz3 ag3) (And.intro zv3 (And.intro un3 sz4))) (And.intro (And.intro ag4 zv4) (And.intro un4 (And.intro sz9 ag9)))) (And.intro (And.intro (And.intro zv9 un9) (And.intro sz63 (And.intro ag63 zv63))) (And.intro (And.intro sb63 un63) (And.intro el63 (And.intro ap63 okf121)))))
theorem heldStringS_of (xs : List ByteArray) (k : Int) (hk : 0 ≤ k ∧ k + (cnL (xs.flatMap eS) : Int) ≤ 2^60) : FnS Try.prog 124 [] [.c (.im (.sl xs.length (mkL mT k (xs.flatMap eS)))), iT k] [] (iT (k + (cnL (xs.flatMap eS) : Int))) := by
  refine FnS.go [0, 1, 4, 5, 9, 18] [] Try.func124 rfl (fun kt kz => ?_)
  have fcx := fc124M1
  simp only [Try.f124]
  have hx : xs.length ≤ 2^60 := by have := cnL_len (E := eS) (xs := xs); omega
  refine Run (cast_succ) ?_; repeat' (first | (with_reducible exact True.intro) | (with_reducible refine Lf.mk ?_ ?_) | (with_reducible intro hb))
  refine Trn (α := Nat) [1, 4, 5, 6, 7, 8, 9, 10, 11, 12, 13, 14, 15, 16, 17, 18, 19, 20] (fun i => [(5, iT i), (1, iT (k + (cnT eS xs i : Int)))]) (fun i => []) (fun i => i ≤ xs.length) (fun i => xs.length - i) (0) (Nat.zero_le _) ((And.intro (cnT_zero (E := eS) (xs := xs)) (And.intro @Int.ofNat_zero @Int.add_zero))) ?_; intro lx hI; obtain i := lx; (try simp only [List.nil_append, List.cons_append] at hI ⊢)
  by_cases hlt : lx < xs.length
  · have hp := pt_mk1 mT (E := eS) (k := k) hlt
    simp only [eS, slI, mkL_i, mkL_s, mkL_l, mkL_n, List.cons_append, List.nil_append] at hp
    have hc := cnT_le (E := eS) (xs := xs) (i := lx + 1)
    have ecn : cnT eS xs (lx + 1) = cnT eS xs lx + (1) := by rw [cnT_succ hlt]; (simp only [eS, slI, cnL_i, cnL_s, cnL_l, cnL_n]) <;> omega
    have e : k + (cnT eS xs lx : Int) + 1 = k + (cnT eS xs (lx + 1) : Int) := by omega
    refine Run ((And.intro @hp @hlt)) ?_; repeat' (first | (with_reducible exact True.intro) | (with_reducible refine Lf.mk ?_ ?_) | (with_reducible intro hb))
    refine Cal ((And.intro @hp @hlt)) (markText_ok (k + (cnT eS xs lx : Int)) (by omega)) ?_
    refine Run ((And.intro @hp @hlt)) ?_; repeat' (first | (with_reducible exact True.intro) | (with_reducible refine Lf.mk ?_ ?_) | (with_reducible intro hb))
    exact Nxt (@e) (lx + 1) (by omega) (by first | omega | (simp; omega))
  · have hge : xs.length ≤ lx := by omega
    have e1 := cnT_all (E := eS) hge
    refine Run ((And.intro @e1 @hlt)) ?_; repeat' (first | (with_reducible exact True.intro) | (with_reducible refine Lf.mk ?_ ?_) | (with_reducible intro hb))

theorem heldStringS_ok (xs : List ByteArray) (k : Int) (hk : 0 ≤ k ∧ k + (cnL (xs.flatMap eS) : Int) ≤ 2^60) : FnP Try.prog 124 [.c (.im (.sl xs.length (mkL mT k (xs.flatMap eS)))), iT k] (iT (k + (cnL (xs.flatMap eS) : Int))) := heldStringS_of xs k hk
def fc56M1 := (And.intro (And.intro (And.intro sz3 (And.intro ag3 zv3)) (And.intro (And.intro un3 sz4) (And.intro ag4 zv4))) (And.intro (And.intro (And.intro un4 sz95) (And.intro ag95 zv95)) (And.intro (And.intro sb95 un95) (And.intro el95 ap95))))
theorem markIntS_of (xs : List Int) (k : Int) (hk : 0 ≤ k ∧ k + (cnL (xs.flatMap eI) : Int) ≤ 2^60) : FnS Try.prog 56 [(1, .row xs.length (xs.flatMap eI))] [.c (.os 1 xs.length), iT k] [(1, .row xs.length (mkL mT k (xs.flatMap eI)))] (iT (k + (cnL (xs.flatMap eI) : Int))) := by
  refine FnS.go [0, 1, 4, 5, 9] [] Try.func56 rfl (fun kt kz => ?_)
  have fcx := fc56M1
  simp only [Try.f56]
  have hx : xs.length ≤ 2^60 := by have := cnL_len (E := eI) (xs := xs); omega
  refine Run (cast_succ) ?_; repeat' (first | (with_reducible exact True.intro) | (with_reducible refine Lf.mk ?_ ?_) | (with_reducible intro hb))
  refine Trn (α := Nat) [1, 5, 6, 7, 8, 9, 10, 11, 12, 13, 14, 15, 16, 17] (fun i => [(5, iT i), (1, iT (k + (cnT eI xs i : Int)))]) (fun i => [(1, .row xs.length (mkA mT eI k xs i ++ (xs.drop i).flatMap eI))]) (fun i => i ≤ xs.length) (fun i => xs.length - i) (0) (Nat.zero_le _) ((And.intro (And.intro (mkA_zero mT (E := eI) (k := k) (xs := xs)) (cnT_zero (E := eI) (xs := xs))) (And.intro (List.drop_zero (l := xs)) (And.intro @Int.ofNat_zero @Int.add_zero)))) ?_; intro lx hI; obtain i := lx; (try simp only [List.nil_append, List.cons_append] at hI ⊢)
  by_cases hlt : lx < xs.length
  · have hA : (mkA mT eI k xs lx).length = lx := by have := mkA_len mT (E := eI) (k := k) (Nat.le_of_lt hlt); omega
    have hd := drop_flat (E := eI) hlt
    simp only [eI] at hd
    have hc := cnT_le (E := eI) (xs := xs) (i := lx + 1)
    have ecn : cnT eI xs (lx + 1) = cnT eI xs lx + (1) := by rw [cnT_succ hlt]; (simp only [eI, slI, cnL_i, cnL_s, cnL_l, cnL_n]) <;> omega
    have e : k + (cnT eI xs lx : Int) + 1 = k + (cnT eI xs (lx + 1) : Int) := by omega
    have ec : mkA mT eI k xs lx ++ (.sc (.int .i64 (k + (cnT eI xs lx : Int))) :: (xs.drop (lx + 1)).flatMap eI) = mkA mT eI k xs (lx + 1) ++ (xs.drop (lx + 1)).flatMap eI := by rw [mkA_succ mT hlt]; simp only [eI, slI, mkL_i, mkL_s, mkL_l, mkL_n, List.append_assoc, List.cons_append, List.nil_append]
    refine Run ((And.intro (And.intro @hd (And.intro @hlt @ivl)) (And.intro (And.intro @iv0 @ivs) (And.intro @ownCells_get (mid_set0 hA))))) ?_; repeat' (first | (with_reducible exact True.intro) | (with_reducible refine Lf.mk ?_ ?_) | (with_reducible intro hb))
    exact Nxt ((And.intro @e @ec)) (lx + 1) (by omega) (by first | omega | (simp; omega))
  · have hge : xs.length ≤ lx := by omega
    have e1 := cnT_all (E := eI) hge
    have e2 := mkA_all mT (E := eI) (k := k) hge
    have e3 := drop_all (E := eI) hge
    refine Run ((And.intro (And.intro @e1 @e2) (And.intro @e3 @hlt))) ?_; repeat' (first | (with_reducible exact True.intro) | (with_reducible refine Lf.mk ?_ ?_) | (with_reducible intro hb))

theorem markIntS_ok (xs : List Int) (k : Int) (hk : 0 ≤ k ∧ k + (cnL (xs.flatMap eI) : Int) ≤ 2^60) : FnS Try.prog 56 [(1, .row xs.length (xs.flatMap eI))] [.c (.os 1 xs.length), iT k] [(1, .row xs.length (mkL mT k (xs.flatMap eI)))] (iT (k + (cnL (xs.flatMap eI) : Int))) := markIntS_of xs k hk
theorem markIntS_q (xs : List Int) (k : Int) (hk : 0 ≤ k ∧ k + (cnL (xs.flatMap eI) : Int) ≤ 2^60) (q : Nat) : FnS Try.prog 56 [(q, .row xs.length (xs.flatMap eI))] [.c (.os q xs.length), iT k] [(q, .row xs.length (mkL mT k (xs.flatMap eI)))] (iT (k + (cnL (xs.flatMap eI) : Int))) := by
  obtain ⟨p, hp⟩ := pm1 1 q
  refine ((markIntS_ok xs k hk).renA p).asA ?_ ?_ ?_ ?_ <;> simp [renS, Ob.ren, TV.ren, Cell.ren, hp]
def fc57M1 := (And.intro (And.intro (And.intro sz3 (And.intro ag3 zv3)) (And.intro (And.intro un3 sz4) (And.intro ag4 zv4))) (And.intro (And.intro (And.intro un4 sz95) (And.intro ag95 zv95)) (And.intro (And.intro sb95 un95) (And.intro el95 ap95))))
theorem heldIntS_of (xs : List Int) (k : Int) (hk : 0 ≤ k ∧ k + (cnL (xs.flatMap eI) : Int) ≤ 2^60) : FnS Try.prog 57 [] [.c (.im (.sl xs.length (mkL mT k (xs.flatMap eI)))), iT k] [] (iT (k + (cnL (xs.flatMap eI) : Int))) := by
  refine FnS.go [0, 1, 4, 5, 9, 17] [] Try.func57 rfl (fun kt kz => ?_)
  have fcx := fc57M1
  simp only [Try.f57]
  have hx : xs.length ≤ 2^60 := by have := cnL_len (E := eI) (xs := xs); omega
  refine Run (cast_succ) ?_; repeat' (first | (with_reducible exact True.intro) | (with_reducible refine Lf.mk ?_ ?_) | (with_reducible intro hb))
  refine Trn (α := Nat) [1, 4, 5, 6, 7, 8, 9, 10, 11, 12, 13, 14, 15, 16, 17, 18, 19] (fun i => [(5, iT i), (1, iT (k + (cnT eI xs i : Int)))]) (fun i => []) (fun i => i ≤ xs.length) (fun i => xs.length - i) (0) (Nat.zero_le _) ((And.intro (cnT_zero (E := eI) (xs := xs)) (And.intro @Int.ofNat_zero @Int.add_zero))) ?_; intro lx hI; obtain i := lx; (try simp only [List.nil_append, List.cons_append] at hI ⊢)
  by_cases hlt : lx < xs.length
  · have hp := pt_mk1 mT (E := eI) (k := k) hlt
    simp only [eI, slI, mkL_i, mkL_s, mkL_l, mkL_n, List.cons_append, List.nil_append] at hp
    have hc := cnT_le (E := eI) (xs := xs) (i := lx + 1)
    have ecn : cnT eI xs (lx + 1) = cnT eI xs lx + (1) := by rw [cnT_succ hlt]; (simp only [eI, slI, cnL_i, cnL_s, cnL_l, cnL_n]) <;> omega
    have e : k + (cnT eI xs lx : Int) + 1 = k + (cnT eI xs (lx + 1) : Int) := by omega
    refine Run ((And.intro @hp @hlt)) ?_; repeat' (first | (with_reducible exact True.intro) | (with_reducible refine Lf.mk ?_ ?_) | (with_reducible intro hb))
    exact Nxt (@e) (lx + 1) (by omega) (by first | omega | (simp; omega))
  · have hge : xs.length ≤ lx := by omega
    have e1 := cnT_all (E := eI) hge
    refine Run ((And.intro @e1 @hlt)) ?_; repeat' (first | (with_reducible exact True.intro) | (with_reducible refine Lf.mk ?_ ?_) | (with_reducible intro hb))

theorem heldIntS_ok (xs : List Int) (k : Int) (hk : 0 ≤ k ∧ k + (cnL (xs.flatMap eI) : Int) ≤ 2^60) : FnP Try.prog 57 [.c (.im (.sl xs.length (mkL mT k (xs.flatMap eI)))), iT k] (iT (k + (cnL (xs.flatMap eI) : Int))) := heldIntS_of xs k hk

end Go.VC.T
/- Data (Mono): how they are marked. -/
namespace Go.VC.T
open Go Go.VC Go.Proofs Go.VC.F
set_option linter.unusedSimpArgs false
set_option linter.unusedVariables false
set_option linter.defProp false
set_option maxRecDepth 100000
set_option maxHeartbeats 2000000
def fc82MMono := (And.intro (And.intro (And.intro (And.intro sz3 (And.intro ag3 zv3)) (And.intro (And.intro un3 sz4) (And.intro ag4 zv4))) (And.intro (And.intro un4 (And.intro sz54 ag54)) (And.intro (And.intro zv54 sb54) (And.intro un54 el54)))) (And.intro (And.intro (And.intro ap54 (And.intro sz63 ag63)) (And.intro (And.intro zv63 sb63) (And.intro un63 el63))) (And.intro (And.intro (And.intro ap63 sz125) (And.intro ag125 zv125)) (And.intro (And.intro fl125_0 fl125_1) (And.intro pl125 okf122)))))
theorem markMonoS_of (xs : List Mono) (k : Int) (hk : 0 ≤ k ∧ k + (cnL (xs.flatMap eMono) : Int) ≤ 2^60) : FnS Try.prog 82 [(1, .row xs.length (xs.flatMap eMono))] [.c (.os 1 xs.length), iT k] [(1, .row xs.length (mkL mT k (xs.flatMap eMono)))] (iT (k + (cnL (xs.flatMap eMono) : Int))) := by
  refine FnS.go [0, 1, 4, 5, 9] [] Try.func82 rfl (fun kt kz => ?_)
  have fcx := fc82MMono
  simp only [Try.f82]
  have hx : xs.length ≤ 2^60 := by have := cnL_len (E := eMono) (xs := xs); omega
  refine Run (cast_succ) ?_; repeat' (first | (with_reducible exact True.intro) | (with_reducible refine Lf.mk ?_ ?_) | (with_reducible intro hb))
  refine Trn (α := Nat) [1, 5, 6, 7, 8, 9, 10, 11, 12, 13, 14, 15, 16, 17, 18, 19, 20, 21, 22, 23, 24, 25] (fun i => [(5, iT i), (1, iT (k + (cnT eMono xs i : Int)))]) (fun i => [(1, .row xs.length (mkA mT eMono k xs i ++ (xs.drop i).flatMap eMono))]) (fun i => i ≤ xs.length) (fun i => xs.length - i) (0) (Nat.zero_le _) ((And.intro (And.intro (mkA_zero mT (E := eMono) (k := k) (xs := xs)) (cnT_zero (E := eMono) (xs := xs))) (And.intro (List.drop_zero (l := xs)) (And.intro @Int.ofNat_zero @Int.add_zero)))) ?_; intro lx hI; obtain i := lx; (try simp only [List.nil_append, List.cons_append] at hI ⊢)
  by_cases hlt : lx < xs.length
  · have hA : (mkA mT eMono k xs lx).length = lx * 2 := by have := mkA_len mT (E := eMono) (k := k) (Nat.le_of_lt hlt); omega
    have hd := drop_flat (E := eMono) hlt
    rw [eMono_eta] at hd
    have hc := cnT_le (E := eMono) (xs := xs) (i := lx + 1)
    have ecn : cnT eMono xs (lx + 1) = cnT eMono xs lx + (1 + cnL (xs[lx].vars.flatMap eS)) := by rw [cnT_succ hlt]; (simp only [eMono_eta, slI, cnL_i, cnL_s, cnL_l, cnL_n]) <;> omega
    have e : k + (cnT eMono xs lx : Int) + 1 + (cnL (xs[lx].vars.flatMap eS) : Int) = k + (cnT eMono xs (lx + 1) : Int) := by omega
    have ec : mkA mT eMono k xs lx ++ (.sc (.int .i64 (k + (cnT eMono xs lx : Int))) :: .sl xs[lx].vars.length (mkL mT (k + (cnT eMono xs lx : Int) + 1) (xs[lx].vars.flatMap eS)) :: (xs.drop (lx + 1)).flatMap eMono) = mkA mT eMono k xs (lx + 1) ++ (xs.drop (lx + 1)).flatMap eMono := by rw [mkA_succ mT hlt]; simp only [eMono_eta, slI, mkL_i, mkL_s, mkL_l, mkL_n, List.append_assoc, List.cons_append, List.nil_append]
    refine Run ((And.intro (And.intro (And.intro @hd @hlt) (And.intro @ivl @iv0)) (And.intro (And.intro @ivs @ownCells_get) (And.intro (mid_set0 hA) (And.intro (mid_set 1 hA) (mid_get 1 hA)))))) ?_; repeat' (first | (with_reducible exact True.intro) | (with_reducible refine Lf.mk ?_ ?_) | (with_reducible intro hb))
    refine CalN (⟨⟩ : Nsk (1) (1) ((lx * 2 + 1))) ((And.intro (And.intro (And.intro @hd @hlt) (And.intro @ivl @iv0)) (And.intro (And.intro @ivs @ownCells_get) (And.intro (mid_set0 hA) (And.intro (mid_set 1 hA) (mid_get 1 hA)))))) (markStringS_ok (xs[lx].vars) (k + (cnT eMono xs lx : Int) + 1) ⟨by omega, by omega⟩) ?_
    refine Run ((And.intro (And.intro (And.intro @hd @hlt) (And.intro @ivl @iv0)) (And.intro (And.intro @ivs @ownCells_get) (And.intro (mid_set0 hA) (And.intro (mid_set 1 hA) (mid_get 1 hA)))))) ?_; repeat' (first | (with_reducible exact True.intro) | (with_reducible refine Lf.mk ?_ ?_) | (with_reducible intro hb))
    exact Nxt ((And.intro @e @ec)) (lx + 1) (by omega) (by first | omega | (simp; omega))
  · have hge : xs.length ≤ lx := by omega
    have e1 := cnT_all (E := eMono) hge
    have e2 := mkA_all mT (E := eMono) (k := k) hge
    have e3 := drop_all (E := eMono) hge
    refine Run ((And.intro (And.intro @e1 @e2) (And.intro @e3 @hlt))) ?_; repeat' (first | (with_reducible exact True.intro) | (with_reducible refine Lf.mk ?_ ?_) | (with_reducible intro hb))

theorem markMonoS_ok (xs : List Mono) (k : Int) (hk : 0 ≤ k ∧ k + (cnL (xs.flatMap eMono) : Int) ≤ 2^60) : FnS Try.prog 82 [(1, .row xs.length (xs.flatMap eMono))] [.c (.os 1 xs.length), iT k] [(1, .row xs.length (mkL mT k (xs.flatMap eMono)))] (iT (k + (cnL (xs.flatMap eMono) : Int))) := markMonoS_of xs k hk
theorem markMonoS_q (xs : List Mono) (k : Int) (hk : 0 ≤ k ∧ k + (cnL (xs.flatMap eMono) : Int) ≤ 2^60) (q : Nat) : FnS Try.prog 82 [(q, .row xs.length (xs.flatMap eMono))] [.c (.os q xs.length), iT k] [(q, .row xs.length (mkL mT k (xs.flatMap eMono)))] (iT (k + (cnL (xs.flatMap eMono) : Int))) := by
  obtain ⟨p, hp⟩ := pm1 1 q
  refine ((markMonoS_ok xs k hk).renA p).asA ?_ ?_ ?_ ?_ <;> simp [renS, Ob.ren, TV.ren, Cell.ren, hp]
def fc83MMono := (And.intro (And.intro (And.intro (And.intro sz3 (And.intro ag3 zv3)) (And.intro (And.intro un3 sz4) (And.intro ag4 zv4))) (And.intro (And.intro un4 (And.intro sz54 ag54)) (And.intro (And.intro zv54 sb54) (And.intro un54 el54)))) (And.intro (And.intro (And.intro ap54 (And.intro sz63 ag63)) (And.intro (And.intro zv63 sb63) (And.intro un63 el63))) (And.intro (And.intro (And.intro ap63 sz125) (And.intro ag125 zv125)) (And.intro (And.intro fl125_0 fl125_1) (And.intro pl125 okf124)))))
theorem heldMonoS_of (xs : List Mono) (k : Int) (hk : 0 ≤ k ∧ k + (cnL (xs.flatMap eMono) : Int) ≤ 2^60) : FnS Try.prog 83 [] [.c (.im (.sl xs.length (mkL mT k (xs.flatMap eMono)))), iT k] [] (iT (k + (cnL (xs.flatMap eMono) : Int))) := by
  refine FnS.go [0, 1, 4, 5, 9, 18, 29] [] Try.func83 rfl (fun kt kz => ?_)
  have fcx := fc83MMono
  simp only [Try.f83]
  have hx : xs.length ≤ 2^60 := by have := cnL_len (E := eMono) (xs := xs); omega
  refine Run (cast_succ) ?_; repeat' (first | (with_reducible exact True.intro) | (with_reducible refine Lf.mk ?_ ?_) | (with_reducible intro hb))
  refine Trn (α := Nat) [1, 4, 5, 6, 7, 8, 9, 10, 11, 12, 13, 14, 15, 16, 17, 18, 19, 20, 21, 22, 23, 24, 25, 26, 27, 28, 29] (fun i => [(5, iT i), (1, iT (k + (cnT eMono xs i : Int)))]) (fun i => []) (fun i => i ≤ xs.length) (fun i => xs.length - i) (0) (Nat.zero_le _) ((And.intro (cnT_zero (E := eMono) (xs := xs)) (And.intro @Int.ofNat_zero @Int.add_zero))) ?_; intro lx hI; obtain i := lx; (try simp only [List.nil_append, List.cons_append] at hI ⊢)
  by_cases hlt : lx < xs.length
  · have hp := pt_mk mT (E := eMono) (k := k) hlt
    simp only [eMono_eta, slI, mkL_i, mkL_s, mkL_l, mkL_n, List.cons_append, List.nil_append] at hp
    have hc := cnT_le (E := eMono) (xs := xs) (i := lx + 1)
    have ecn : cnT eMono xs (lx + 1) = cnT eMono xs lx + (1 + cnL (xs[lx].vars.flatMap eS)) := by rw [cnT_succ hlt]; (simp only [eMono_eta, slI, cnL_i, cnL_s, cnL_l, cnL_n]) <;> omega
    have e : k + (cnT eMono xs lx : Int) + 1 + (cnL (xs[lx].vars.flatMap eS) : Int) = k + (cnT eMono xs (lx + 1) : Int) := by omega
    refine Run ((And.intro @hp @hlt)) ?_; repeat' (first | (with_reducible exact True.intro) | (with_reducible refine Lf.mk ?_ ?_) | (with_reducible intro hb))
    refine Cal ((And.intro @hp @hlt)) (heldStringS_ok (xs[lx].vars) (k + (cnT eMono xs lx : Int) + 1) ⟨by omega, by omega⟩) ?_
    have hn1 : ((k + (cnT eMono xs lx : Int) + 1 + (cnL (xs[lx].vars.flatMap eS) : Int)) < 0) = False := eq_false (by omega)
    refine Run ((And.intro @hp (And.intro @hlt @hn1))) ?_; repeat' (first | (with_reducible exact True.intro) | (with_reducible refine Lf.mk ?_ ?_) | (with_reducible intro hb))
    exact Nxt (@e) (lx + 1) (by omega) (by first | omega | (simp; omega))
  · have hge : xs.length ≤ lx := by omega
    have e1 := cnT_all (E := eMono) hge
    refine Run ((And.intro @e1 @hlt)) ?_; repeat' (first | (with_reducible exact True.intro) | (with_reducible refine Lf.mk ?_ ?_) | (with_reducible intro hb))

theorem heldMonoS_ok (xs : List Mono) (k : Int) (hk : 0 ≤ k ∧ k + (cnL (xs.flatMap eMono) : Int) ≤ 2^60) : FnP Try.prog 83 [.c (.im (.sl xs.length (mkL mT k (xs.flatMap eMono)))), iT k] (iT (k + (cnL (xs.flatMap eMono) : Int))) := heldMonoS_of xs k hk

end Go.VC.T
/- Data (Poly): how they are marked. -/
namespace Go.VC.T
open Go Go.VC Go.Proofs Go.VC.F
set_option linter.unusedSimpArgs false
set_option linter.unusedVariables false
set_option linter.defProp false
set_option maxRecDepth 100000
set_option maxHeartbeats 2000000
def fc33MPoly := (And.intro (And.intro (And.intro (And.intro sz3 ag3) (And.intro zv3 un3)) (And.intro (And.intro sz54 ag54) (And.intro zv54 sb54))) (And.intro (And.intro (And.intro un54 el54) (And.intro ap54 sz56)) (And.intro (And.intro ag56 zv56) (And.intro fl56_0 (And.intro pl56 okf82)))))
theorem markPoly_w (t : List Mono) (k : Int) (hk : 0 ≤ k ∧ k + (cnL (t.flatMap eMono) : Int) ≤ 2^60) : FnS Try.prog 33 [(1, .row t.length (t.flatMap eMono))] [.ag [.os 1 t.length], iT k] [(1, .row t.length (mkL mT (k) (t.flatMap eMono)))] (iT (k + (cnL (t.flatMap eMono) : Int))) := by
  refine FnS.go [0, 1, 2, 4] [] Try.func33 rfl (fun kt kz => ?_)
  have fcx := fc33MPoly
  simp only [Try.f33]
  refine Run (cast_succ) ?_; repeat' (first | (with_reducible exact True.intro) | (with_reducible refine Lf.mk ?_ ?_) | (with_reducible intro hb))
  refine CalO (cast_succ) (markMonoS_q t (k) ⟨by omega, by omega⟩ 1) ?_
  refine Run (cast_succ) ?_; repeat' (first | (with_reducible exact True.intro) | (with_reducible refine Lf.mk ?_ ?_) | (with_reducible intro hb))

theorem markPoly_q (t : List Mono) (k : Int) (hk : 0 ≤ k ∧ k + (cnL (t.flatMap eMono) : Int) ≤ 2^60) (q0 : Nat) (hq : [q0].Nodup) : FnS Try.prog 33 [(q0, .row t.length (t.flatMap eMono))] [.ag [.os q0 t.length], iT k] [(q0, .row t.length (mkL mT (k) (t.flatMap eMono)))] (iT (k + (cnL (t.flatMap eMono) : Int))) := by
  obtain ⟨p, hp⟩ := pml [1] [q0] (by decide) hq rfl
  simp only [List.map_cons, List.map_nil, List.cons.injEq, and_true] at hp
  refine ((markPoly_w t k hk).renA p).asA ?_ ?_ ?_ ?_ <;> simp [renS, Ob.ren, TV.ren, renL, Cell.ren, hp]
def hPoly (k : Int) (t : List Mono) : List IV := [.sl t.length (mkL mT (k) (t.flatMap eMono))]
def fc34MPoly := (And.intro (And.intro (And.intro (And.intro sz3 ag3) (And.intro zv3 (And.intro un3 sz4))) (And.intro (And.intro ag4 zv4) (And.intro un4 (And.intro sz54 ag54)))) (And.intro (And.intro (And.intro zv54 sb54) (And.intro un54 (And.intro el54 ap54))) (And.intro (And.intro sz56 (And.intro ag56 zv56)) (And.intro fl56_0 (And.intro pl56 okf83)))))
theorem heldPoly_ok (t : List Mono) (k : Int) (hk : 0 ≤ k ∧ k + (cnL (t.flatMap eMono) : Int) ≤ 2^60) : FnS Try.prog 34 [] [agT (hPoly k t), iT k] [] (iT (k + (cnL (t.flatMap eMono) : Int))) := by
  refine FnS.go [0, 1, 2, 4, 10] [] Try.func34 rfl (fun kt kz => ?_)
  have fcx := fc34MPoly
  simp only [Try.f34]
  refine Run (@hPoly.eq_1) ?_; repeat' (first | (with_reducible exact True.intro) | (with_reducible refine Lf.mk ?_ ?_) | (with_reducible intro hb))
  refine Cal (@hPoly.eq_1) (heldMonoS_ok t (k) ⟨by omega, by omega⟩) ?_
  have hn1 : ((k + (cnL (t.flatMap eMono) : Int)) < 0) = False := eq_false (by omega)
  refine Run ((And.intro @hPoly.eq_1 @hn1)) ?_; repeat' (first | (with_reducible exact True.intro) | (with_reducible refine Lf.mk ?_ ?_) | (with_reducible intro hb))


end Go.VC.T
/- Polynomials of a token, of a number. -/
namespace Go.VC
def tokP (s : ByteArray) : List Mono := if s = ⟨#[]⟩ then [] else [⟨1, [s]⟩]
def numP (n : Int) : List Mono := if n < 1 ∨ 1000000 < n then [] else [⟨n, []⟩]
end Go.VC
namespace Go.VC.T
open Go Go.VC Go.Proofs Go.VC.F
set_option linter.unusedSimpArgs false
set_option linter.unusedVariables false
set_option linter.defProp false
set_option maxRecDepth 100000
set_option maxHeartbeats 2000000
def fc99A30 := (And.intro (And.intro (And.intro sz3 ag3) (And.intro zv3 un3)) (And.intro (And.intro sz4 ag4) (And.intro zv4 un4)))
theorem l1In_ok (x lo hi : Int) : FnS Try.prog 99 [] [iT x, iT lo, iT hi] [] (bT (decide (lo ≤ x ∧ x ≤ hi))) := by
  refine FnS.go [0, 1, 2, 6] [] Try.func99 rfl (fun kt kz => ?_)
  have fcx := fc99A30
  simp only [Try.f99]
  by_cases h1 : lo ≤ x
  · have e : decide (lo ≤ x ∧ x ≤ hi) = decide (x ≤ hi) := decide_eq_decide.2 (by omega)
    refine Run ((And.intro @h1 @e)) ?_; repeat' (first | (with_reducible exact True.intro) | (with_reducible refine Lf.mk ?_ ?_) | (with_reducible intro hb))
  · have e : decide (False ∧ x ≤ hi) = false := decide_eq_false (fun h => h.1)
    refine Run ((And.intro @h1 @e)) ?_; repeat' (first | (with_reducible exact True.intro) | (with_reducible refine Lf.mk ?_ ?_) | (with_reducible intro hb))

theorem tokP_ok (s : ByteArray) (h : s.size ≤ 2^20) : okPoly (2^20) (tokP s) ∧ cnL ((tokP s).flatMap eMono) ≤ 2 := by
  rw [okPoly_iff]
  unfold tokP
  split
  · exact ⟨⟨by simp, by simp⟩, by simp [cnL]⟩
  · refine ⟨⟨by simp, fun m hm => ?_⟩, ?_⟩
    · obtain rfl : m = ⟨1, [s]⟩ := by simpa using hm
      rw [okMono_iff]
      exact ⟨(by show ok64 1; exact ⟨by omega, by omega⟩), by simp, by simpa [okS] using h⟩
    · simp [eMono, slI, eS, cnL_i, cnL_l, cnL_s, cnL_n]
theorem numP_ok (n : Int) : okPoly (2^20) (numP n) ∧ cnL ((numP n).flatMap eMono) ≤ 2 := by
  rw [okPoly_iff]
  unfold numP
  split
  · exact ⟨⟨by simp, by simp⟩, by simp [cnL]⟩
  · rename_i h
    refine ⟨⟨by simp, fun m hm => ?_⟩, ?_⟩
    · obtain rfl : m = ⟨n, []⟩ := by simpa using hm
      rw [okMono_iff]
      exact ⟨(by show ok64 n; exact ⟨by omega, by omega⟩), by simp, by simp⟩
    · simp [eMono, slI, cnL_i, cnL_l, cnL_n]

end Go.VC.T
/- Names, labels: on both sides. -/
namespace Go.VC
open Go
abbrev bt (s : ByteArray) (i : Nat) : Int := ((s.data.toList.getD i 0).toNat : Int)
def okC (s : ByteArray) (i : Nat) : Prop := (97 ≤ bt s i ∧ bt s i ≤ 122) ∨ (i ≠ 0 ∧ 48 ≤ bt s i ∧ bt s i ≤ 57)
def kwIf : ByteArray := ⟨#[105, 102]⟩
def kwFor : ByteArray := ⟨#[102, 111, 114]⟩
def NameOk (s : ByteArray) : Prop := (∀ j, j < s.size → okC s j) ∧ (1 ≤ s.size ∧ s.size ≤ 4) ∧ ¬ s = ⟨#[105, 102]⟩ ∧ ¬ s = ⟨#[102, 111, 114]⟩
noncomputable instance (s : ByteArray) : Decidable (NameOk s) := Classical.propDecidable _
theorem okC_let {s : ByteArray} {i : Nat} (h1 : 97 ≤ bt s i) (h2 : bt s i ≤ 122) : okC s i := .inl ⟨h1, h2⟩
theorem okC_dig {s : ByteArray} {i : Nat} (h0 : i ≠ 0) (h1 : 48 ≤ bt s i) (h2 : bt s i ≤ 57) : okC s i := .inr ⟨h0, h1, h2⟩
def AscS (l : List ByteArray) : Prop := ∀ k, (h : k + 1 < l.length) → sLt (l[k]'(by omega)) l[k + 1] = true
noncomputable instance (l : List ByteArray) : Decidable (AscS l) := Classical.propDecidable _
def LabsOk (l : List ByteArray) : Prop := (∀ s ∈ l, NameOk s) ∧ (1 ≤ l.length ∧ l.length ≤ 4) ∧ AscS l
noncomputable instance (l : List ByteArray) : Decidable (LabsOk l) := Classical.propDecidable _
end Go.VC
namespace Go.VC.T
open Go Go.VC Go.Proofs Go.VC.F
set_option linter.unusedSimpArgs false
set_option linter.unusedVariables false
set_option linter.defProp false
set_option maxRecDepth 100000
set_option maxHeartbeats 2000000
def fc149A54 := (And.intro (And.intro (And.intro (And.intro sz3 ag3) (And.intro zv3 un3)) (And.intro (And.intro sz4 ag4) (And.intro zv4 un4))) (And.intro (And.intro (And.intro sz5 ag5) (And.intro zv5 un5)) (And.intro (And.intro sz9 ag9) (And.intro zv9 (And.intro un9 okf99)))))
theorem specName_ok (s : ByteArray) (hs : s.size ≤ 2^48) : FnS Try.prog 149 [] [sT s] [] (bT (decide (NameOk s))) := by
  refine FnS.go [0, 2, 3, 4, 8, 38] [] Try.func149 rfl (fun kt kz => ?_)
  have fcx := fc149A54
  simp only [Try.f149]
  refine Run ((Try.underlying9)) ?_; repeat' (first | (with_reducible exact True.intro) | (with_reducible refine Lf.mk ?_ ?_) | (with_reducible intro hb))
  refine Trn (α := Nat) [2, 3, 4, 5, 6, 7, 8, 9, 10, 11, 12, 13, 14, 15, 16, 17, 18, 19, 20, 21, 22, 23, 24, 25, 26, 27, 28, 29, 30, 31, 32, 33, 34, 35, 36, 37, 38] (fun i => [(3, iT i)]) (fun i => []) (fun i => i ≤ s.size ∧ ∀ j, j < i → okC s j) (fun i => s.size - i) (0) (⟨Nat.zero_le _, fun j h => absurd h (Nat.not_lt_zero _)⟩) ((Try.underlying9)) ?_; intro lx hI; obtain i := lx; (try simp only [List.nil_append, List.cons_append] at hI ⊢)
  by_cases hlt : lx < s.size
  · have hnx : okC s lx → ∀ j, j < lx + 1 → okC s j := fun h j hj => by
      rcases Nat.lt_or_ge j lx with h1 | h1
      · exact hI.2 j h1
      · obtain rfl : j = lx := by omega
        exact h
    have hno : ¬ okC s lx → decide (NameOk s) = false := fun h => decide_eq_false fun hn => h (hn.1 lx hlt)
    by_cases a1 : 97 ≤ bt s lx
    · have a1' := eq_true a1
      by_cases a2 : bt s lx ≤ 122
      · have a2' := eq_true a2
        refine Run ((And.intro (And.intro (Try.underlying9) @hlt) (And.intro @a1' @a2'))) ?_; repeat' (first | (with_reducible exact True.intro) | (with_reducible refine Lf.mk ?_ ?_) | (with_reducible intro hb))
        exact Nxt (cast_succ) (lx + 1) (⟨by omega, hnx (okC_let a1 a2)⟩) (by first | omega | (simp; omega))
      · have a2' := eq_false a2
        have e := hno (fun h => by rcases h with h | h <;> omega)
        have d1' : (bt s lx < 48) = False := eq_false (by omega)
        have d2' : (57 < bt s lx) = True := eq_true (by omega)
        by_cases h0 : lx = 0
        · have g0 : ((lx : Int) = 0) = True := eq_true (by omega)
          refine Run ((And.intro (And.intro (Try.underlying9) (And.intro @hlt @a1')) (And.intro @a2' (And.intro @g0 @e)))) ?_; repeat' (first | (with_reducible exact True.intro) | (with_reducible refine Lf.mk ?_ ?_) | (with_reducible intro hb))
        · have g0 : ((lx : Int) = 0) = False := eq_false (by omega)
          refine Run ((And.intro (And.intro (And.intro (Try.underlying9) @hlt) (And.intro @a1' @a2')) (And.intro (And.intro @g0 @d1') (And.intro @d2' @e)))) ?_; repeat' (first | (with_reducible exact True.intro) | (with_reducible refine Lf.mk ?_ ?_) | (with_reducible intro hb))
    · have a1' := eq_false a1
      by_cases h0 : lx = 0
      · have e := hno (fun h => by rcases h with h | h <;> omega)
        have g0 : ((lx : Int) = 0) = True := eq_true (by omega)
        refine Run ((And.intro (And.intro (Try.underlying9) @hlt) (And.intro @a1' (And.intro @g0 @e)))) ?_; repeat' (first | (with_reducible exact True.intro) | (with_reducible refine Lf.mk ?_ ?_) | (with_reducible intro hb))
      · have g0 : ((lx : Int) = 0) = False := eq_false (by omega)
        by_cases d1 : bt s lx < 48
        · have e := hno (fun h => by rcases h with h | h <;> omega)
          have d1' := eq_true d1
          refine Run ((And.intro (And.intro (Try.underlying9) (And.intro @hlt @a1')) (And.intro @g0 (And.intro @d1' @e)))) ?_; repeat' (first | (with_reducible exact True.intro) | (with_reducible refine Lf.mk ?_ ?_) | (with_reducible intro hb))
        · have d1' := eq_false d1
          by_cases d2 : 57 < bt s lx
          · have e := hno (fun h => by rcases h with h | h <;> omega)
            have d2' := eq_true d2
            refine Run ((And.intro (And.intro (Try.underlying9) (And.intro @hlt @a1')) (And.intro (And.intro @g0 @d1') (And.intro @d2' @e)))) ?_; repeat' (first | (with_reducible exact True.intro) | (with_reducible refine Lf.mk ?_ ?_) | (with_reducible intro hb))
          · have d2' := eq_false d2
            refine Run ((And.intro (And.intro (Try.underlying9) (And.intro @hlt @a1')) (And.intro @g0 (And.intro @d1' @d2')))) ?_; repeat' (first | (with_reducible exact True.intro) | (with_reducible refine Lf.mk ?_ ?_) | (with_reducible intro hb))
            exact Nxt (cast_succ) (lx + 1) (⟨by omega, hnx (okC_dig h0 (by omega) (by omega))⟩) (by first | omega | (simp; omega))
  · have hall : ∀ j, j < s.size → okC s j := fun j hj => hI.2 j (by omega)
    have hc : decide (NameOk s) = decide ((1 ≤ (s.size : Int) ∧ (s.size : Int) ≤ 4) ∧ ¬ s = ⟨#[105, 102]⟩ ∧ ¬ s = ⟨#[102, 111, 114]⟩) := decide_eq_decide.2 ⟨fun h => ⟨by have := h.2.1; omega, h.2.2⟩, fun h => ⟨hall, by have := h.1; omega, h.2⟩⟩
    refine Run ((And.intro (Try.underlying9) @hlt)) ?_; repeat' (first | (with_reducible exact True.intro) | (with_reducible refine Lf.mk ?_ ?_) | (with_reducible intro hb))
    refine Cal ((Try.underlying9)) (l1In_ok (s.size : Int) 1 4) ?_
    by_cases h1 : 1 ≤ (s.size : Int) ∧ (s.size : Int) ≤ 4
    · by_cases h2 : s = ⟨#[105, 102]⟩
      · have e : decide (NameOk s) = false := decide_eq_false fun h => h.2.2.1 h2
        rw [e]
        subst h2
        have e1 : ((ByteArray.mk #[105, 102]).size : Int) = 2 := rfl
        refine Run ((And.intro (Try.underlying9) @e1)) ?_; repeat' (first | (with_reducible exact True.intro) | (with_reducible refine Lf.mk ?_ ?_) | (with_reducible intro hb))
      · by_cases h3 : s = ⟨#[102, 111, 114]⟩
        · have e : decide (NameOk s) = false := decide_eq_false fun h => h.2.2.2 h3
          have h2' := eq_false h2
          have h3' := eq_true h3
          refine Run ((And.intro (And.intro (Try.underlying9) @h1) (And.intro @h2' (And.intro @h3' @e)))) ?_; repeat' (first | (with_reducible exact True.intro) | (with_reducible refine Lf.mk ?_ ?_) | (with_reducible intro hb))
        · have e : decide (NameOk s) = true := decide_eq_true ⟨hall, by omega, h2, h3⟩
          refine Run ((And.intro (And.intro (Try.underlying9) @h1) (And.intro @h2 (And.intro @h3 @e)))) ?_; repeat' (first | (with_reducible exact True.intro) | (with_reducible refine Lf.mk ?_ ?_) | (with_reducible intro hb))
    · have e : decide (NameOk s) = false := decide_eq_false fun h => h1 (by have := h.2.1; omega)
      refine Run ((And.intro (Try.underlying9) (And.intro @h1 @e))) ?_; repeat' (first | (with_reducible exact True.intro) | (with_reducible refine Lf.mk ?_ ?_) | (with_reducible intro hb))

end Go.VC.T
/- Names, labels: the program; ascending labels on both sides. -/
namespace Go.VC.T
open Go Go.VC Go.Proofs Go.VC.F
set_option linter.unusedSimpArgs false
set_option linter.unusedVariables false
set_option linter.defProp false
set_option maxRecDepth 100000
set_option maxHeartbeats 2000000
def fc184A55 := (And.intro (And.intro (And.intro sz4 ag4) (And.intro zv4 un4)) (And.intro (And.intro sz5 ag5) (And.intro zv5 un5)))
theorem isSmall_ok (c : Int) : FnS Try.prog 184 [] [.c (.im (.sc (.int .u8 c)))] [] (bT (decide (97 ≤ c ∧ c ≤ 122))) := by
  refine FnS.go [0, 2] [] Try.func184 rfl (fun kt kz => ?_)
  have fcx := fc184A55
  simp only [Try.f184]
  by_cases h1 : 97 ≤ c
  · have e : decide (97 ≤ c ∧ c ≤ 122) = decide (c ≤ 122) := decide_eq_decide.2 (by omega)
    refine Run ((And.intro @h1 @e)) ?_; repeat' (first | (with_reducible exact True.intro) | (with_reducible refine Lf.mk ?_ ?_) | (with_reducible intro hb))
  · have e : decide (False ∧ c ≤ 122) = false := decide_eq_false (fun h => h.1)
    refine Run ((And.intro @h1 @e)) ?_; repeat' (first | (with_reducible exact True.intro) | (with_reducible refine Lf.mk ?_ ?_) | (with_reducible intro hb))
def fc185A55 := (And.intro (And.intro (And.intro sz4 ag4) (And.intro zv4 un4)) (And.intro (And.intro sz5 ag5) (And.intro zv5 un5)))
theorem isDigit_ok (c : Int) : FnS Try.prog 185 [] [.c (.im (.sc (.int .u8 c)))] [] (bT (decide (48 ≤ c ∧ c ≤ 57))) := by
  refine FnS.go [0, 2] [] Try.func185 rfl (fun kt kz => ?_)
  have fcx := fc185A55
  simp only [Try.f185]
  by_cases h1 : 48 ≤ c
  · have e : decide (48 ≤ c ∧ c ≤ 57) = decide (c ≤ 57) := decide_eq_decide.2 (by omega)
    refine Run ((And.intro @h1 @e)) ?_; repeat' (first | (with_reducible exact True.intro) | (with_reducible refine Lf.mk ?_ ?_) | (with_reducible intro hb))
  · have e : decide (False ∧ c ≤ 57) = false := decide_eq_false (fun h => h.1)
    refine Run ((And.intro @h1 @e)) ?_; repeat' (first | (with_reducible exact True.intro) | (with_reducible refine Lf.mk ?_ ?_) | (with_reducible intro hb))
def fc154A55 := (And.intro (And.intro (And.intro (And.intro sz3 ag3) (And.intro zv3 un3)) (And.intro (And.intro sz4 ag4) (And.intro zv4 (And.intro un4 sz5)))) (And.intro (And.intro (And.intro ag5 zv5) (And.intro un5 sz9)) (And.intro (And.intro ag9 zv9) (And.intro un9 (And.intro okf184 okf185)))))
theorem implName_ok (s : ByteArray) (hs : s.size ≤ 2^48) : FnS Try.prog 154 [] [sT s] [] (bT (decide (NameOk s))) := by
  refine FnS.go [0, 2, 3, 25, 27, 28, 29, 42] [] Try.func154 rfl (fun kt kz => ?_)
  have fcx := fc154A55
  simp only [Try.f154]
  have us := Try.underlying9
  by_cases z1 : (s.size : Int) < 1
  · have e : decide (NameOk s) = false := decide_eq_false fun h => by have := h.2.1; omega
    have g1 := eq_true z1
    refine Run ((And.intro @us (And.intro @g1 @e))) ?_; repeat' (first | (with_reducible exact True.intro) | (with_reducible refine Lf.mk ?_ ?_) | (with_reducible intro hb))
  · have g1 := eq_false z1
    by_cases z2 : (4 : Int) < (s.size : Int)
    · have e : decide (NameOk s) = false := decide_eq_false fun h => by have := h.2.1; omega
      have g2 := eq_true z2
      refine Run ((And.intro (And.intro @us @g1) (And.intro @g2 @e))) ?_; repeat' (first | (with_reducible exact True.intro) | (with_reducible refine Lf.mk ?_ ?_) | (with_reducible intro hb))
    · have g2 := eq_false z2
      have hp : 0 < s.size := by omega
      refine Run ((And.intro @us (And.intro @g1 @g2))) ?_; repeat' (first | (with_reducible exact True.intro) | (with_reducible refine Lf.mk ?_ ?_) | (with_reducible intro hb))
      refine Cal (@us) (isSmall_ok (bt s 0)) ?_
      by_cases b0 : 97 ≤ bt s 0 ∧ bt s 0 ≤ 122
      · have gb := eq_true b0
        by_cases k1 : s = ⟨#[105, 102]⟩
        · have e : decide (NameOk s) = false := decide_eq_false fun h => h.2.2.1 k1
          have gk := eq_true k1
          refine Run ((And.intro (And.intro @us @gb) (And.intro @gk @e))) ?_; repeat' (first | (with_reducible exact True.intro) | (with_reducible refine Lf.mk ?_ ?_) | (with_reducible intro hb))
        · have gk := eq_false k1
          by_cases k2 : s = ⟨#[102, 111, 114]⟩
          · have e : decide (NameOk s) = false := decide_eq_false fun h => h.2.2.2 k2
            have gk2 := eq_true k2
            refine Run ((And.intro (And.intro @us @gb) (And.intro @gk (And.intro @gk2 @e)))) ?_; repeat' (first | (with_reducible exact True.intro) | (with_reducible refine Lf.mk ?_ ?_) | (with_reducible intro hb))
          · have gk2 := eq_false k2
            refine Run ((And.intro (And.intro @us @gb) (And.intro @gk @gk2))) ?_; repeat' (first | (with_reducible exact True.intro) | (with_reducible refine Lf.mk ?_ ?_) | (with_reducible intro hb))
            refine Trn (α := Nat) [2, 3, 28, 29, 30, 31, 32, 33, 34, 35, 36, 37, 38, 39, 40, 41, 42, 43] (fun i => [(28, iT i)]) (fun i => []) (fun i => i ≤ s.size ∧ ∀ j, j < i → okC s j) (fun i => s.size - i) (0) (⟨Nat.zero_le _, fun j h => absurd h (Nat.not_lt_zero _)⟩) (@us) ?_; intro lx hI; obtain i := lx; (try simp only [List.nil_append, List.cons_append] at hI ⊢)
            by_cases hlt : lx < s.size
            · have hnx : okC s lx → ∀ j, j < lx + 1 → okC s j := fun h j hj => by
                rcases Nat.lt_or_ge j lx with h1 | h1
                · exact hI.2 j h1
                · obtain rfl : j = lx := by omega
                  exact h
              refine Run ((And.intro @us @hlt)) ?_; repeat' (first | (with_reducible exact True.intro) | (with_reducible refine Lf.mk ?_ ?_) | (with_reducible intro hb))
              refine Cal (@us) (isSmall_ok (bt s lx)) ?_
              by_cases c1 : 97 ≤ bt s lx ∧ bt s lx ≤ 122
              · have gc := eq_true c1
                refine Run ((And.intro @us @gc)) ?_; repeat' (first | (with_reducible exact True.intro) | (with_reducible refine Lf.mk ?_ ?_) | (with_reducible intro hb))
                exact Nxt (cast_succ) (lx + 1) (⟨by omega, hnx (.inl c1)⟩) (by first | omega | (simp; omega))
              · have gc := eq_false c1
                have hl0 : lx ≠ 0 := fun h => c1 (by subst h; exact b0)
                refine Run ((And.intro @us (And.intro @gc @hlt))) ?_; repeat' (first | (with_reducible exact True.intro) | (with_reducible refine Lf.mk ?_ ?_) | (with_reducible intro hb))
                refine Cal (@us) (isDigit_ok (bt s lx)) ?_
                by_cases c2 : 48 ≤ bt s lx ∧ bt s lx ≤ 57
                · have gd := eq_true c2
                  refine Run ((And.intro @us @gd)) ?_; repeat' (first | (with_reducible exact True.intro) | (with_reducible refine Lf.mk ?_ ?_) | (with_reducible intro hb))
                  exact Nxt (cast_succ) (lx + 1) (⟨by omega, hnx (.inr ⟨hl0, c2⟩)⟩) (by first | omega | (simp; omega))
                · have gd := eq_false c2
                  have e : decide (NameOk s) = false := decide_eq_false fun h => by
                    rcases h.1 lx hlt with h1 | h1
                    · exact c1 h1
                    · exact c2 h1.2
                  refine Run ((And.intro @us (And.intro @gd @e))) ?_; repeat' (first | (with_reducible exact True.intro) | (with_reducible refine Lf.mk ?_ ?_) | (with_reducible intro hb))
            · have e : decide (NameOk s) = true := decide_eq_true ⟨fun j hj => hI.2 j (by omega), by omega, k1, k2⟩
              refine Run ((And.intro @us (And.intro @hlt @e))) ?_; repeat' (first | (with_reducible exact True.intro) | (with_reducible refine Lf.mk ?_ ?_) | (with_reducible intro hb))
      · have gb := eq_false b0
        have e : decide (NameOk s) = false := decide_eq_false fun h => by
          rcases h.1 0 hp with h1 | h1
          · exact b0 h1
          · exact h1.1 rfl
        refine Run ((And.intro @us (And.intro @gb @e))) ?_; repeat' (first | (with_reducible exact True.intro) | (with_reducible refine Lf.mk ?_ ?_) | (with_reducible intro hb))
def fc151A55 := (And.intro (And.intro (And.intro (And.intro sz3 ag3) (And.intro zv3 un3)) (And.intro (And.intro sz4 ag4) (And.intro zv4 (And.intro un4 sz9)))) (And.intro (And.intro (And.intro ag9 zv9) (And.intro un9 (And.intro sz63 ag63))) (And.intro (And.intro zv63 sb63) (And.intro un63 (And.intro el63 ap63)))))
theorem specAsc_ok (xs : List ByteArray) (hx : xs.length ≤ 2^48) : FnS Try.prog 151 [] [slT eS xs] [] (bT (decide (AscS xs))) := by
  refine FnS.go [0, 2, 3, 7, 19] [] Try.func151 rfl (fun kt kz => ?_)
  have fcx := fc151A55
  simp only [Try.f151]
  refine Run (cast_succ) ?_; repeat' (first | (with_reducible exact True.intro) | (with_reducible refine Lf.mk ?_ ?_) | (with_reducible intro hb))
  refine Trn (α := Nat) [2, 3, 4, 5, 6, 7, 8, 9, 10, 11, 12, 13, 14, 15, 16, 17, 18, 19] (fun i => [(3, iT i)]) (fun i => []) (fun i => 1 ≤ i ∧ ∀ j, (h : j + 1 < xs.length) → j + 1 < i → sLt (xs[j]'(by omega)) xs[j + 1] = true) (fun i => xs.length + 1 - i) (1) (⟨Nat.le_refl _, fun j h hj => by omega⟩) (cast_succ) ?_; intro lx hI; obtain i := lx; (try simp only [List.nil_append, List.cons_append] at hI ⊢)
  by_cases hlt : lx < xs.length
  · have hl1 : lx - 1 < xs.length := by omega
    by_cases hc : sLt xs[lx - 1] xs[lx] = true
    · refine Run ((And.intro @hlt (And.intro @eS.eq_1 @hc))) ?_; repeat' (first | (with_reducible exact True.intro) | (with_reducible refine Lf.mk ?_ ?_) | (with_reducible intro hb))
      exact Nxt (cast_succ) (lx + 1) (⟨by omega, fun j h hj => by
        rcases Nat.lt_or_ge (j + 1) lx with h1 | h1
        · exact hI.2 j h h1
        · obtain rfl : lx = j + 1 := by omega
          exact hc⟩) (by first | omega | (simp; omega))
    · have hcf : sLt xs[lx - 1] xs[lx] = false := by simpa using hc
      have e : decide (AscS xs) = false := decide_eq_false fun h => by
        have := h (lx - 1) (by omega)
        have e2 : lx - 1 + 1 = lx := by omega
        simp only [e2] at this
        rw [hcf] at this; cases this
      refine Run ((And.intro (And.intro @hlt @eS.eq_1) (And.intro @hcf @e))) ?_; repeat' (first | (with_reducible exact True.intro) | (with_reducible refine Lf.mk ?_ ?_) | (with_reducible intro hb))
  · have e : decide (AscS xs) = true := decide_eq_true fun j h => hI.2 j h (by omega)
    refine Run ((And.intro @hlt @e)) ?_; repeat' (first | (with_reducible exact True.intro) | (with_reducible refine Lf.mk ?_ ?_) | (with_reducible intro hb))
def fc238A55 := (And.intro (And.intro (And.intro (And.intro sz3 ag3) (And.intro zv3 un3)) (And.intro (And.intro sz4 ag4) (And.intro zv4 (And.intro un4 sz9)))) (And.intro (And.intro (And.intro ag9 zv9) (And.intro un9 (And.intro sz63 ag63))) (And.intro (And.intro zv63 sb63) (And.intro un63 (And.intro el63 ap63)))))
theorem implAsc_ok (xs : List ByteArray) (hx : xs.length ≤ 2^48) : FnS Try.prog 238 [] [slT eS xs] [] (bT (decide (AscS xs))) := by
  refine FnS.go [0, 2, 3, 7, 19] [] Try.func238 rfl (fun kt kz => ?_)
  have fcx := fc238A55
  simp only [Try.f238]
  refine Run (cast_succ) ?_; repeat' (first | (with_reducible exact True.intro) | (with_reducible refine Lf.mk ?_ ?_) | (with_reducible intro hb))
  refine Trn (α := Nat) [2, 3, 4, 5, 6, 7, 8, 9, 10, 11, 12, 13, 14, 15, 16, 17, 18, 19] (fun i => [(3, iT i)]) (fun i => []) (fun i => 1 ≤ i ∧ ∀ j, (h : j + 1 < xs.length) → j + 1 < i → sLt (xs[j]'(by omega)) xs[j + 1] = true) (fun i => xs.length + 1 - i) (1) (⟨Nat.le_refl _, fun j h hj => by omega⟩) (cast_succ) ?_; intro lx hI; obtain i := lx; (try simp only [List.nil_append, List.cons_append] at hI ⊢)
  by_cases hlt : lx < xs.length
  · have hl1 : lx - 1 < xs.length := by omega
    by_cases hc : sLt xs[lx - 1] xs[lx] = true
    · refine Run ((And.intro @hlt (And.intro @eS.eq_1 @hc))) ?_; repeat' (first | (with_reducible exact True.intro) | (with_reducible refine Lf.mk ?_ ?_) | (with_reducible intro hb))
      exact Nxt (cast_succ) (lx + 1) (⟨by omega, fun j h hj => by
        rcases Nat.lt_or_ge (j + 1) lx with h1 | h1
        · exact hI.2 j h h1
        · obtain rfl : lx = j + 1 := by omega
          exact hc⟩) (by first | omega | (simp; omega))
    · have hcf : sLt xs[lx - 1] xs[lx] = false := by simpa using hc
      have e : decide (AscS xs) = false := decide_eq_false fun h => by
        have := h (lx - 1) (by omega)
        have e2 : lx - 1 + 1 = lx := by omega
        simp only [e2] at this
        rw [hcf] at this; cases this
      refine Run ((And.intro (And.intro @hlt @eS.eq_1) (And.intro @hcf @e))) ?_; repeat' (first | (with_reducible exact True.intro) | (with_reducible refine Lf.mk ?_ ?_) | (with_reducible intro hb))
  · have e : decide (AscS xs) = true := decide_eq_true fun j h => hI.2 j h (by omega)
    refine Run ((And.intro @hlt @e)) ?_; repeat' (first | (with_reducible exact True.intro) | (with_reducible refine Lf.mk ?_ ?_) | (with_reducible intro hb))

end Go.VC.T
/- Labels: on both sides. -/
namespace Go.VC.T
open Go Go.VC Go.Proofs Go.VC.F
set_option linter.unusedSimpArgs false
set_option linter.unusedVariables false
set_option linter.defProp false
set_option maxRecDepth 100000
set_option maxHeartbeats 2000000
def fc240A56 := (And.intro (And.intro (And.intro sz4 ag4) (And.intro zv4 un4)) (And.intro (And.intro sz9 ag9) (And.intro zv9 (And.intro un9 okf154))))
theorem labNo_ok (s : ByteArray) (hs : s.size ≤ 2^48) : FnS Try.prog 240 [] [sT s] [] (bT (!decide (NameOk s))) := by
  refine FnS.go [0, 2] [] Try.func240 rfl (fun kt kz => ?_)
  have fcx := fc240A56
  simp only [Try.f240]
  refine Run (cast_succ) ?_; repeat' (first | (with_reducible exact True.intro) | (with_reducible refine Lf.mk ?_ ?_) | (with_reducible intro hb))
  refine Cal (cast_succ) (implName_ok s hs) ?_
  refine Run (cast_succ) ?_; repeat' (first | (with_reducible exact True.intro) | (with_reducible refine Lf.mk ?_ ?_) | (with_reducible intro hb))
def fc244A56 := (And.intro (And.intro (And.intro (And.intro sz3 ag3) (And.intro zv3 (And.intro un3 sz4))) (And.intro (And.intro ag4 (And.intro zv4 un4)) (And.intro sz9 (And.intro ag9 zv9)))) (And.intro (And.intro (And.intro un9 sz63) (And.intro ag63 (And.intro zv63 sb63))) (And.intro (And.intro un63 (And.intro el63 ap63)) (And.intro sz200 (And.intro ag200 zv200)))))
theorem slIdxNS_ok (g : Nat) (hg : fnOk Try.prog g = true) (p : ByteArray → Bool) (xs : List ByteArray) (hx : xs.length ≤ 2^48) (H : ∀ x ∈ xs, FnP Try.prog g [sT x] (bT (p x))) : FnS Try.prog 244 [] [slT eS xs, .c (.im (.fn g []))] [] (iT (idxI p xs)) := by
  refine FnS.go [0, 1, 4, 5, 7, 8, 9, 16] [] Try.func244 rfl (fun kt kz => ?_)
  have fcx := fc244A56
  simp only [Try.f244]
  refine Run (cast_succ) ?_; repeat' (first | (with_reducible exact True.intro) | (with_reducible refine Lf.mk ?_ ?_) | (with_reducible intro hb))
  refine Trn (α := Nat) [4, 5, 8, 9, 10, 11, 12, 13, 14, 15, 16, 17, 18] (fun i => [(8, iT i)]) (fun i => []) (fun i => i ≤ xs.length ∧ (xs.take i).any p = false) (fun i => xs.length - i) (0) (⟨Nat.zero_le _, rfl⟩) (cast_succ) ?_; intro lx hI; obtain i := lx; (try simp only [List.nil_append, List.cons_append] at hI ⊢)
  by_cases hlt : lx < xs.length
  · refine Run ((And.intro @hlt (And.intro @eS.eq_1 @hg))) ?_; repeat' (first | (with_reducible exact True.intro) | (with_reducible refine Lf.mk ?_ ?_) | (with_reducible intro hb))
    refine Cal (cast_succ) (H _ (List.getElem_mem hlt)) ?_
    refine Run (cast_succ) ?_; repeat' (first | (with_reducible exact True.intro) | (with_reducible refine Lf.mk ?_ ?_) | (with_reducible intro hb))
    · rw [idx_at hlt hI.2 hb]
    · exact Nxt (cast_succ) (lx + 1) (⟨by omega, any_take hlt hI.2 hb⟩) (by first | omega | (simp; omega))
  · have ha := any_all (by omega) hI.2
    refine Run (@hlt) ?_; repeat' (first | (with_reducible exact True.intro) | (with_reducible refine Lf.mk ?_ ?_) | (with_reducible intro hb))
    rw [idx_no ha]
def fc239A56 := (And.intro (And.intro (And.intro (And.intro sz3 ag3) (And.intro zv3 un3)) (And.intro (And.intro sz4 ag4) (And.intro zv4 (And.intro un4 sz63)))) (And.intro (And.intro (And.intro ag63 zv63) (And.intro sb63 (And.intro un63 el63))) (And.intro (And.intro ap63 sz200) (And.intro ag200 (And.intro zv200 okf244)))))
theorem slHasNS_ok (g : Nat) (hg : fnOk Try.prog g = true) (p : ByteArray → Bool) (xs : List ByteArray) (hx : xs.length ≤ 2^48) (H : ∀ x ∈ xs, FnP Try.prog g [sT x] (bT (p x))) : FnS Try.prog 239 [] [slT eS xs, .c (.im (.fn g []))] [] (bT (xs.any p)) := by
  refine FnS.go [0, 1, 4] [] Try.func239 rfl (fun kt kz => ?_)
  have fcx := fc239A56
  simp only [Try.f239]
  refine Run (cast_succ) ?_; repeat' (first | (with_reducible exact True.intro) | (with_reducible refine Lf.mk ?_ ?_) | (with_reducible intro hb))
  refine Cal (cast_succ) (slIdxNS_ok g hg p xs hx H) ?_
  refine Run ((idx_ge (p := p) (l := xs))) ?_; repeat' (first | (with_reducible exact True.intro) | (with_reducible refine Lf.mk ?_ ?_) | (with_reducible intro hb))
def fc232A56 := (And.intro (And.intro (And.intro (And.intro sz3 ag3) (And.intro zv3 (And.intro un3 sz4))) (And.intro (And.intro ag4 zv4) (And.intro un4 (And.intro sz63 ag63)))) (And.intro (And.intro (And.intro zv63 sb63) (And.intro un63 (And.intro el63 ap63))) (And.intro (And.intro sz200 (And.intro ag200 zv200)) (And.intro okf238 (And.intro okf239 okf240)))))
theorem implLabs_ok (xs : List ByteArray) (h : okLs (2^20) okS xs) : FnS Try.prog 232 [] [slT eS xs] [] (bT (decide (LabsOk xs))) := by
  refine FnS.go [0, 2, 15] [] Try.func232 rfl (fun kt kz => ?_)
  have fcx := fc232A56
  simp only [Try.f232]
  have hx : xs.length ≤ 2^20 := h.1
  have hss : ∀ s ∈ xs, s.size ≤ 2^48 := fun s hs => by have : s.size ≤ 2^20 := h.2 s hs; omega
  have hg : fnOk Try.prog 240 = true := by decide +kernel
  by_cases z1 : (xs.length : Int) < 1
  · have e : decide (LabsOk xs) = false := decide_eq_false fun h => by have := h.2.1; omega
    have g1 := eq_true z1
    refine Run ((And.intro @g1 @e)) ?_; repeat' (first | (with_reducible exact True.intro) | (with_reducible refine Lf.mk ?_ ?_) | (with_reducible intro hb))
  · have g1 := eq_false z1
    by_cases z2 : (4 : Int) < (xs.length : Int)
    · have e : decide (LabsOk xs) = false := decide_eq_false fun h => by have := h.2.1; omega
      have g2 := eq_true z2
      refine Run ((And.intro @g1 (And.intro @g2 @e))) ?_; repeat' (first | (with_reducible exact True.intro) | (with_reducible refine Lf.mk ?_ ?_) | (with_reducible intro hb))
    · have g2 := eq_false z2
      refine Run ((And.intro @g1 @g2)) ?_; repeat' (first | (with_reducible exact True.intro) | (with_reducible refine Lf.mk ?_ ?_) | (with_reducible intro hb))
      refine Cal (cast_succ) (implAsc_ok xs (by omega)) ?_
      by_cases ha : AscS xs
      · have ga := eq_true ha
        have e : (!xs.any fun s => !decide (NameOk s)) = decide (LabsOk xs) := by
          by_cases hn : ∀ s ∈ xs, NameOk s
          · rw [decide_eq_true (show LabsOk xs from ⟨hn, by omega, ha⟩)]
            have : xs.any (fun s => !decide (NameOk s)) = false := by
              rw [List.any_eq_false]
              intro s hs
              simp [hn s hs]
            rw [this]; rfl
          · rw [decide_eq_false (show ¬ LabsOk xs from fun h => hn h.1)]
            have : xs.any (fun s => !decide (NameOk s)) = true := by
              rw [List.any_eq_true]
              simp only [Classical.not_forall] at hn
              obtain ⟨s, hs, h1⟩ := hn
              exact ⟨s, hs, by simp [h1]⟩
            rw [this]; rfl
        refine Run ((And.intro @ga @hg)) ?_; repeat' (first | (with_reducible exact True.intro) | (with_reducible refine Lf.mk ?_ ?_) | (with_reducible intro hb))
        refine Cal (@hg) (slHasNS_ok 240 hg (fun s => !decide (NameOk s)) xs (by omega) (fun x hx => labNo_ok x (hss x hx))) ?_
        refine Run (@e) ?_; repeat' (first | (with_reducible exact True.intro) | (with_reducible refine Lf.mk ?_ ?_) | (with_reducible intro hb))
      · have ga := eq_false ha
        have e : decide (LabsOk xs) = false := decide_eq_false fun h => ha h.2.2
        refine Run ((And.intro @ga @e)) ?_; repeat' (first | (with_reducible exact True.intro) | (with_reducible refine Lf.mk ?_ ?_) | (with_reducible intro hb))
def fc230A56 := (And.intro (And.intro (And.intro (And.intro sz3 ag3) (And.intro zv3 (And.intro un3 sz4))) (And.intro (And.intro ag4 (And.intro zv4 un4)) (And.intro sz9 (And.intro ag9 zv9)))) (And.intro (And.intro (And.intro un9 sz63) (And.intro ag63 (And.intro zv63 sb63))) (And.intro (And.intro un63 (And.intro el63 ap63)) (And.intro okf99 (And.intro okf149 okf151)))))
theorem specLabs_ok (xs : List ByteArray) (h : okLs (2^20) okS xs) : FnS Try.prog 230 [] [slT eS xs] [] (bT (decide (LabsOk xs))) := by
  refine FnS.go [0, 2, 3, 7, 15] [] Try.func230 rfl (fun kt kz => ?_)
  have fcx := fc230A56
  simp only [Try.f230]
  have hx : xs.length ≤ 2^20 := h.1
  have hss : ∀ s ∈ xs, s.size ≤ 2^48 := fun s hs => by have : s.size ≤ 2^20 := h.2 s hs; omega
  refine Run (cast_succ) ?_; repeat' (first | (with_reducible exact True.intro) | (with_reducible refine Lf.mk ?_ ?_) | (with_reducible intro hb))
  refine Trn (α := Nat) [2, 3, 4, 5, 6, 7, 8, 9, 10, 11, 12, 13, 14, 15] (fun i => [(3, iT i)]) (fun i => []) (fun i => i ≤ xs.length ∧ ∀ s ∈ xs.take i, NameOk s) (fun i => xs.length - i) (0) (⟨Nat.zero_le _, fun s hs => by simp at hs⟩) (cast_succ) ?_; intro lx hI; obtain i := lx; (try simp only [List.nil_append, List.cons_append] at hI ⊢)
  by_cases hlt : lx < xs.length
  · refine Run ((And.intro @hlt @eS.eq_1)) ?_; repeat' (first | (with_reducible exact True.intro) | (with_reducible refine Lf.mk ?_ ?_) | (with_reducible intro hb))
    refine Cal (cast_succ) (specName_ok xs[lx] (hss _ (List.getElem_mem hlt))) ?_
    by_cases hn : NameOk xs[lx]
    · have gn := eq_true hn
      refine Run (@gn) ?_; repeat' (first | (with_reducible exact True.intro) | (with_reducible refine Lf.mk ?_ ?_) | (with_reducible intro hb))
      exact Nxt (cast_succ) (lx + 1) (⟨by omega, fun s hs => by
        rw [take_at hlt, List.mem_append] at hs
        rcases hs with h1 | h1
        · exact hI.2 s h1
        · rw [List.mem_singleton] at h1; subst h1; exact hn⟩) (by first | omega | (simp; omega))
    · have gn := eq_false hn
      have e : decide (LabsOk xs) = false := decide_eq_false fun h => hn (h.1 _ (List.getElem_mem hlt))
      refine Run ((And.intro @gn @e)) ?_; repeat' (first | (with_reducible exact True.intro) | (with_reducible refine Lf.mk ?_ ?_) | (with_reducible intro hb))
  · have hall : ∀ s ∈ xs, NameOk s := fun s hs => hI.2 s (by rw [List.take_of_length_le (by omega)]; exact hs)
    refine Run (@hlt) ?_; repeat' (first | (with_reducible exact True.intro) | (with_reducible refine Lf.mk ?_ ?_) | (with_reducible intro hb))
    refine Cal (cast_succ) (l1In_ok (xs.length : Int) 1 4) ?_
    by_cases h1 : 1 ≤ (xs.length : Int) ∧ (xs.length : Int) ≤ 4
    · have g1 := eq_true h1
      have e : decide (AscS xs) = decide (LabsOk xs) := decide_eq_decide.2 ⟨fun h => ⟨hall, by omega, h⟩, fun h => h.2.2⟩
      refine Run (@g1) ?_; repeat' (first | (with_reducible exact True.intro) | (with_reducible refine Lf.mk ?_ ?_) | (with_reducible intro hb))
      refine Cal (cast_succ) (specAsc_ok xs (by omega)) ?_
      refine Run (@e) ?_; repeat' (first | (with_reducible exact True.intro) | (with_reducible refine Lf.mk ?_ ?_) | (with_reducible intro hb))
    · have g1 := eq_false h1
      have e : decide (LabsOk xs) = false := decide_eq_false fun h => h1 (by have := h.2.1; omega)
      refine Run ((And.intro @g1 @e)) ?_; repeat' (first | (with_reducible exact True.intro) | (with_reducible refine Lf.mk ?_ ?_) | (with_reducible intro hb))

end Go.VC.T
