/- Facts of the program: sizes, zero values and fields of its types. -/
import Derived.Test.YtgljcadheoijfaaGreatProg
import Derived.Test.YtgljcadheoijfaaGreatG3WL27
import Derived.KernelRfl
import Derived.Test.YtgljcadheoijfaaGreatG4WL27
set_option linter.unusedSimpArgs false
set_option linter.unusedVariables false
set_option linter.defProp false
set_option maxRecDepth 100000
set_option maxHeartbeats 2000000
namespace Go.VC.F
theorem ai {a b : Prop} (h : a) (k : b) : a ∧ b := ⟨h, k⟩
open Go Go.VC
open Go.Proofs
theorem sz3 : szOf Tryz.prog 3 = some 1 := by kernel_rfl
theorem co3 : Program.cellsOf Tryz.prog 3 = 1 := by kernel_rfl
theorem ag3 : aggB Tryz.prog 3 = false := by kernel_rfl
theorem zv3 : wpO.zvOf Tryz.prog 3 = some [.int .i64 0] := by kernel_rfl
theorem un3 : Tryz.prog.underlying 3 = some (.int .i64) := by kernel_rfl
theorem sz4 : szOf Tryz.prog 4 = some 1 := by kernel_rfl
theorem ag4 : aggB Tryz.prog 4 = false := by kernel_rfl
theorem zv4 : wpO.zvOf Tryz.prog 4 = some [.bool false] := by kernel_rfl
theorem un4 : Tryz.prog.underlying 4 = some .bool := by kernel_rfl
theorem sz5 : szOf Tryz.prog 5 = some 1 := by kernel_rfl
theorem ag5 : aggB Tryz.prog 5 = false := by kernel_rfl
theorem zv5 : wpO.zvOf Tryz.prog 5 = some [.int .u8 0] := by kernel_rfl
theorem un5 : Tryz.prog.underlying 5 = some (.int .u8) := by kernel_rfl
theorem sz9 : szOf Tryz.prog 9 = some 1 := by kernel_rfl
theorem co9 : Program.cellsOf Tryz.prog 9 = 1 := by kernel_rfl
theorem by9 : Program.bytesOf Tryz.prog 9 = 16 := by kernel_rfl
theorem ag9 : aggB Tryz.prog 9 = false := by kernel_rfl
theorem zv9 : wpO.zvOf Tryz.prog 9 = some [.string ⟨#[]⟩] := by kernel_rfl
theorem un9 : Tryz.prog.underlying 9 = some .string := by kernel_rfl
theorem sz22 : szOf Tryz.prog 22 = some 1 := by kernel_rfl
theorem co22 : Program.cellsOf Tryz.prog 22 = 1 := by kernel_rfl
theorem ag22 : aggB Tryz.prog 22 = false := by kernel_rfl
theorem zv22 : wpO.zvOf Tryz.prog 22 = some [.slice none 0 0] := by kernel_rfl
theorem sb22 : slB Tryz.prog 22 = true := by kernel_rfl
theorem un22 : Tryz.prog.underlying 22 = some (.slice 93) := by kernel_rfl
theorem el22 : elOf Tryz.prog 22 = some (93, 4) := by kernel_rfl
theorem ap22 : apOf Tryz.prog 22 = some (93, 4, 72, [.string ⟨#[]⟩, .int .i64 0, .slice none 0 0, .slice none 0 0]) := by kernel_rfl
theorem sz24 : szOf Tryz.prog 24 = some 1 := by kernel_rfl
theorem co24 : Program.cellsOf Tryz.prog 24 = 1 := by kernel_rfl
theorem ag24 : aggB Tryz.prog 24 = true := by kernel_rfl
theorem zv24 : wpO.zvOf Tryz.prog 24 = some [.slice none 0 0] := by kernel_rfl
theorem st24 : strOf Tryz.prog 24 = some [(22, 0)] := by kernel_rfl
theorem fl24_0 : fldOf Tryz.prog 24 0 = some (0, 22) := by kernel_rfl
theorem pl24 : plOf Tryz.prog 24 = some ([(0, 1)], [.slice none 0 0]) := by kernel_rfl
theorem sz25 : szOf Tryz.prog 25 = some 1 := by kernel_rfl
theorem co25 : Program.cellsOf Tryz.prog 25 = 1 := by kernel_rfl
theorem ag25 : aggB Tryz.prog 25 = false := by kernel_rfl
theorem zv25 : wpO.zvOf Tryz.prog 25 = some [.slice none 0 0] := by kernel_rfl
theorem sb25 : slB Tryz.prog 25 = true := by kernel_rfl
theorem un25 : Tryz.prog.underlying 25 = some (.slice 9) := by kernel_rfl
theorem el25 : elOf Tryz.prog 25 = some (9, 1) := by kernel_rfl
theorem ap25 : apOf Tryz.prog 25 = some (9, 1, 16, [.string ⟨#[]⟩]) := by kernel_rfl
theorem sz26 : szOf Tryz.prog 26 = some 1 := by kernel_rfl
theorem co26 : Program.cellsOf Tryz.prog 26 = 1 := by kernel_rfl
theorem ag26 : aggB Tryz.prog 26 = false := by kernel_rfl
theorem zv26 : wpO.zvOf Tryz.prog 26 = some [.slice none 0 0] := by kernel_rfl
theorem sb26 : slB Tryz.prog 26 = true := by kernel_rfl
theorem un26 : Tryz.prog.underlying 26 = some (.slice 28) := by kernel_rfl
theorem el26 : elOf Tryz.prog 26 = some (28, 3) := by kernel_rfl
theorem ap26 : apOf Tryz.prog 26 = some (28, 3, 56, [.int .i64 0, .slice none 0 0, .slice none 0 0]) := by kernel_rfl
theorem sz28 : szOf Tryz.prog 28 = some 3 := by kernel_rfl
theorem co28 : Program.cellsOf Tryz.prog 28 = 3 := by kernel_rfl
theorem by28 : Program.bytesOf Tryz.prog 28 = 56 := by kernel_rfl
theorem ag28 : aggB Tryz.prog 28 = true := by kernel_rfl
theorem zv28 : wpO.zvOf Tryz.prog 28 = some [.int .i64 0, .slice none 0 0, .slice none 0 0] := by kernel_rfl
theorem st28 : strOf Tryz.prog 28 = some [(3, 0), (25, 1), (26, 2)] := by kernel_rfl
theorem fl28_0 : fldOf Tryz.prog 28 0 = some (0, 3) := by kernel_rfl
theorem fl28_1 : fldOf Tryz.prog 28 1 = some (1, 25) := by kernel_rfl
theorem fl28_2 : fldOf Tryz.prog 28 2 = some (2, 26) := by kernel_rfl
theorem pl28 : plOf Tryz.prog 28 = some ([(0, 1), (1, 1), (2, 1)], [.int .i64 0, .slice none 0 0, .slice none 0 0]) := by kernel_rfl
theorem sz29 : szOf Tryz.prog 29 = some 1 := by kernel_rfl
theorem co29 : Program.cellsOf Tryz.prog 29 = 1 := by kernel_rfl
theorem ag29 : aggB Tryz.prog 29 = false := by kernel_rfl
theorem zv29 : wpO.zvOf Tryz.prog 29 = some [.slice none 0 0] := by kernel_rfl
theorem sb29 : slB Tryz.prog 29 = true := by kernel_rfl
theorem un29 : Tryz.prog.underlying 29 = some (.slice 31) := by kernel_rfl
theorem el29 : elOf Tryz.prog 29 = some (31, 8) := by kernel_rfl
theorem ap29 : apOf Tryz.prog 29 = some (31, 8, 136, [.int .i64 0, .string ⟨#[]⟩, .int .i64 0, .int .i64 0, .slice none 0 0, .slice none 0 0, .slice none 0 0, .slice none 0 0]) := by kernel_rfl
theorem sz31 : szOf Tryz.prog 31 = some 8 := by kernel_rfl
theorem co31 : Program.cellsOf Tryz.prog 31 = 8 := by kernel_rfl
theorem by31 : Program.bytesOf Tryz.prog 31 = 136 := by kernel_rfl
theorem ag31 : aggB Tryz.prog 31 = true := by kernel_rfl
theorem zv31 : wpO.zvOf Tryz.prog 31 = some [.int .i64 0, .string ⟨#[]⟩, .int .i64 0, .int .i64 0, .slice none 0 0, .slice none 0 0, .slice none 0 0, .slice none 0 0] := by kernel_rfl
theorem st31 : strOf Tryz.prog 31 = some [(3, 0), (9, 1), (3, 2), (28, 3), (25, 6), (29, 7)] := by kernel_rfl
theorem fl31_0 : fldOf Tryz.prog 31 0 = some (0, 3) := by kernel_rfl
theorem fl31_1 : fldOf Tryz.prog 31 1 = some (1, 9) := by kernel_rfl
theorem fl31_2 : fldOf Tryz.prog 31 2 = some (2, 3) := by kernel_rfl
theorem fl31_3 : fldOf Tryz.prog 31 3 = some (3, 28) := by kernel_rfl
theorem fl31_4 : fldOf Tryz.prog 31 4 = some (6, 25) := by kernel_rfl
theorem fl31_5 : fldOf Tryz.prog 31 5 = some (7, 29) := by kernel_rfl
theorem pl31 : plOf Tryz.prog 31 = some ([(0, 1), (1, 1), (2, 1), (3, 3), (6, 1), (7, 1)], [.int .i64 0, .string ⟨#[]⟩, .int .i64 0, .int .i64 0, .slice none 0 0, .slice none 0 0, .slice none 0 0, .slice none 0 0]) := by kernel_rfl
theorem sz33 : szOf Tryz.prog 33 = some 11 := by kernel_rfl
theorem co33 : Program.cellsOf Tryz.prog 33 = 11 := by kernel_rfl
theorem ag33 : aggB Tryz.prog 33 = true := by kernel_rfl
theorem zv33 : wpO.zvOf Tryz.prog 33 = some [.string ⟨#[]⟩, .int .i64 0, .string ⟨#[]⟩, .int .i64 0, .int .i64 0, .slice none 0 0, .slice none 0 0, .slice none 0 0, .slice none 0 0, .slice none 0 0, .string ⟨#[]⟩] := by kernel_rfl
theorem st33 : strOf Tryz.prog 33 = some [(9, 0), (31, 1), (25, 9), (9, 10)] := by kernel_rfl
theorem fl33_0 : fldOf Tryz.prog 33 0 = some (0, 9) := by kernel_rfl
theorem fl33_1 : fldOf Tryz.prog 33 1 = some (1, 31) := by kernel_rfl
theorem fl33_2 : fldOf Tryz.prog 33 2 = some (9, 25) := by kernel_rfl
theorem fl33_3 : fldOf Tryz.prog 33 3 = some (10, 9) := by kernel_rfl
theorem pl33 : plOf Tryz.prog 33 = some ([(0, 1), (1, 8), (9, 1), (10, 1)], [.string ⟨#[]⟩, .int .i64 0, .string ⟨#[]⟩, .int .i64 0, .int .i64 0, .slice none 0 0, .slice none 0 0, .slice none 0 0, .slice none 0 0, .slice none 0 0, .string ⟨#[]⟩]) := by kernel_rfl
theorem sz37 : szOf Tryz.prog 37 = some 1 := by kernel_rfl
theorem ag37 : aggB Tryz.prog 37 = false := by kernel_rfl
theorem zv37 : wpO.zvOf Tryz.prog 37 = some [.slice none 0 0] := by kernel_rfl
theorem sb37 : slB Tryz.prog 37 = true := by kernel_rfl
theorem un37 : Tryz.prog.underlying 37 = some (.slice 97) := by kernel_rfl
theorem el37 : elOf Tryz.prog 37 = some (97, 4) := by kernel_rfl
theorem ap37 : apOf Tryz.prog 37 = some (97, 4, 72, [.string ⟨#[]⟩, .int .i64 0, .slice none 0 0, .slice none 0 0]) := by kernel_rfl
theorem sz39 : szOf Tryz.prog 39 = some 1 := by kernel_rfl
theorem ag39 : aggB Tryz.prog 39 = true := by kernel_rfl
theorem zv39 : wpO.zvOf Tryz.prog 39 = some [.slice none 0 0] := by kernel_rfl
theorem fl39_0 : fldOf Tryz.prog 39 0 = some (0, 37) := by kernel_rfl
theorem pl39 : plOf Tryz.prog 39 = some ([(0, 1)], [.slice none 0 0]) := by kernel_rfl
theorem sz41 : szOf Tryz.prog 41 = some 1 := by kernel_rfl
theorem ag41 : aggB Tryz.prog 41 = false := by kernel_rfl
theorem zv41 : wpO.zvOf Tryz.prog 41 = some [.slice none 0 0] := by kernel_rfl
theorem sb41 : slB Tryz.prog 41 = true := by kernel_rfl
theorem un41 : Tryz.prog.underlying 41 = some (.slice 43) := by kernel_rfl
theorem el41 : elOf Tryz.prog 41 = some (43, 3) := by kernel_rfl
theorem ap41 : apOf Tryz.prog 41 = some (43, 3, 56, [.int .i64 0, .slice none 0 0, .slice none 0 0]) := by kernel_rfl
theorem sz43 : szOf Tryz.prog 43 = some 3 := by kernel_rfl
theorem ag43 : aggB Tryz.prog 43 = true := by kernel_rfl
theorem zv43 : wpO.zvOf Tryz.prog 43 = some [.int .i64 0, .slice none 0 0, .slice none 0 0] := by kernel_rfl
theorem fl43_0 : fldOf Tryz.prog 43 0 = some (0, 3) := by kernel_rfl
theorem fl43_1 : fldOf Tryz.prog 43 1 = some (1, 25) := by kernel_rfl
theorem fl43_2 : fldOf Tryz.prog 43 2 = some (2, 41) := by kernel_rfl
theorem pl43 : plOf Tryz.prog 43 = some ([(0, 1), (1, 1), (2, 1)], [.int .i64 0, .slice none 0 0, .slice none 0 0]) := by kernel_rfl
theorem sz44 : szOf Tryz.prog 44 = some 1 := by kernel_rfl
theorem ag44 : aggB Tryz.prog 44 = false := by kernel_rfl
theorem zv44 : wpO.zvOf Tryz.prog 44 = some [.slice none 0 0] := by kernel_rfl
theorem sb44 : slB Tryz.prog 44 = true := by kernel_rfl
theorem un44 : Tryz.prog.underlying 44 = some (.slice 46) := by kernel_rfl
theorem el44 : elOf Tryz.prog 44 = some (46, 8) := by kernel_rfl
theorem ap44 : apOf Tryz.prog 44 = some (46, 8, 136, [.int .i64 0, .string ⟨#[]⟩, .int .i64 0, .int .i64 0, .slice none 0 0, .slice none 0 0, .slice none 0 0, .slice none 0 0]) := by kernel_rfl
theorem sz46 : szOf Tryz.prog 46 = some 8 := by kernel_rfl
theorem ag46 : aggB Tryz.prog 46 = true := by kernel_rfl
theorem zv46 : wpO.zvOf Tryz.prog 46 = some [.int .i64 0, .string ⟨#[]⟩, .int .i64 0, .int .i64 0, .slice none 0 0, .slice none 0 0, .slice none 0 0, .slice none 0 0] := by kernel_rfl
theorem fl46_0 : fldOf Tryz.prog 46 0 = some (0, 3) := by kernel_rfl
theorem fl46_1 : fldOf Tryz.prog 46 1 = some (1, 9) := by kernel_rfl
theorem fl46_2 : fldOf Tryz.prog 46 2 = some (2, 3) := by kernel_rfl
theorem fl46_3 : fldOf Tryz.prog 46 3 = some (3, 43) := by kernel_rfl
theorem fl46_4 : fldOf Tryz.prog 46 4 = some (6, 25) := by kernel_rfl
theorem fl46_5 : fldOf Tryz.prog 46 5 = some (7, 44) := by kernel_rfl
theorem pl46 : plOf Tryz.prog 46 = some ([(0, 1), (1, 1), (2, 1), (3, 3), (6, 1), (7, 1)], [.int .i64 0, .string ⟨#[]⟩, .int .i64 0, .int .i64 0, .slice none 0 0, .slice none 0 0, .slice none 0 0, .slice none 0 0]) := by kernel_rfl
theorem sz48 : szOf Tryz.prog 48 = some 11 := by kernel_rfl
theorem ag48 : aggB Tryz.prog 48 = true := by kernel_rfl
theorem zv48 : wpO.zvOf Tryz.prog 48 = some [.string ⟨#[]⟩, .int .i64 0, .string ⟨#[]⟩, .int .i64 0, .int .i64 0, .slice none 0 0, .slice none 0 0, .slice none 0 0, .slice none 0 0, .slice none 0 0, .string ⟨#[]⟩] := by kernel_rfl
theorem fl48_0 : fldOf Tryz.prog 48 0 = some (0, 9) := by kernel_rfl
theorem fl48_1 : fldOf Tryz.prog 48 1 = some (1, 46) := by kernel_rfl
theorem fl48_2 : fldOf Tryz.prog 48 2 = some (9, 25) := by kernel_rfl
theorem fl48_3 : fldOf Tryz.prog 48 3 = some (10, 9) := by kernel_rfl
theorem pl48 : plOf Tryz.prog 48 = some ([(0, 1), (1, 8), (9, 1), (10, 1)], [.string ⟨#[]⟩, .int .i64 0, .string ⟨#[]⟩, .int .i64 0, .int .i64 0, .slice none 0 0, .slice none 0 0, .slice none 0 0, .slice none 0 0, .slice none 0 0, .string ⟨#[]⟩]) := by kernel_rfl
theorem sz55 : szOf Tryz.prog 55 = some 1 := by kernel_rfl
theorem ag55 : aggB Tryz.prog 55 = false := by kernel_rfl
theorem zv55 : wpO.zvOf Tryz.prog 55 = some [.nilFunc] := by kernel_rfl
theorem sz69 : szOf Tryz.prog 69 = some 4 := by kernel_rfl
theorem ag69 : aggB Tryz.prog 69 = true := by kernel_rfl
theorem zv69 : wpO.zvOf Tryz.prog 69 = some [.string ⟨#[]⟩, .int .i64 0, .slice none 0 0, .slice none 0 0] := by kernel_rfl
theorem fl69_0 : fldOf Tryz.prog 69 0 = some (0, 9) := by kernel_rfl
theorem fl69_1 : fldOf Tryz.prog 69 1 = some (1, 43) := by kernel_rfl
theorem pl69 : plOf Tryz.prog 69 = some ([(0, 1), (1, 3)], [.string ⟨#[]⟩, .int .i64 0, .slice none 0 0, .slice none 0 0]) := by kernel_rfl
theorem sz70 : szOf Tryz.prog 70 = some 1 := by kernel_rfl
theorem ag70 : aggB Tryz.prog 70 = false := by kernel_rfl
theorem zv70 : wpO.zvOf Tryz.prog 70 = some [.slice none 0 0] := by kernel_rfl
theorem sb70 : slB Tryz.prog 70 = true := by kernel_rfl
theorem un70 : Tryz.prog.underlying 70 = some (.slice 69) := by kernel_rfl
theorem el70 : elOf Tryz.prog 70 = some (69, 4) := by kernel_rfl
theorem ap70 : apOf Tryz.prog 70 = some (69, 4, 72, [.string ⟨#[]⟩, .int .i64 0, .slice none 0 0, .slice none 0 0]) := by kernel_rfl
theorem sz77 : szOf Tryz.prog 77 = some 1 := by kernel_rfl
theorem ag77 : aggB Tryz.prog 77 = false := by kernel_rfl
theorem zv77 : wpO.zvOf Tryz.prog 77 = some [.pointer none] := by kernel_rfl
theorem un77 : Tryz.prog.underlying 77 = some (.pointer 46) := by kernel_rfl
theorem sz81 : szOf Tryz.prog 81 = some 1 := by kernel_rfl
theorem ag81 : aggB Tryz.prog 81 = false := by kernel_rfl
theorem zv81 : wpO.zvOf Tryz.prog 81 = some [.nilFunc] := by kernel_rfl
theorem sz93 : szOf Tryz.prog 93 = some 4 := by kernel_rfl
theorem co93 : Program.cellsOf Tryz.prog 93 = 4 := by kernel_rfl
theorem by93 : Program.bytesOf Tryz.prog 93 = 72 := by kernel_rfl
theorem ag93 : aggB Tryz.prog 93 = true := by kernel_rfl
theorem zv93 : wpO.zvOf Tryz.prog 93 = some [.string ⟨#[]⟩, .int .i64 0, .slice none 0 0, .slice none 0 0] := by kernel_rfl
theorem st93 : strOf Tryz.prog 93 = some [(9, 0), (28, 1)] := by kernel_rfl
theorem fl93_0 : fldOf Tryz.prog 93 0 = some (0, 9) := by kernel_rfl
theorem fl93_1 : fldOf Tryz.prog 93 1 = some (1, 28) := by kernel_rfl
theorem pl93 : plOf Tryz.prog 93 = some ([(0, 1), (1, 3)], [.string ⟨#[]⟩, .int .i64 0, .slice none 0 0, .slice none 0 0]) := by kernel_rfl
theorem sz97 : szOf Tryz.prog 97 = some 4 := by kernel_rfl
theorem ag97 : aggB Tryz.prog 97 = true := by kernel_rfl
theorem zv97 : wpO.zvOf Tryz.prog 97 = some [.string ⟨#[]⟩, .int .i64 0, .slice none 0 0, .slice none 0 0] := by kernel_rfl
theorem fl97_0 : fldOf Tryz.prog 97 0 = some (0, 9) := by kernel_rfl
theorem fl97_1 : fldOf Tryz.prog 97 1 = some (1, 43) := by kernel_rfl
theorem pl97 : plOf Tryz.prog 97 = some ([(0, 1), (1, 3)], [.string ⟨#[]⟩, .int .i64 0, .slice none 0 0, .slice none 0 0]) := by kernel_rfl
theorem sz98 : szOf Tryz.prog 98 = some 1 := by kernel_rfl
theorem ag98 : aggB Tryz.prog 98 = false := by kernel_rfl
theorem zv98 : wpO.zvOf Tryz.prog 98 = some [.nilFunc] := by kernel_rfl
theorem sz105 : szOf Tryz.prog 105 = some 1 := by kernel_rfl
theorem ag105 : aggB Tryz.prog 105 = true := by kernel_rfl
theorem zv105 : wpO.zvOf Tryz.prog 105 = some [.slice none 0 0] := by kernel_rfl
theorem fl105_0 : fldOf Tryz.prog 105 0 = some (0, 39) := by kernel_rfl
theorem pl105 : plOf Tryz.prog 105 = some ([(0, 1)], [.slice none 0 0]) := by kernel_rfl
theorem sz119 : szOf Tryz.prog 119 = some 1 := by kernel_rfl
theorem ag119 : aggB Tryz.prog 119 = false := by kernel_rfl
theorem zv119 : wpO.zvOf Tryz.prog 119 = some [.pointer none] := by kernel_rfl
theorem un119 : Tryz.prog.underlying 119 = some (.pointer 105) := by kernel_rfl
theorem sz120 : szOf Tryz.prog 120 = some 1 := by kernel_rfl
theorem ag120 : aggB Tryz.prog 120 = false := by kernel_rfl
theorem zv120 : wpO.zvOf Tryz.prog 120 = some [.slice none 0 0] := by kernel_rfl
theorem sb120 : slB Tryz.prog 120 = true := by kernel_rfl
theorem un120 : Tryz.prog.underlying 120 = some (.slice 5) := by kernel_rfl
theorem el120 : elOf Tryz.prog 120 = some (5, 1) := by kernel_rfl
theorem ap120 : apOf Tryz.prog 120 = some (5, 1, 1, [.int .u8 0]) := by kernel_rfl
theorem sz127 : szOf Tryz.prog 127 = some 1 := by kernel_rfl
theorem ag127 : aggB Tryz.prog 127 = false := by kernel_rfl
theorem zv127 : wpO.zvOf Tryz.prog 127 = some [.pointer none] := by kernel_rfl
theorem un127 : Tryz.prog.underlying 127 = some (.pointer 43) := by kernel_rfl
theorem sz138 : szOf Tryz.prog 138 = some 1 := by kernel_rfl
theorem ag138 : aggB Tryz.prog 138 = false := by kernel_rfl
theorem zv138 : wpO.zvOf Tryz.prog 138 = some [.map none] := by kernel_rfl
theorem mp138 : mpOf Tryz.prog 138 = some (.int .i64, .int .i64 0) := by kernel_rfl
theorem okf5 : fnOk Tryz.prog 5 = true := by kernel_rfl
theorem okf6 : fnOk Tryz.prog 6 = true := by kernel_rfl
theorem okf7 : fnOk Tryz.prog 7 = true := by kernel_rfl
theorem okf8 : fnOk Tryz.prog 8 = true := by kernel_rfl
theorem okf9 : fnOk Tryz.prog 9 = true := by kernel_rfl
theorem okf10 : fnOk Tryz.prog 10 = true := by kernel_rfl
theorem okf11 : fnOk Tryz.prog 11 = true := by kernel_rfl
theorem okf12 : fnOk Tryz.prog 12 = true := by kernel_rfl
theorem okf13 : fnOk Tryz.prog 13 = true := by kernel_rfl
theorem okf14 : fnOk Tryz.prog 14 = true := by kernel_rfl
theorem okf15 : fnOk Tryz.prog 15 = true := by kernel_rfl
theorem okf16 : fnOk Tryz.prog 16 = true := by kernel_rfl
theorem okf17 : fnOk Tryz.prog 17 = true := by kernel_rfl
theorem okf18 : fnOk Tryz.prog 18 = true := by kernel_rfl
theorem okf19 : fnOk Tryz.prog 19 = true := by kernel_rfl
theorem okf20 : fnOk Tryz.prog 20 = true := by kernel_rfl
theorem okf21 : fnOk Tryz.prog 21 = true := by kernel_rfl
theorem okf22 : fnOk Tryz.prog 22 = true := by kernel_rfl
theorem okf23 : fnOk Tryz.prog 23 = true := by kernel_rfl
theorem okf24 : fnOk Tryz.prog 24 = true := by kernel_rfl
theorem okf25 : fnOk Tryz.prog 25 = true := by kernel_rfl
theorem okf26 : fnOk Tryz.prog 26 = true := by kernel_rfl
theorem okf27 : fnOk Tryz.prog 27 = true := by kernel_rfl
theorem okf28 : fnOk Tryz.prog 28 = true := by kernel_rfl
theorem okf29 : fnOk Tryz.prog 29 = true := by kernel_rfl
theorem okf30 : fnOk Tryz.prog 30 = true := by kernel_rfl
theorem okf31 : fnOk Tryz.prog 31 = true := by kernel_rfl
theorem okf32 : fnOk Tryz.prog 32 = true := by kernel_rfl
theorem okf33 : fnOk Tryz.prog 33 = true := by kernel_rfl
theorem okf34 : fnOk Tryz.prog 34 = true := by kernel_rfl
theorem okf35 : fnOk Tryz.prog 35 = true := by kernel_rfl
theorem okf36 : fnOk Tryz.prog 36 = true := by kernel_rfl
theorem okf37 : fnOk Tryz.prog 37 = true := by kernel_rfl
theorem okf38 : fnOk Tryz.prog 38 = true := by kernel_rfl
theorem okf39 : fnOk Tryz.prog 39 = true := by kernel_rfl
theorem okf40 : fnOk Tryz.prog 40 = true := by kernel_rfl
theorem okf41 : fnOk Tryz.prog 41 = true := by kernel_rfl
theorem okf42 : fnOk Tryz.prog 42 = true := by kernel_rfl
theorem okf43 : fnOk Tryz.prog 43 = true := by kernel_rfl
theorem okf44 : fnOk Tryz.prog 44 = true := by kernel_rfl
theorem okf45 : fnOk Tryz.prog 45 = true := by kernel_rfl
theorem okf46 : fnOk Tryz.prog 46 = true := by kernel_rfl
theorem okf47 : fnOk Tryz.prog 47 = true := by kernel_rfl
theorem okf48 : fnOk Tryz.prog 48 = true := by kernel_rfl
theorem okf49 : fnOk Tryz.prog 49 = true := by kernel_rfl
theorem okf50 : fnOk Tryz.prog 50 = true := by kernel_rfl
theorem okf51 : fnOk Tryz.prog 51 = true := by kernel_rfl
theorem okf52 : fnOk Tryz.prog 52 = true := by kernel_rfl
theorem okf53 : fnOk Tryz.prog 53 = true := by kernel_rfl
theorem okf54 : fnOk Tryz.prog 54 = true := by kernel_rfl
theorem okf55 : fnOk Tryz.prog 55 = true := by kernel_rfl
theorem okf56 : fnOk Tryz.prog 56 = true := by kernel_rfl
theorem okf57 : fnOk Tryz.prog 57 = true := by kernel_rfl
theorem okf58 : fnOk Tryz.prog 58 = true := by kernel_rfl
theorem okf59 : fnOk Tryz.prog 59 = true := by kernel_rfl
theorem okf60 : fnOk Tryz.prog 60 = true := by kernel_rfl
theorem okf61 : fnOk Tryz.prog 61 = true := by kernel_rfl
theorem okf62 : fnOk Tryz.prog 62 = true := by kernel_rfl
theorem okf63 : fnOk Tryz.prog 63 = true := by kernel_rfl
theorem okf64 : fnOk Tryz.prog 64 = true := by kernel_rfl
theorem okf65 : fnOk Tryz.prog 65 = true := by kernel_rfl
theorem okf66 : fnOk Tryz.prog 66 = true := by kernel_rfl
theorem okf67 : fnOk Tryz.prog 67 = true := by kernel_rfl
theorem okf68 : fnOk Tryz.prog 68 = true := by kernel_rfl
theorem okf69 : fnOk Tryz.prog 69 = true := by kernel_rfl
theorem okf70 : fnOk Tryz.prog 70 = true := by kernel_rfl
theorem okf71 : fnOk Tryz.prog 71 = true := by kernel_rfl
theorem okf72 : fnOk Tryz.prog 72 = true := by kernel_rfl
theorem okf73 : fnOk Tryz.prog 73 = true := by kernel_rfl
theorem okf74 : fnOk Tryz.prog 74 = true := by kernel_rfl
theorem okf75 : fnOk Tryz.prog 75 = true := by kernel_rfl
theorem okf76 : fnOk Tryz.prog 76 = true := by kernel_rfl
theorem okf77 : fnOk Tryz.prog 77 = true := by kernel_rfl
theorem okf78 : fnOk Tryz.prog 78 = true := by kernel_rfl
theorem okf79 : fnOk Tryz.prog 79 = true := by kernel_rfl
theorem okf80 : fnOk Tryz.prog 80 = true := by kernel_rfl
theorem okf81 : fnOk Tryz.prog 81 = true := by kernel_rfl
theorem okf82 : fnOk Tryz.prog 82 = true := by kernel_rfl
theorem okf83 : fnOk Tryz.prog 83 = true := by kernel_rfl
theorem okf84 : fnOk Tryz.prog 84 = true := by kernel_rfl
theorem okf85 : fnOk Tryz.prog 85 = true := by kernel_rfl
theorem okf86 : fnOk Tryz.prog 86 = true := by kernel_rfl
theorem okf87 : fnOk Tryz.prog 87 = true := by kernel_rfl
theorem okf88 : fnOk Tryz.prog 88 = true := by kernel_rfl
theorem okf89 : fnOk Tryz.prog 89 = true := by kernel_rfl
theorem okf90 : fnOk Tryz.prog 90 = true := by kernel_rfl
theorem okf91 : fnOk Tryz.prog 91 = true := by kernel_rfl
theorem okf92 : fnOk Tryz.prog 92 = true := by kernel_rfl
theorem okf93 : fnOk Tryz.prog 93 = true := by kernel_rfl
theorem okf94 : fnOk Tryz.prog 94 = true := by kernel_rfl
theorem okf95 : fnOk Tryz.prog 95 = true := by kernel_rfl
theorem okf96 : fnOk Tryz.prog 96 = true := by kernel_rfl
theorem okf97 : fnOk Tryz.prog 97 = true := by kernel_rfl
theorem okf98 : fnOk Tryz.prog 98 = true := by kernel_rfl
theorem okf99 : fnOk Tryz.prog 99 = true := by kernel_rfl
theorem okf100 : fnOk Tryz.prog 100 = true := by kernel_rfl
theorem okf101 : fnOk Tryz.prog 101 = true := by kernel_rfl
theorem okf102 : fnOk Tryz.prog 102 = true := by kernel_rfl
theorem okf103 : fnOk Tryz.prog 103 = true := by kernel_rfl
theorem okf104 : fnOk Tryz.prog 104 = true := by kernel_rfl
theorem okf105 : fnOk Tryz.prog 105 = true := by kernel_rfl
theorem okf106 : fnOk Tryz.prog 106 = true := by kernel_rfl
theorem okf107 : fnOk Tryz.prog 107 = true := by kernel_rfl
theorem okf108 : fnOk Tryz.prog 108 = true := by kernel_rfl
theorem okf109 : fnOk Tryz.prog 109 = true := by kernel_rfl
theorem okf110 : fnOk Tryz.prog 110 = true := by kernel_rfl
theorem okf111 : fnOk Tryz.prog 111 = true := by kernel_rfl
theorem okf112 : fnOk Tryz.prog 112 = true := by kernel_rfl
theorem okf113 : fnOk Tryz.prog 113 = true := by kernel_rfl
theorem okf114 : fnOk Tryz.prog 114 = true := by kernel_rfl
theorem okf115 : fnOk Tryz.prog 115 = true := by kernel_rfl
theorem okf116 : fnOk Tryz.prog 116 = true := by kernel_rfl
theorem okf117 : fnOk Tryz.prog 117 = true := by kernel_rfl
theorem okf118 : fnOk Tryz.prog 118 = true := by kernel_rfl
theorem okf119 : fnOk Tryz.prog 119 = true := by kernel_rfl
theorem okf120 : fnOk Tryz.prog 120 = true := by kernel_rfl
theorem okf121 : fnOk Tryz.prog 121 = true := by kernel_rfl
theorem okf122 : fnOk Tryz.prog 122 = true := by kernel_rfl
theorem okf123 : fnOk Tryz.prog 123 = true := by kernel_rfl
theorem okf124 : fnOk Tryz.prog 124 = true := by kernel_rfl
theorem okf125 : fnOk Tryz.prog 125 = true := by kernel_rfl
theorem okf126 : fnOk Tryz.prog 126 = true := by kernel_rfl
theorem okf128 : fnOk Tryz.prog 128 = true := by kernel_rfl
theorem okf129 : fnOk Tryz.prog 129 = true := by kernel_rfl
theorem okf130 : fnOk Tryz.prog 130 = true := by kernel_rfl
theorem okf131 : fnOk Tryz.prog 131 = true := by kernel_rfl
theorem okf132 : fnOk Tryz.prog 132 = true := by kernel_rfl
theorem okf134 : fnOk Tryz.prog 134 = true := by kernel_rfl
theorem okf135 : fnOk Tryz.prog 135 = true := by kernel_rfl
theorem okf136 : fnOk Tryz.prog 136 = true := by kernel_rfl
theorem mixed : Tryz.prog.follows .mixedOrders = true := by kernel_rfl
end Go.VC.F
/- The data of the program, as trees. -/
namespace Go.VC
open Go
/-- A type. -/
inductive Ty where
  | mk (kind : Int) (labels : List ByteArray) (args : List Ty)
  deriving Inhabited
def Ty.kind : Ty → Int | .mk k _ _ => k
def Ty.labels : Ty → List ByteArray | .mk _ l _ => l
def Ty.args : Ty → List Ty | .mk _ _ a => a
mutual
def eTy : Ty → List IV
  | .mk k l a => [.sc (.int .i64 k), slI eS l, .sl a.length (eTyL a)]
def eTyL : List Ty → List IV
  | [] => []
  | t :: r => eTy t ++ eTyL r
end
theorem eTyL_eq : ∀ (l : List Ty), eTyL l = l.flatMap eTy
  | [] => rfl
  | t :: r => by rw [eTyL, eTyL_eq r, List.flatMap_cons]
theorem eTy_eta (t : Ty) : eTy t = [.sc (.int .i64 t.kind), slI eS t.labels, slI eTy t.args] := by
  cases t with
  | mk k l a => rw [eTy, eTyL_eq]; rfl
instance : Wid eTy 3 := ⟨fun t => by rw [eTy_eta]; rfl⟩
/-- A value. -/
inductive Val where
  | mk (kind n : Int) (labels : List ByteArray) (args : List Val)
  deriving Inhabited
def Val.kind : Val → Int | .mk k _ _ _ => k
def Val.n : Val → Int | .mk _ n _ _ => n
def Val.labels : Val → List ByteArray | .mk _ _ l _ => l
def Val.args : Val → List Val | .mk _ _ _ a => a
mutual
def eVal : Val → List IV
  | .mk k n l a => [.sc (.int .i64 k), .sc (.int .i64 n), slI eS l, .sl a.length (eValL a)]
def eValL : List Val → List IV
  | [] => []
  | t :: r => eVal t ++ eValL r
end
theorem eValL_eq : ∀ (l : List Val), eValL l = l.flatMap eVal
  | [] => rfl
  | t :: r => by rw [eValL, eValL_eq r, List.flatMap_cons]
theorem eVal_eta (t : Val) : eVal t = [.sc (.int .i64 t.kind), .sc (.int .i64 t.n), slI eS t.labels, slI eVal t.args] := by
  cases t with
  | mk k n l a => rw [eVal, eValL_eq]; rfl
instance : Wid eVal 4 := ⟨fun t => by rw [eVal_eta]; rfl⟩
/-- A term. -/
inductive Tm where
  | mk (kind : Int) (name : ByteArray) (n : Int) (ty : Ty) (labels : List ByteArray) (args : List Tm)
  deriving Inhabited
def Tm.kind : Tm → Int | .mk k _ _ _ _ _ => k
def Tm.name : Tm → ByteArray | .mk _ s _ _ _ _ => s
def Tm.n : Tm → Int | .mk _ _ n _ _ _ => n
def Tm.ty : Tm → Ty | .mk _ _ _ t _ _ => t
def Tm.labels : Tm → List ByteArray | .mk _ _ _ _ l _ => l
def Tm.args : Tm → List Tm | .mk _ _ _ _ _ a => a
mutual
def eTm : Tm → List IV
  | .mk k s n t l a => [.sc (.int .i64 k), .sc (.string s), .sc (.int .i64 n), .sc (.int .i64 t.kind), slI eS t.labels, slI eTy t.args, slI eS l, .sl a.length (eTmL a)]
def eTmL : List Tm → List IV
  | [] => []
  | t :: r => eTm t ++ eTmL r
end
theorem eTmL_eq : ∀ (l : List Tm), eTmL l = l.flatMap eTm
  | [] => rfl
  | t :: r => by rw [eTmL, eTmL_eq r, List.flatMap_cons]
theorem eTm_eta (t : Tm) : eTm t = [.sc (.int .i64 t.kind), .sc (.string t.name), .sc (.int .i64 t.n), .sc (.int .i64 t.ty.kind), slI eS t.ty.labels, slI eTy t.ty.args, slI eS t.labels, slI eTm t.args] := by
  cases t with
  | mk k s n t l a => rw [eTm, eTmL_eq]; rfl
instance : Wid eTm 8 := ⟨fun t => by rw [eTm_eta]; rfl⟩
/-- A plan. -/
inductive Pl where
  | mk (kind : Int) (var table : ByteArray) (cond : Tm) (keys : List Tm) (args : List Pl)
  deriving Inhabited
def Pl.kind : Pl → Int | .mk k _ _ _ _ _ => k
def Pl.var : Pl → ByteArray | .mk _ s _ _ _ _ => s
def Pl.table : Pl → ByteArray | .mk _ _ s _ _ _ => s
def Pl.cond : Pl → Tm | .mk _ _ _ t _ _ => t
def Pl.keys : Pl → List Tm | .mk _ _ _ _ l _ => l
def Pl.args : Pl → List Pl | .mk _ _ _ _ _ a => a
mutual
def ePl : Pl → List IV
  | .mk k s u t l a => [.sc (.int .i64 k), .sc (.string s), .sc (.string u)] ++ eTm t ++ [slI eTm l, .sl a.length (ePlL a)]
def ePlL : List Pl → List IV
  | [] => []
  | t :: r => ePl t ++ ePlL r
end
theorem ePlL_eq : ∀ (l : List Pl), ePlL l = l.flatMap ePl
  | [] => rfl
  | t :: r => by rw [ePlL, ePlL_eq r, List.flatMap_cons]
theorem ePl_eta (t : Pl) : ePl t = [.sc (.int .i64 t.kind), .sc (.string t.var), .sc (.string t.table), .sc (.int .i64 t.cond.kind), .sc (.string t.cond.name), .sc (.int .i64 t.cond.n), .sc (.int .i64 t.cond.ty.kind), slI eS t.cond.ty.labels, slI eTy t.cond.ty.args, slI eS t.cond.labels, slI eTm t.cond.args, slI eTm t.keys, slI ePl t.args] := by
  cases t with
  | mk k s u t l a => rw [ePl, ePlL_eq, eTm_eta]; rfl
instance : Wid ePl 13 := ⟨fun t => by rw [ePl_eta]; rfl⟩
/-- Products; polynomials are lists of them. -/
structure Mono where
  coef : Int
  vars : List ByteArray
def eMono (a : Mono) : List IV := [.sc (.int .i64 a.coef), slI eS a.vars]
instance : Wid eMono 2 := ⟨fun _ => rfl⟩
structure Ann where
  value : Val
  poly : List Mono
def eAnn (a : Ann) : List IV := eVal a.value ++ [slI eMono a.poly]
theorem eAnn_eta (a : Ann) : eAnn a = [.sc (.int .i64 a.value.kind), .sc (.int .i64 a.value.n), slI eS a.value.labels, slI eVal a.value.args, slI eMono a.poly] := by rw [eAnn, eVal_eta]; rfl
instance : Wid eAnn 5 := ⟨fun t => by rw [eAnn_eta]; rfl⟩
structure Decl where
  name : ByteArray
  row : Ty
def eDecl (a : Decl) : List IV := .sc (.string a.name) :: eTy a.row
theorem eDecl_eta (a : Decl) : eDecl a = [.sc (.string a.name), .sc (.int .i64 a.row.kind), slI eS a.row.labels, slI eTy a.row.args] := by rw [eDecl, eTy_eta]
instance : Wid eDecl 4 := ⟨fun t => by rw [eDecl_eta]; rfl⟩
structure TData where
  name : ByteArray
  rows : List Val
def eTData (a : TData) : List IV := [.sc (.string a.name), slI eVal a.rows]
instance : Wid eTData 2 := ⟨fun _ => rfl⟩
structure Gn where
  var : ByteArray
  table : ByteArray
def eGn (a : Gn) : List IV := [.sc (.string a.var), .sc (.string a.table)]
instance : Wid eGn 2 := ⟨fun _ => rfl⟩
structure Vw where
  table : ByteArray
  cond : Tm
  cols : List ByteArray
  key : ByteArray
def eVw (a : Vw) : List IV := .sc (.string a.table) :: (eTm a.cond ++ [slI eS a.cols, .sc (.string a.key)])
theorem eVw_eta (a : Vw) : eVw a = [.sc (.string a.table), .sc (.int .i64 a.cond.kind), .sc (.string a.cond.name), .sc (.int .i64 a.cond.n), .sc (.int .i64 a.cond.ty.kind), slI eS a.cond.ty.labels, slI eTy a.cond.ty.args, slI eS a.cond.labels, slI eTm a.cond.args, slI eS a.cols, .sc (.string a.key)] := by rw [eVw, eTm_eta]; rfl
instance : Wid eVw 11 := ⟨fun t => by rw [eVw_eta]; rfl⟩
end Go.VC
/- How much a datum counts, when it is measured: no statement of a program. -/
namespace Go.VC
open Go
/-- What is left after taking. -/
def szR (n : Nat) (left : Int) : Int := if (n : Int) ≤ left then left - n else -1
theorem szR_add (n m : Nat) (l : Int) : szR m (szR n l) = szR (n + m) l := by
  unfold szR
  split <;> split <;> split <;> omega
theorem szR_le {n : Nat} {l : Int} (h : 0 ≤ l) : -1 ≤ szR n l ∧ szR n l ≤ l := by unfold szR; split <;> omega
theorem szR_sub {n : Nat} {l : Int} (h : 0 ≤ l - n) : l - n = szR n l := by unfold szR; rw [if_pos (by omega)]
theorem szR_neg {n m : Nat} {l : Int} (h : szR n l < 0) (hm : n ≤ m) : szR m l = -1 := by unfold szR at h ⊢; split at h <;> split <;> omega
theorem szR_nil {n m : Nat} {l : Int} (h : l - n < 0) (hm : n ≤ m) : szR m l = -1 := by unfold szR; split <;> omega
theorem szR_spec (n : Nat) (l : Int) : ((n : Int) ≤ l ∧ szR n l = l - n) ∨ (l < n ∧ szR n l = -1) := by unfold szR; split <;> omega
def zL {α : Type} (z : α → Nat) (l : List α) : Nat := l.length + (l.map z).sum
def zT {α : Type} (z : α → Nat) (l : List α) (i : Nat) : Nat := l.length + ((l.take i).map z).sum
theorem zT_zero {α : Type} {z : α → Nat} {l : List α} : zT z l 0 = l.length := by simp [zT]
theorem zT_all {α : Type} {z : α → Nat} {l : List α} {i : Nat} (h : l.length ≤ i) : zT z l i = zL z l := by rw [zT, List.take_of_length_le h, zL]
theorem zT_succ {α : Type} {z : α → Nat} {l : List α} {i : Nat} (h : i < l.length) : zT z l (i + 1) = zT z l i + z l[i] := by
  rw [zT, zT, List.take_succ_eq_append_getElem h, List.map_append, List.sum_append]; simp; omega
theorem sum_take_le {α : Type} {z : α → Nat} : ∀ {l : List α} {i : Nat}, ((l.take i).map z).sum ≤ (l.map z).sum
  | [], i => by simp
  | a :: r, 0 => by simp
  | a :: r, i + 1 => by
    have := sum_take_le (z := z) (l := r) (i := i)
    simp only [List.take_succ_cons, List.map_cons, List.sum_cons]; omega
theorem zT_le {α : Type} {z : α → Nat} {l : List α} {i : Nat} : zT z l i ≤ zL z l := by unfold zT zL; have := sum_take_le (z := z) (l := l) (i := i); omega
theorem zL_len {α : Type} {z : α → Nat} {l : List α} : l.length ≤ zL z l := by unfold zL; omega
theorem zL_mem {α : Type} {z : α → Nat} {l : List α} {x : α} (h : x ∈ l) : z x ≤ zL z l := by
  unfold zL
  induction l with
  | nil => cases h
  | cons a r ih =>
    rcases List.mem_cons.1 h with rfl | h
    · simp only [List.map_cons, List.sum_cons]; omega
    · have := ih h; simp only [List.map_cons, List.sum_cons, List.length_cons] at *; omega
def zS (s : ByteArray) : Nat := s.size
abbrev zSL (l : List ByteArray) : Nat := zL zS l
def okS (b : Nat) (s : ByteArray) : Prop := s.size ≤ b
def ok64 (n : Int) : Prop := -9223372036854775808 ≤ n ∧ n ≤ 9223372036854775807
def okLs {α : Type} (b : Nat) (ok : Nat → α → Prop) (l : List α) : Prop := l.length ≤ b ∧ ∀ s ∈ l, ok b s
theorem okI_int {b : Nat} {n : Int} : okI b (.sc (.int .i64 n)) ↔ ok64 n := by simp [okI, okV, ok64, IntKind.min, IntKind.max, IntKind.signed, IntKind.bits]
theorem okI_str {b : Nat} {s : ByteArray} : okI b (.sc (.string s)) ↔ okS b s := by simp [okI, okV, okS]
theorem okI_L {b : Nat} {α : Type} {E : α → List IV} {l : List α} : okI b (slI E l) ↔ okLs b (fun b t => okL b (E t)) l := by simp [okI_slI, okLs]
theorem okL_nil {b : Nat} : okL b [] ↔ True := by simp [okL]
theorem okL_cons {b : Nat} {x : IV} {r : List IV} : okL b (x :: r) ↔ okI b x ∧ okL b r := by simp [okL]
theorem okS_fn : (fun b s => okL b (eS s)) = okS := by funext b s; simp [eS, okL_cons, okL_nil, okI_str]
theorem mI_int {n : Int} {k : IntKind} : mI (.sc (.int k n)) = 0 := by simp [mI, mV]
theorem mI_str {s : ByteArray} : mI (.sc (.string s)) = zS s := by simp [mI, mV, zS]
theorem mI_L {α : Type} {E : α → List IV} {l : List α} : mI (slI E l) = zL (fun x => mL (E x)) l := by rw [mI_slI, zL]
theorem mL_nil : mL [] = 0 := by simp [mL]
theorem mL_cons {x : IV} {r : List IV} : mL (x :: r) = mI x + mL r := by simp [mL]
theorem mS_fn : (fun s => mL (eS s)) = zS := by funext s; simp [eS, mL_cons, mL_nil, mI_str]
theorem okLs_at {α : Type} {b : Nat} {ok : Nat → α → Prop} {l : List α} (h : okLs b ok l) {i : Nat} (hi : i < l.length) : ok b l[i] := h.2 _ (List.getElem_mem hi)
def okTy (b : Nat) (t : Ty) : Prop := okL b (eTy t)
theorem okTy_fn : (fun b t => okL b (eTy t)) = okTy := rfl
def zTy (t : Ty) : Nat := mL (eTy t)
theorem mTy_fn : (fun t => mL (eTy t)) = zTy := rfl
theorem okTy_iff {b : Nat} {t : Ty} : okTy b t ↔ ok64 t.kind ∧ okLs b okS t.labels ∧ okLs b okTy t.args := by
  conv => lhs; unfold okTy
  rw [eTy_eta]; simp only [okL_cons, okL_nil, okI_int, okI_str, okI_L, okS_fn, okTy_fn, and_true, and_assoc]
theorem zTy_eta (t : Ty) : zTy t = zSL t.labels + zL zTy t.args := by
  conv => lhs; unfold zTy
  rw [eTy_eta]; simp only [mL_cons, mL_nil, mI_int, mI_str, mI_L, mS_fn, mTy_fn, zSL, Nat.zero_add, Nat.add_zero, Nat.add_assoc]
def okVal (b : Nat) (t : Val) : Prop := okL b (eVal t)
theorem okVal_fn : (fun b t => okL b (eVal t)) = okVal := rfl
def zVal (t : Val) : Nat := mL (eVal t)
theorem mVal_fn : (fun t => mL (eVal t)) = zVal := rfl
def okTm (b : Nat) (t : Tm) : Prop := okL b (eTm t)
theorem okTm_fn : (fun b t => okL b (eTm t)) = okTm := rfl
def zTm (t : Tm) : Nat := mL (eTm t)
theorem mTm_fn : (fun t => mL (eTm t)) = zTm := rfl
theorem okTm_iff {b : Nat} {t : Tm} : okTm b t ↔ ok64 t.kind ∧ okS b t.name ∧ ok64 t.n ∧ okTy b t.ty ∧ okLs b okS t.labels ∧ okLs b okTm t.args := by
  conv => lhs; unfold okTm
  rw [eTm_eta, okTy_iff]; simp only [okL_cons, okL_nil, okI_int, okI_str, okI_L, okS_fn, okTy_fn, okVal_fn, okTm_fn, and_true, and_assoc]
theorem zTm_eta (t : Tm) : zTm t = zS t.name + zTy t.ty + zSL t.labels + zL zTm t.args := by
  conv => lhs; unfold zTm
  rw [eTm_eta, zTy_eta]; simp only [mL_cons, mL_nil, mI_int, mI_str, mI_L, mS_fn, mTy_fn, mVal_fn, mTm_fn, zSL, Nat.zero_add, Nat.add_zero, Nat.add_assoc]
def okPl (b : Nat) (t : Pl) : Prop := okL b (ePl t)
theorem okPl_fn : (fun b t => okL b (ePl t)) = okPl := rfl
def zPl (t : Pl) : Nat := mL (ePl t)
theorem mPl_fn : (fun t => mL (ePl t)) = zPl := rfl
def okMono (b : Nat) (t : Mono) : Prop := okL b (eMono t)
theorem okMono_fn : (fun b t => okL b (eMono t)) = okMono := rfl
def zMono (t : Mono) : Nat := mL (eMono t)
theorem mMono_fn : (fun t => mL (eMono t)) = zMono := rfl
def okAnn (b : Nat) (t : Ann) : Prop := okL b (eAnn t)
theorem okAnn_fn : (fun b t => okL b (eAnn t)) = okAnn := rfl
def zAnn (t : Ann) : Nat := mL (eAnn t)
theorem mAnn_fn : (fun t => mL (eAnn t)) = zAnn := rfl
def okDecl (b : Nat) (t : Decl) : Prop := okL b (eDecl t)
theorem okDecl_fn : (fun b t => okL b (eDecl t)) = okDecl := rfl
def zDecl (t : Decl) : Nat := mL (eDecl t)
theorem mDecl_fn : (fun t => mL (eDecl t)) = zDecl := rfl
theorem okDecl_iff {b : Nat} {t : Decl} : okDecl b t ↔ okS b t.name ∧ okTy b t.row := by
  conv => lhs; unfold okDecl
  rw [eDecl_eta, okTy_iff]; simp only [okL_cons, okL_nil, okI_int, okI_str, okI_L, okS_fn, okTy_fn, okVal_fn, okTm_fn, okPl_fn, okMono_fn, okAnn_fn, okDecl_fn, and_true, and_assoc]
theorem zDecl_eta (t : Decl) : zDecl t = zS t.name + zTy t.row := by
  conv => lhs; unfold zDecl
  rw [eDecl_eta, zTy_eta]; simp only [mL_cons, mL_nil, mI_int, mI_str, mI_L, mS_fn, mTy_fn, mVal_fn, mTm_fn, mPl_fn, mMono_fn, mAnn_fn, mDecl_fn, zSL, Nat.zero_add, Nat.add_zero, Nat.add_assoc]
def okTData (b : Nat) (t : TData) : Prop := okL b (eTData t)
theorem okTData_fn : (fun b t => okL b (eTData t)) = okTData := rfl
def zTData (t : TData) : Nat := mL (eTData t)
theorem mTData_fn : (fun t => mL (eTData t)) = zTData := rfl
def okGn (b : Nat) (t : Gn) : Prop := okL b (eGn t)
theorem okGn_fn : (fun b t => okL b (eGn t)) = okGn := rfl
def zGn (t : Gn) : Nat := mL (eGn t)
theorem mGn_fn : (fun t => mL (eGn t)) = zGn := rfl
def okVw (b : Nat) (t : Vw) : Prop := okL b (eVw t)
theorem okVw_fn : (fun b t => okL b (eVw t)) = okVw := rfl
def zVw (t : Vw) : Nat := mL (eVw t)
theorem mVw_fn : (fun t => mL (eVw t)) = zVw := rfl
theorem okVw_down {B b : Nat} {t : Vw} (h : okVw B t) (g : zVw t ≤ b) : okVw b t := okL_down h g
theorem okVw_iff {b : Nat} {t : Vw} : okVw b t ↔ okS b t.table ∧ okTm b t.cond ∧ okLs b okS t.cols ∧ okS b t.key := by
  conv => lhs; unfold okVw
  rw [eVw_eta, okTm_iff, okTy_iff]; simp only [okL_cons, okL_nil, okI_int, okI_str, okI_L, okS_fn, okTy_fn, okVal_fn, okTm_fn, okPl_fn, okMono_fn, okAnn_fn, okDecl_fn, okTData_fn, okGn_fn, okVw_fn, and_true, and_assoc]
theorem zVw_eta (t : Vw) : zVw t = zS t.table + zTm t.cond + zSL t.cols + zS t.key := by
  conv => lhs; unfold zVw
  rw [eVw_eta, zTm_eta, zTy_eta]; simp only [mL_cons, mL_nil, mI_int, mI_str, mI_L, mS_fn, mTy_fn, mVal_fn, mTm_fn, mPl_fn, mMono_fn, mAnn_fn, mDecl_fn, mTData_fn, mGn_fn, mVw_fn, zSL, Nat.zero_add, Nat.add_zero, Nat.add_assoc]
theorem Ty.mem {t u : Ty} (h : u ∈ t.args) : SizeOf.sizeOf u < SizeOf.sizeOf t := by
  cases t with
  | mk k l a => have := List.sizeOf_lt_of_mem h; simp only [Ty.mk.sizeOf_spec, Ty.args] at *; omega
theorem Val.mem {t u : Val} (h : u ∈ t.args) : SizeOf.sizeOf u < SizeOf.sizeOf t := by
  cases t with
  | mk k n l a => have := List.sizeOf_lt_of_mem h; simp only [Val.mk.sizeOf_spec, Val.args] at *; omega
theorem Tm.mem {t u : Tm} (h : u ∈ t.args) : SizeOf.sizeOf u < SizeOf.sizeOf t := by
  cases t with
  | mk k s n t l a => have := List.sizeOf_lt_of_mem h; simp only [Tm.mk.sizeOf_spec, Tm.args] at *; omega
theorem Pl.mem {t u : Pl} (h : u ∈ t.args) : SizeOf.sizeOf u < SizeOf.sizeOf t := by
  cases t with
  | mk k s n t l a => have := List.sizeOf_lt_of_mem h; simp only [Pl.mk.sizeOf_spec, Pl.args] at *; omega
def ePoly (l : List Mono) : List IV := [slI eMono l]
instance : Wid ePoly 1 := ⟨fun _ => rfl⟩
def okPoly (b : Nat) (t : List Mono) : Prop := okL b (ePoly t)
def zPoly (t : List Mono) : Nat := mL (ePoly t)
def eSch (l : List Decl) : List IV := [slI eDecl l]
theorem eSch_eta (l : List Decl) : eSch l = [slI eDecl l] := rfl
instance : Wid eSch 1 := ⟨fun _ => rfl⟩
def okSch (b : Nat) (t : List Decl) : Prop := okL b (eSch t)
def zSch (t : List Decl) : Nat := mL (eSch t)
theorem okSch_down {B b : Nat} {t : List Decl} (h : okSch B t) (g : zSch t ≤ b) : okSch b t := okL_down h g
theorem okSch_iff {b : Nat} {t : List Decl} : okSch b t ↔ okLs b okDecl t := by
  conv => lhs; unfold okSch
  rw [eSch]; simp only [okL_cons, okL_nil, okI_L, okDecl_fn, and_true]
theorem zSch_eta (t : List Decl) : zSch t = zL zDecl t := by
  conv => lhs; unfold zSch
  rw [eSch]; simp only [mL_cons, mL_nil, mI_L, mDecl_fn, Nat.add_zero]
def eDbs (l : List TData) : List IV := [slI eTData l]
instance : Wid eDbs 1 := ⟨fun _ => rfl⟩
def okDbs (b : Nat) (t : List TData) : Prop := okL b (eDbs t)
def zDbs (t : List TData) : Nat := mL (eDbs t)
theorem eMono_eta (t : Mono) : eMono t = [.sc (.int .i64 t.coef), slI eS t.vars] := rfl
theorem eTData_eta (t : TData) : eTData t = [.sc (.string t.name), slI eVal t.rows] := rfl
theorem eGn_eta (t : Gn) : eGn t = [.sc (.string t.var), .sc (.string t.table)] := rfl
/-- A key. -/
structure Kd where
  table : ByteArray
  label : ByteArray
def eKd (a : Kd) : List IV := [.sc (.string a.table), .sc (.string a.label)]
theorem eKd_eta (t : Kd) : eKd t = [.sc (.string t.table), .sc (.string t.label)] := rfl
instance : Wid eKd 2 := ⟨fun _ => rfl⟩
def okKd (b : Nat) (t : Kd) : Prop := okL b (eKd t)
def zKd (t : Kd) : Nat := mL (eKd t)
/-- What a session holds. -/
structure Ses where
  schema : List Decl
  db : List TData
  query : Tm
  other : Tm
def eSes (a : Ses) : List IV := slI eDecl a.schema :: slI eTData a.db :: (eTm a.query ++ eTm a.other)
theorem eSes_eta (a : Ses) : eSes a = [slI eDecl a.schema, slI eTData a.db, .sc (.int .i64 a.query.kind), .sc (.string a.query.name), .sc (.int .i64 a.query.n), .sc (.int .i64 a.query.ty.kind), slI eS a.query.ty.labels, slI eTy a.query.ty.args, slI eS a.query.labels, slI eTm a.query.args, .sc (.int .i64 a.other.kind), .sc (.string a.other.name), .sc (.int .i64 a.other.n), .sc (.int .i64 a.other.ty.kind), slI eS a.other.ty.labels, slI eTy a.other.ty.args, slI eS a.other.labels, slI eTm a.other.args] := by rw [eSes, eTm_eta, eTm_eta]; rfl
instance : Wid eSes 18 := ⟨fun t => by rw [eSes_eta]; rfl⟩
def okSes (b : Nat) (t : Ses) : Prop := okL b (eSes t)
def zSes (t : Ses) : Nat := mL (eSes t)
end Go.VC
/- When data are equal: no statement of a program. -/
namespace Go.VC
open Go
noncomputable instance : DecidableEq Ty := fun a b => Classical.propDecidable _
noncomputable instance : DecidableEq Val := fun a b => Classical.propDecidable _
noncomputable instance : DecidableEq Tm := fun a b => Classical.propDecidable _
noncomputable instance : DecidableEq Pl := fun a b => Classical.propDecidable _
noncomputable instance : DecidableEq Mono := fun a b => Classical.propDecidable _
noncomputable instance : DecidableEq Ann := fun a b => Classical.propDecidable _
noncomputable instance : DecidableEq Decl := fun a b => Classical.propDecidable _
noncomputable instance : DecidableEq TData := fun a b => Classical.propDecidable _
noncomputable instance : DecidableEq Vw := fun a b => Classical.propDecidable _
noncomputable instance : DecidableEq Ses := fun a b => Classical.propDecidable _
theorem Ty.ext {t u : Ty} (h1 : t.kind = u.kind) (h2 : t.labels = u.labels) (h3 : t.args = u.args) : t = u := by
  cases t; cases u; simp_all [Ty.kind, Ty.labels, Ty.args]
theorem Val.ext {t u : Val} (h1 : t.kind = u.kind) (h0 : t.n = u.n) (h2 : t.labels = u.labels) (h3 : t.args = u.args) : t = u := by
  cases t; cases u; simp_all [Val.kind, Val.n, Val.labels, Val.args]
theorem Tm.ext {t u : Tm} (h1 : t.kind = u.kind) (h4 : t.name = u.name) (h0 : t.n = u.n) (h5 : t.ty = u.ty) (h2 : t.labels = u.labels) (h3 : t.args = u.args) : t = u := by
  cases t; cases u; simp_all [Tm.kind, Tm.name, Tm.n, Tm.ty, Tm.labels, Tm.args]
theorem Mono.ext {t u : Mono} (h1 : t.coef = u.coef) (h2 : t.vars = u.vars) : t = u := by cases t; cases u; simp_all
theorem Ann.ext {t u : Ann} (h1 : t.value = u.value) (h2 : t.poly = u.poly) : t = u := by cases t; cases u; simp_all
theorem Decl.ext {t u : Decl} (h1 : t.name = u.name) (h2 : t.row = u.row) : t = u := by cases t; cases u; simp_all
theorem TData.ext {t u : TData} (h1 : t.name = u.name) (h2 : t.rows = u.rows) : t = u := by cases t; cases u; simp_all
theorem Vw.ext {t u : Vw} (h1 : t.table = u.table) (h2 : t.cond = u.cond) (h3 : t.cols = u.cols) (h4 : t.key = u.key) : t = u := by cases t; cases u; simp_all
theorem Ses.ext {t u : Ses} (h1 : t.schema = u.schema) (h2 : t.db = u.db) (h3 : t.query = u.query) (h4 : t.other = u.other) : t = u := by cases t; cases u; simp_all
theorem take_all {α : Type} {xs ys : List α} {i : Nat} (h : xs.take i = ys.take i) (hl : xs.length = ys.length) (hi : xs.length ≤ i) : xs = ys := by
  rw [List.take_of_length_le hi, List.take_of_length_le (by omega)] at h; exact h
theorem ne_len {α : Type} {xs ys : List α} (h : ¬ xs.length = ys.length) : xs ≠ ys := fun e => h (by rw [e])
theorem ne_at {α : Type} {xs ys : List α} {i : Nat} (hx : i < xs.length) (hy : i < ys.length) (h : ¬ xs[i] = ys[i]) : xs ≠ ys := fun e => h (by subst e; rfl)
end Go.VC
/- Heads, comprehensions, queries, as trees: no statement of a program. -/
namespace Go.VC
open Go
mutual
/-- A head. -/
inductive Hd where
  | mk (kind : Int) (term : Tm) (labels : List ByteArray) (parts : List Hd) (query : List Cmp)
/-- A comprehension. -/
inductive Cmp where
  | mk (gens : List Gn) (wh : Tm) (head : Hd)
end
def Hd.kind : Hd → Int | .mk k _ _ _ _ => k
def Hd.term : Hd → Tm | .mk _ t _ _ _ => t
def Hd.labels : Hd → List ByteArray | .mk _ _ l _ _ => l
def Hd.parts : Hd → List Hd | .mk _ _ _ p _ => p
def Hd.query : Hd → List Cmp | .mk _ _ _ _ q => q
def Cmp.gens : Cmp → List Gn | .mk g _ _ => g
def Cmp.wh : Cmp → Tm | .mk _ w _ => w
def Cmp.head : Cmp → Hd | .mk _ _ h => h
instance : Inhabited Hd := ⟨.mk 0 default [] [] []⟩
instance : Inhabited Cmp := ⟨.mk [] default default⟩
mutual
def eHd : Hd → List IV
  | .mk k t l p q => [.sc (.int .i64 k)] ++ (eTm t ++ [slI eS l, .sl p.length (eHdL p), .sl q.length (eCmpL q)])
def eHdL : List Hd → List IV
  | [] => []
  | t :: r => eHd t ++ eHdL r
def eCmp : Cmp → List IV
  | .mk g w h => [slI eGn g] ++ (eTm w ++ eHd h)
def eCmpL : List Cmp → List IV
  | [] => []
  | t :: r => eCmp t ++ eCmpL r
end
theorem eHdL_eq : ∀ (l : List Hd), eHdL l = l.flatMap eHd
  | [] => by rw [eHdL]; rfl
  | t :: r => by rw [eHdL, eHdL_eq r, List.flatMap_cons]
theorem eCmpL_eq : ∀ (l : List Cmp), eCmpL l = l.flatMap eCmp
  | [] => by rw [eCmpL]; rfl
  | t :: r => by rw [eCmpL, eCmpL_eq r, List.flatMap_cons]
theorem eHd_app (t : Hd) : eHd t = [.sc (.int .i64 t.kind)] ++ (eTm t.term ++ ([slI eS t.labels, slI eHd t.parts, slI eCmp t.query])) := by
  cases t with
  | mk k t l p q => rw [eHd, eHdL_eq, eCmpL_eq]; rfl
theorem eCmp_app (t : Cmp) : eCmp t = [slI eGn t.gens] ++ (eTm t.wh ++ (eHd t.head)) := by
  cases t with
  | mk g w h => rw [eCmp]; rfl
theorem eHd_eta (t : Hd) : eHd t = [.sc (.int .i64 t.kind), .sc (.int .i64 t.term.kind), .sc (.string t.term.name), .sc (.int .i64 t.term.n), .sc (.int .i64 t.term.ty.kind), slI eS t.term.ty.labels, slI eTy t.term.ty.args, slI eS t.term.labels, slI eTm t.term.args, slI eS t.labels, slI eHd t.parts, slI eCmp t.query] := by rw [eHd_app, eTm_eta]; rfl
theorem eCmp_eta (t : Cmp) : eCmp t = [slI eGn t.gens, .sc (.int .i64 t.wh.kind), .sc (.string t.wh.name), .sc (.int .i64 t.wh.n), .sc (.int .i64 t.wh.ty.kind), slI eS t.wh.ty.labels, slI eTy t.wh.ty.args, slI eS t.wh.labels, slI eTm t.wh.args, .sc (.int .i64 t.head.kind), .sc (.int .i64 t.head.term.kind), .sc (.string t.head.term.name), .sc (.int .i64 t.head.term.n), .sc (.int .i64 t.head.term.ty.kind), slI eS t.head.term.ty.labels, slI eTy t.head.term.ty.args, slI eS t.head.term.labels, slI eTm t.head.term.args, slI eS t.head.labels, slI eHd t.head.parts, slI eCmp t.head.query] := by rw [eCmp_app, eTm_eta, eHd_eta]; rfl
instance : Wid eHd 12 := ⟨fun t => by rw [eHd_eta]; rfl⟩
instance : Wid eCmp 21 := ⟨fun t => by rw [eCmp_eta]; rfl⟩
def okHd (b : Nat) (t : Hd) : Prop := okL b (eHd t)
def zHd (t : Hd) : Nat := mL (eHd t)
def okCmp (b : Nat) (t : Cmp) : Prop := okL b (eCmp t)
def zCmp (t : Cmp) : Nat := mL (eCmp t)
/-- A query: its comprehensions. -/
def eQr (l : List Cmp) : List IV := [slI eCmp l]
instance : Wid eQr 1 := ⟨fun _ => rfl⟩
def okQr (b : Nat) (t : List Cmp) : Prop := okL b (eQr t)
def zQr (t : List Cmp) : Nat := mL (eQr t)
theorem Hd.ext {t u : Hd} (h1 : t.kind = u.kind) (h2 : t.term = u.term) (h3 : t.labels = u.labels) (h4 : t.parts = u.parts) (h5 : t.query = u.query) : t = u := by
  cases t; cases u; simp_all [Hd.kind, Hd.term, Hd.labels, Hd.parts, Hd.query]
theorem Cmp.ext {t u : Cmp} (h1 : t.gens = u.gens) (h2 : t.wh = u.wh) (h3 : t.head = u.head) : t = u := by
  cases t; cases u; simp_all [Cmp.gens, Cmp.wh, Cmp.head]
noncomputable instance : DecidableEq Hd := fun a b => Classical.propDecidable _
noncomputable instance : DecidableEq Cmp := fun a b => Classical.propDecidable _
theorem Hd.memP {t u : Hd} (h : u ∈ t.parts) : SizeOf.sizeOf u < SizeOf.sizeOf t := by
  cases t with
  | mk k t l p q => have := List.sizeOf_lt_of_mem h; simp only [Hd.mk.sizeOf_spec, Hd.parts] at *; omega
theorem Hd.memQ {t : Hd} {c : Cmp} (h : c ∈ t.query) : SizeOf.sizeOf c < SizeOf.sizeOf t := by
  cases t with
  | mk k t l p q => have := List.sizeOf_lt_of_mem h; simp only [Hd.mk.sizeOf_spec, Hd.query] at *; omega
theorem Cmp.memH (c : Cmp) : SizeOf.sizeOf c.head < SizeOf.sizeOf c := by
  cases c with
  | mk g w h => simp only [Cmp.mk.sizeOf_spec, Cmp.head]; omega
end Go.VC
/- Flat data, as trees: no statement of a program. -/
namespace Go.VC
open Go
/-- A flat comprehension. -/
structure FC where
  outer : Int
  outerGens : Int
  tag : Int
  gens : List Gn
  wh : Tm
  cols : List Tm
def eFC (a : FC) : List IV := [.sc (.int .i64 a.outer), .sc (.int .i64 a.outerGens), .sc (.int .i64 a.tag), slI eGn a.gens] ++ (eTm a.wh ++ ([slI eTm a.cols]))
theorem eFC_eta (a : FC) : eFC a = [.sc (.int .i64 a.outer), .sc (.int .i64 a.outerGens), .sc (.int .i64 a.tag), slI eGn a.gens, .sc (.int .i64 a.wh.kind), .sc (.string a.wh.name), .sc (.int .i64 a.wh.n), .sc (.int .i64 a.wh.ty.kind), slI eS a.wh.ty.labels, slI eTy a.wh.ty.args, slI eS a.wh.labels, slI eTm a.wh.args, slI eTm a.cols] := by rw [eFC, eTm_eta]; rfl
instance : Wid eFC 13 := ⟨fun t => by rw [eFC_eta]; rfl⟩
def okFC (b : Nat) (t : FC) : Prop := okL b (eFC t)
def zFC (t : FC) : Nat := mL (eFC t)
theorem FC.ext {t u : FC} (h0 : t.outer = u.outer) (h1 : t.outerGens = u.outerGens) (h2 : t.tag = u.tag) (h3 : t.gens = u.gens) (h4 : t.wh = u.wh) (h5 : t.cols = u.cols) : t = u := by cases t; cases u; simp_all
noncomputable instance : DecidableEq FC := fun a b => Classical.propDecidable _
/-- A flat query. -/
structure FQ where
  path : List ByteArray
  comps : List FC
def eFQ (a : FQ) : List IV := [slI eS a.path, slI eFC a.comps]
theorem eFQ_eta (a : FQ) : eFQ a = [slI eS a.path, slI eFC a.comps] := by rfl
instance : Wid eFQ 2 := ⟨fun t => by rw [eFQ_eta]; rfl⟩
def okFQ (b : Nat) (t : FQ) : Prop := okL b (eFQ t)
def zFQ (t : FQ) : Nat := mL (eFQ t)
theorem FQ.ext {t u : FQ} (h0 : t.path = u.path) (h1 : t.comps = u.comps) : t = u := by cases t; cases u; simp_all
noncomputable instance : DecidableEq FQ := fun a b => Classical.propDecidable _
end Go.VC
/- Marks: every scalar that a row leads to, numbered in order: no statement of a program. -/
namespace Go.VC
open Go
section
variable (mT : Int → ByteArray)
mutual
def cnI : IV → Nat
  | .sc (.int _ _) => 1
  | .sc (.string _) => 1
  | .sl _ cs => cnL cs
  | _ => 0
def cnL : List IV → Nat
  | [] => 0
  | x :: r => cnI x + cnL r
end
mutual
def mkI (k : Int) : IV → IV
  | .sc (.int i _) => .sc (.int i k)
  | .sc (.string _) => .sc (.string (mT k))
  | .sl n cs => .sl n (mkL k cs)
  | x => x
def mkL (k : Int) : List IV → List IV
  | [] => []
  | x :: r => mkI k x :: mkL (k + cnI x) r
end
theorem cnL_append : ∀ {a b : List IV}, cnL (a ++ b) = cnL a + cnL b
  | [], b => by simp [cnL]
  | x :: r, b => by simp only [List.cons_append, cnL, cnL_append (a := r), Nat.add_assoc]
theorem mkL_append : ∀ {k : Int} {a b : List IV}, mkL mT k (a ++ b) = mkL mT k a ++ mkL mT (k + cnL a) b
  | k, [], b => by simp [mkL, cnL]
  | k, x :: r, b => by
    simp only [List.cons_append, mkL, cnL, mkL_append (a := r)]
    rw [show k + ((cnI x + cnL r : Nat) : Int) = k + (cnI x : Int) + (cnL r : Int) by omega]
theorem mkL_len : ∀ {k : Int} {a : List IV}, (mkL mT k a).length = a.length
  | _, [] => rfl
  | k, x :: r => by simp only [mkL, List.length_cons, mkL_len (a := r)]
variable {α : Type} {E : α → List IV} {z : Nat}
/-- The row at element i's turn. -/
def mkA (E : α → List IV) (k : Int) (xs : List α) (i : Nat) : List IV := mkL mT k ((xs.take i).flatMap E)
/-- How many marks there are before element i. -/
def cnT (E : α → List IV) (xs : List α) (i : Nat) : Nat := cnL ((xs.take i).flatMap E)
theorem mkA_len [Wid E z] {k : Int} {xs : List α} {i : Nat} (h : i ≤ xs.length) : (mkA mT E k xs i).length = i * z := by
  rw [mkA, mkL_len, flat_len', List.length_take, Nat.min_eq_left h]
theorem mkA_zero {k : Int} {xs : List α} : mkA mT E k xs 0 = [] := by simp [mkA, mkL]
theorem cnT_zero {xs : List α} : cnT E xs 0 = 0 := by simp [cnT, cnL]
theorem cnT_succ {xs : List α} {i : Nat} (h : i < xs.length) : cnT E xs (i + 1) = cnT E xs i + cnL (E xs[i]) := by
  rw [cnT, take_at h, List.flatMap_append, cnL_append, flat_one, cnT]
theorem mkA_succ {k : Int} {xs : List α} {i : Nat} (h : i < xs.length) : mkA mT E k xs (i + 1) = mkA mT E k xs i ++ mkL mT (k + cnT E xs i) (E xs[i]) := by
  rw [mkA, take_at h, List.flatMap_append, mkL_append, flat_one, mkA, cnT]
theorem mkA_all {k : Int} {xs : List α} {i : Nat} (h : xs.length ≤ i) : mkA mT E k xs i = mkL mT k (xs.flatMap E) := by rw [mkA, List.take_of_length_le h]
theorem cnT_all {xs : List α} {i : Nat} (h : xs.length ≤ i) : cnT E xs i = cnL (xs.flatMap E) := by rw [cnT, List.take_of_length_le h]
theorem cnT_le {xs : List α} {i : Nat} : cnT E xs i ≤ cnL (xs.flatMap E) := by
  have : xs.flatMap E = (xs.take i).flatMap E ++ (xs.drop i).flatMap E := by rw [← List.flatMap_append, List.take_append_drop]
  rw [this, cnL_append]; unfold cnT; omega
theorem drop_flat {xs : List α} {i : Nat} (h : i < xs.length) : (xs.drop i).flatMap E = E xs[i] ++ (xs.drop (i + 1)).flatMap E := by rw [drop_at h, List.flatMap_cons]
theorem drop_all {xs : List α} {i : Nat} (h : xs.length ≤ i) : (xs.drop i).flatMap E = [] := by rw [List.drop_of_length_le h]; rfl
/-- What is left to mark, read from element i on. -/
theorem mk_drop [w : Wid E z] {k : Int} {xs : List α} {i : Nat} (h : i < xs.length) : (mkL mT k (xs.flatMap E)).drop (i * z) = mkL mT (k + cnT E xs i) (E xs[i]) ++ mkL mT (k + cnT E xs (i + 1)) ((xs.drop (i + 1)).flatMap E) := by
  have e : xs.flatMap E = (xs.take i).flatMap E ++ (E xs[i] ++ (xs.drop (i + 1)).flatMap E) := by
    rw [← drop_flat h, ← List.flatMap_append, List.take_append_drop]
  have hl : (mkL mT k ((xs.take i).flatMap E)).length = i * z := mkA_len mT (Nat.le_of_lt h)
  conv => lhs; rw [e, mkL_append]
  rw [List.drop_left' hl, mkL_append, cnT_succ h, cnT]
  congr 2
  omega
theorem pt_mk [w : Wid E z] {k : Int} {xs : List α} {i : Nat} (h : i < xs.length) : IV.pt ((mkL mT k (xs.flatMap E)).drop (i * z)) = .pt (mkL mT (k + cnT E xs i) (E xs[i]) ++ mkL mT (k + cnT E xs (i + 1)) ((xs.drop (i + 1)).flatMap E)) := by rw [mk_drop mT h]
theorem pt_mk1 [w : Wid E 1] {k : Int} {xs : List α} {i : Nat} (h : i < xs.length) : IV.pt ((mkL mT k (xs.flatMap E)).drop i) = .pt (mkL mT (k + cnT E xs i) (E xs[i]) ++ mkL mT (k + cnT E xs (i + 1)) ((xs.drop (i + 1)).flatMap E)) := by
  have := pt_mk mT (E := E) (z := 1) (k := k) h
  rwa [Nat.mul_one] at this
end
section
variable (mT : Int → ByteArray)
theorem mkL_i {k a : Int} {i : IntKind} {r : List IV} : mkL mT k (.sc (.int i a) :: r) = .sc (.int i k) :: mkL mT (k + 1) r := by rw [mkL, mkI, cnI]; rfl
theorem mkL_s {k : Int} {s : ByteArray} {r : List IV} : mkL mT k (.sc (.string s) :: r) = .sc (.string (mT k)) :: mkL mT (k + 1) r := by rw [mkL, mkI, cnI]; rfl
theorem mkL_l {k : Int} {n : Nat} {cs r : List IV} : mkL mT k (.sl n cs :: r) = .sl n (mkL mT k cs) :: mkL mT (k + (cnL cs : Int)) r := by rw [mkL, mkI, cnI]
theorem mkL_n {k : Int} : mkL mT k [] = [] := by rw [mkL]
end
theorem cnL_i {a : Int} {i : IntKind} {r : List IV} : cnL (.sc (.int i a) :: r) = cnL r + 1 := by rw [cnL, cnI]; omega
theorem cnL_s {s : ByteArray} {r : List IV} : cnL (.sc (.string s) :: r) = cnL r + 1 := by rw [cnL, cnI]; omega
theorem cnL_l {n : Nat} {cs r : List IV} : cnL (.sl n cs :: r) = cnL cs + cnL r := by rw [cnL, cnI]
theorem cnL_n : cnL [] = 0 := by rw [cnL]
/-- Each element bears at least one mark. -/
class Cn1 {α : Type} (E : α → List IV) : Prop where
  one : ∀ a, 1 ≤ cnL (E a)
instance : Cn1 eS := ⟨fun _ => by simp only [eS, cnL_s, cnL_n]; omega⟩
instance : Cn1 eI := ⟨fun _ => by simp only [eI, cnL_i, cnL_n]; omega⟩
instance : Cn1 eTy := ⟨fun _ => by rw [eTy_eta]; simp only [cnL_i]; omega⟩
instance : Cn1 eVal := ⟨fun _ => by rw [eVal_eta]; simp only [cnL_i]; omega⟩
instance : Cn1 eTm := ⟨fun _ => by rw [eTm_eta]; simp only [cnL_i]; omega⟩
instance : Cn1 ePl := ⟨fun _ => by rw [ePl_eta]; simp only [cnL_i]; omega⟩
instance : Cn1 eMono := ⟨fun _ => by rw [eMono_eta]; simp only [cnL_i]; omega⟩
instance : Cn1 eAnn := ⟨fun _ => by rw [eAnn_eta]; simp only [cnL_i]; omega⟩
instance : Cn1 eDecl := ⟨fun _ => by rw [eDecl_eta]; simp only [cnL_s]; omega⟩
instance : Cn1 eTData := ⟨fun _ => by rw [eTData_eta]; simp only [cnL_s]; omega⟩
instance : Cn1 eGn := ⟨fun _ => by rw [eGn_eta]; simp only [cnL_s]; omega⟩
instance : Cn1 eKd := ⟨fun _ => by rw [eKd_eta]; simp only [cnL_s]; omega⟩
instance : Cn1 eHd := ⟨fun _ => by rw [eHd_eta]; simp only [cnL_i]; omega⟩
instance : Cn1 eCmp := ⟨fun _ => by rw [eCmp_eta]; simp only [slI, cnL_l, cnL_i]; omega⟩
instance : Cn1 eFC := ⟨fun _ => by rw [eFC_eta]; simp only [cnL_i]; omega⟩
theorem cnL_len {α : Type} {E : α → List IV} [c : Cn1 E] : ∀ {xs : List α}, xs.length ≤ cnL (xs.flatMap E)
  | [] => by simp
  | x :: r => by
    have h1 := c.one x
    have h2 := cnL_len (E := E) (xs := r)
    rw [List.flatMap_cons, cnL_append, List.length_cons]; omega
theorem Ty.lt_args (t : Ty) : SizeOf.sizeOf t.args < SizeOf.sizeOf t := by cases t; simp only [Ty.mk.sizeOf_spec, Ty.args]; omega
theorem Val.lt_args (t : Val) : SizeOf.sizeOf t.args < SizeOf.sizeOf t := by cases t; simp only [Val.mk.sizeOf_spec, Val.args]; omega
theorem Tm.lt_args (t : Tm) : SizeOf.sizeOf t.args < SizeOf.sizeOf t := by cases t; simp only [Tm.mk.sizeOf_spec, Tm.args]; omega
theorem Pl.lt_args (t : Pl) : SizeOf.sizeOf t.args < SizeOf.sizeOf t := by cases t; simp only [Pl.mk.sizeOf_spec, Pl.args]; omega
theorem Hd.lt_parts (t : Hd) : SizeOf.sizeOf t.parts < SizeOf.sizeOf t := by cases t; simp only [Hd.mk.sizeOf_spec, Hd.parts]; omega
theorem Hd.lt_query (t : Hd) : SizeOf.sizeOf t.query < SizeOf.sizeOf t := by cases t; simp only [Hd.mk.sizeOf_spec, Hd.query]; omega
theorem Cmp.lt_parts (t : Cmp) : SizeOf.sizeOf t.head.parts < SizeOf.sizeOf t := by have := Cmp.memH t; have := Hd.lt_parts t.head; omega
theorem Cmp.lt_query (t : Cmp) : SizeOf.sizeOf t.head.query < SizeOf.sizeOf t := by have := Cmp.memH t; have := Hd.lt_query t.head; omega
/-! The cells of a row, from an element on. -/
theorem ivl {A B : List IV} : (A ++ B).length = A.length + B.length := List.length_append
theorem iv0 {a v : IV} {l : List IV} : (a :: l).set 0 v = v :: l := rfl
theorem ivs {a v : IV} {l : List IV} {n : Nat} : (a :: l).set (n + 1) v = a :: l.set n v := rfl
theorem mid_set {A : List IV} {m : Nat} (c : Nat) (h : A.length = m) (D : List IV) (v : IV) : (A ++ D).set (m + c) v = A ++ D.set c v := by
  subst h
  rw [List.set_append_right _ _ (by omega), Nat.add_sub_cancel_left]
theorem mid_set0 {A : List IV} {m : Nat} (h : A.length = m) (D : List IV) (v : IV) : (A ++ D).set m v = A ++ D.set 0 v := mid_set 0 h D v
theorem mid_get {A : List IV} {m : Nat} (c : Nat) (h : A.length = m) (D : List IV) : (A ++ D)[m + c]? = D[c]? := by
  subst h
  rw [List.getElem?_append_right (by omega), Nat.add_sub_cancel_left]
end Go.VC
/- Functions on texts and numbers: what each returns. -/
namespace Go.VC.T
open Go Go.VC Go.Proofs Go.VC.F
def fc45A1 := (ai (ai (ai (ai sz3 ag3) (ai zv3 un3)) (ai (ai sz4 ag4) (ai zv4 (ai un4 sz9)))) (ai (ai (ai ag9 zv9) (ai un9 (ai sz25 ag25))) (ai (ai zv25 sb25) (ai un25 (ai el25 ap25)))))
theorem eqStringS_ok (xs ys : List ByteArray) (hx : xs.length ≤ 2^48) : FnS Tryz.prog 45 [] [slT eS xs, slT eS ys] [] (bT (decide (xs = ys))) := by
  refine FnS.go [0, 1, 4, 5, 10, 14, 25] [] Tryz.func45 rfl (fun kt kz => ?_)
  have fcx := fc45A1
  simp only [Tryz.f45]
  refine Run (cast_succ) ?_; with_reducible repeat' (first | exact True.intro | refine Lf.mk ?_ ?_ | intro hb)
  · have : xs ≠ ys := fun h => hb (by rw [h])
    simp [this]
  · have hl : xs.length = ys.length := by omega
    refine Trn (α := Nat) [4, 5, 11, 12, 13, 14, 15, 16, 17, 18, 19, 20, 21, 22, 23, 24, 25] (fun i => [(5, iT i)]) (fun i => []) (fun i => i ≤ xs.length ∧ xs.take i = ys.take i) (fun i => xs.length - i) (0) (⟨Nat.zero_le _, rfl⟩) (cast_succ) ?_; intro lx hI; obtain i := lx; (try simp only [List.nil_append, List.cons_append] at hI ⊢)
    refine Run (@eS.eq_1) ?_; with_reducible repeat' (first | exact True.intro | refine Lf.mk ?_ ?_ | intro hb)
    · have : xs ≠ ys := fun h => hb (by subst h; rfl)
      simp [this]
    · exact Nxt (cast_succ) (lx + 1) (⟨by omega, take_eq_at hI.2 (by omega) (by omega) hb⟩) (by first | omega | (simp; omega))
    · have : xs = ys := by
        have h := hI.2
        rw [List.take_of_length_le (by omega), List.take_of_length_le (by omega)] at h; exact h
      simp [this]
def fc33A1 := (ai (ai (ai (ai sz3 ag3) (ai zv3 un3)) (ai (ai sz4 ag4) (ai zv4 (ai un4 sz9)))) (ai (ai (ai ag9 zv9) (ai un9 (ai sz25 ag25))) (ai (ai zv25 sb25) (ai un25 (ai el25 ap25)))))
theorem toStringS_ow (xs : List ByteArray) (hx : xs.length ≤ 2^40) : FnS Tryz.prog 33 [] [slT eS xs] [(14, .vec 9 1 xs.length (xs.flatMap eS) true)] (.c (.os 14 xs.length)) := by
  refine FnS.go [0, 2, 3, 4, 11] [] Tryz.func33 rfl (fun kt kz => ?_)
  have fcx := fc33A1
  simp only [Tryz.f33]
  refine Run (cast_succ) ?_; with_reducible repeat' (first | exact True.intro | refine Lf.mk ?_ ?_ | intro hb)
  refine Trn (α := Nat) [4, 8, 9, 10, 11, 12, 13, 14, 15, 16, 17, 18, 19, 20] (fun i => [(4, iT i), (3, .c (.os 14 xs.length))]) (fun i => [(14, .vec 9 1 xs.length (filled eS [.sc (.string ⟨#[]⟩)] xs i) true)]) (fun i => i ≤ xs.length) (fun i => xs.length - i) (0) (Nat.zero_le _) (cast_succ) ?_; intro lx hI; obtain i := lx; (try simp only [List.nil_append, List.cons_append] at hI ⊢)
  refine Run (@eS.eq_1) ?_; with_reducible repeat' (first | exact True.intro | refine Lf.mk ?_ ?_ | intro hb)
  · exact Nxt (cast_succ) (lx + 1) (by omega) (by first | omega | (simp; omega))

theorem toStringS_o (xs : List ByteArray) (hx : okLs (2^20) okS xs) (q : Nat) : FnS Tryz.prog 33 [] [slT eS xs] [(q, .row xs.length (xs.flatMap eS))] (.c (.os q xs.length)) := by
  obtain ⟨p, hp⟩ := pm1 14 q
  refine ((toStringS_ow xs (by have := hx.1; omega)).rows.pm p).as ?_ ?_ <;> simp [rowS, rowO, renS, Ob.ren, TV.ren, Cell.ren, hp]
end Go.VC.T
/- Data: how they are measured, copied and compared. -/
namespace Go.VC.T
open Go Go.VC Go.Proofs Go.VC.F
def fc22A2 := (ai (ai (ai (ai sz3 ag3) (ai zv3 un3)) (ai (ai sz4 ag4) (ai zv4 (ai un4 sz9)))) (ai (ai (ai ag9 zv9) (ai un9 (ai sz25 ag25))) (ai (ai zv25 sb25) (ai un25 (ai el25 ap25)))))
theorem szStringS_ok (xs : List ByteArray) (hx : okLs (2^48) okS xs) (left : Int) (hl : 0 ≤ left ∧ left ≤ 2^20) : FnS Tryz.prog 22 [] [slT eS xs, iT left] [] (iT (szR (zSL xs) left)) := by
  refine FnS.go [0, 1, 4, 5, 11, 15, 26] [] Tryz.func22 rfl (fun kt kz => ?_)
  have fcx := fc22A2
  simp only [Tryz.f22]
  have hx1 := hx.1
  refine Run (cast_succ) ?_; with_reducible repeat' (first | exact True.intro | refine Lf.mk ?_ ?_ | intro hb)
  · simp only [zSL, szR_nil hb zL_len]
  · rw [szR_sub hb]
    have hb2 := szR_sub hb ▸ hb
    refine Trn (α := Nat) [1, 4, 5, 12, 13, 14, 15, 16, 17, 18, 19, 20, 21, 22, 23, 24, 25, 26] (fun i => [(5, iT i), (1, iT (szR (zT zS xs i) left))]) (fun i => []) (fun i => i ≤ xs.length ∧ 0 ≤ szR (zT zS xs i) left) (fun i => xs.length - i) (0) (⟨Nat.zero_le _, by rw [zT_zero]; exact hb2⟩) (@zT_zero) ?_; intro lx hI; obtain i := lx; (try simp only [List.nil_append, List.cons_append] at hI ⊢)
    have hz := szR_le (n := zT zS xs lx) hl.1
    by_cases hlt : lx < xs.length
    · have hx2 : zS xs[lx] ≤ 2^48 := okLs_at hx hlt
      have hx3 : xs[lx].size = zS xs[lx] := rfl
      refine Run ((ai @eS.eq_1 @hx3)) ?_; with_reducible repeat' (first | exact True.intro | refine Lf.mk ?_ ?_ | intro hb)
      · rw [szR_neg (n := zT zS xs (lx + 1)) (by rw [zT_succ hlt, ← szR_add]; unfold szR at *; split <;> omega) zT_le]
      · have e : szR (zT zS xs lx) left - (zS xs[lx] : Int) = szR (zT zS xs (lx + 1)) left := by rw [szR_sub hb, szR_add, ← zT_succ hlt]
        rw [e] at hb
        exact Nxt (@e) (lx + 1) (⟨by omega, hb⟩) (by first | omega | (simp; omega))
      · omega
    · refine Run (cast_succ) ?_; with_reducible repeat' (first | exact True.intro | refine Lf.mk ?_ ?_ | intro hb)
      · omega
      · rw [zT_all (by omega)]
theorem eqStringS_rf (xs : List ByteArray) (h : okLs (2^20) okS xs) : FnP Tryz.prog 45 [slT eS xs, slT eS xs] (bT true) := by
  have := eqStringS_ok xs xs (by have := h.1; omega)
  simpa using this

end Go.VC.T
/- Equality of lists of texts. -/
namespace Go.VC.T
open Go Go.VC Go.Proofs Go.VC.F
def fc91A5 := (ai (ai (ai (ai sz3 ag3) (ai zv3 un3)) (ai (ai sz4 ag4) (ai zv4 (ai un4 sz9)))) (ai (ai (ai ag9 zv9) (ai un9 (ai sz25 ag25))) (ai (ai zv25 sb25) (ai un25 (ai el25 ap25)))))
theorem l3Texts_ok (xs ys : List ByteArray) (hx : xs.length ≤ 2^20) (hy : ys.length ≤ 2^20) : FnS Tryz.prog 91 [] [slT eS xs, slT eS ys] [] (bT (decide (xs = ys))) := by
  refine FnS.go [0, 1, 4, 5, 10, 14, 25] [] Tryz.func91 rfl (fun kt kz => ?_)
  have fcx := fc91A5
  simp only [Tryz.f91]
  refine Run (cast_succ) ?_; with_reducible repeat' (first | exact True.intro | refine Lf.mk ?_ ?_ | intro hb)
  · simp only [decide_eq_false (ne_len hb)]
  · have hl : xs.length = ys.length := by omega
    refine Trn (α := Nat) [4, 5, 11, 12, 13, 14, 15, 16, 17, 18, 19, 20, 21, 22, 23, 24, 25] (fun i => [(5, iT i)]) (fun i => []) (fun i => i ≤ xs.length ∧ xs.take i = ys.take i) (fun i => xs.length - i) (0) (⟨Nat.zero_le _, rfl⟩) (cast_succ) ?_; intro lx hI; obtain i := lx; (try simp only [List.nil_append, List.cons_append] at hI ⊢)
    by_cases hlt : lx < xs.length
    · have hlt2 : lx < ys.length := by omega
      refine Run (@eS.eq_1) ?_; with_reducible repeat' (first | exact True.intro | refine Lf.mk ?_ ?_ | intro hb)
      · simp only [decide_eq_false (ne_at hlt hlt2 hb)]
      · exact Nxt (cast_succ) (lx + 1) (⟨by omega, take_eq_at hI.2 hlt hlt2 hb⟩) (by first | omega | (simp; omega))
      all_goals omega
    · refine Run (cast_succ) ?_; with_reducible repeat' (first | exact True.intro | refine Lf.mk ?_ ?_ | intro hb)
      · omega
      · simp only [decide_eq_true (take_all hI.2 hl (by omega))]
def fc135A5 := (ai (ai (ai (ai sz3 ag3) (ai zv3 un3)) (ai (ai sz4 ag4) (ai zv4 (ai un4 sz9)))) (ai (ai (ai ag9 zv9) (ai un9 (ai sz25 ag25))) (ai (ai zv25 sb25) (ai un25 (ai el25 ap25)))))
theorem slEqS_ok (xs ys : List ByteArray) (hx : xs.length ≤ 2^20) (hy : ys.length ≤ 2^20) : FnS Tryz.prog 135 [] [slT eS xs, slT eS ys] [] (bT (decide (xs = ys))) := by
  refine FnS.go [0, 1, 4, 5, 10, 12, 13, 14, 24] [] Tryz.func135 rfl (fun kt kz => ?_)
  have fcx := fc135A5
  simp only [Tryz.f135]
  refine Run (cast_succ) ?_; with_reducible repeat' (first | exact True.intro | refine Lf.mk ?_ ?_ | intro hb)
  · simp only [decide_eq_false (ne_len hb)]
  · have hl : xs.length = ys.length := by omega
    refine Trn (α := Nat) [4, 5, 13, 14, 15, 16, 17, 18, 19, 20, 21, 22, 23, 24, 25] (fun i => [(13, iT i)]) (fun i => []) (fun i => i ≤ xs.length ∧ xs.take i = ys.take i) (fun i => xs.length - i) (0) (⟨Nat.zero_le _, rfl⟩) (cast_succ) ?_; intro lx hI; obtain i := lx; (try simp only [List.nil_append, List.cons_append] at hI ⊢)
    by_cases hlt : lx < xs.length
    · have hlt2 : lx < ys.length := by omega
      refine Run (@eS.eq_1) ?_; with_reducible repeat' (first | exact True.intro | refine Lf.mk ?_ ?_ | intro hb)
      · simp only [decide_eq_false (ne_at hlt hlt2 hb)]
      · exact Nxt (cast_succ) (lx + 1) (⟨by omega, take_eq_at hI.2 hlt hlt2 hb⟩) (by first | omega | (simp; omega))
      all_goals omega
    · refine Run (cast_succ) ?_; with_reducible repeat' (first | exact True.intro | refine Lf.mk ?_ ?_ | intro hb)
      · omega
      · simp only [decide_eq_true (take_all hI.2 hl (by omega))]

end Go.VC.T
/- Equality: types, terms. -/
namespace Go.VC.T
open Go Go.VC Go.Proofs Go.VC.F
def fc136A6 := (ai (ai (ai (ai sz3 (ai ag3 zv3)) (ai un3 (ai sz4 ag4))) (ai (ai zv4 (ai un4 sz41)) (ai (ai ag41 zv41) (ai sb41 un41)))) (ai (ai (ai el41 (ai ap41 sz43)) (ai ag43 (ai zv43 fl43_0))) (ai (ai fl43_1 (ai fl43_2 pl43)) (ai (ai sz55 ag55) (ai zv55 sz25)))))
theorem slEqTy_ok (g : Nat) (hg : fnOk Tryz.prog g = true) (xs ys : List Ty) (hx : xs.length ≤ 2^20) (hy : ys.length ≤ 2^20) (H : ∀ x ∈ xs, ∀ y ∈ ys, FnP Tryz.prog g [agT (eTy x), agT (eTy y)] (bT (decide (x = y)))) : FnS Tryz.prog 136 [] [slT eTy xs, slT eTy ys, .c (.im (.fn g []))] [] (bT (decide (xs = ys))) := by
  refine FnS.go [0, 1, 2, 6, 7, 8, 9, 14, 15, 16, 17, 18, 30] [] Tryz.func136 rfl (fun kt kz => ?_)
  have fcx := fc136A6
  simp only [Tryz.f136]
  refine Run (cast_succ) ?_; with_reducible repeat' (first | exact True.intro | refine Lf.mk ?_ ?_ | intro hb)
  · simp only [decide_eq_false (ne_len hb)]
  · have hl : xs.length = ys.length := by omega
    refine Trn (α := Nat) [6, 7, 8, 9, 17, 18, 19, 20, 21, 22, 23, 24, 25, 26, 27, 28, 29, 30, 31] (fun i => [(17, iT i)]) (fun i => []) (fun i => i ≤ xs.length ∧ xs.take i = ys.take i) (fun i => xs.length - i) (0) (⟨Nat.zero_le _, rfl⟩) (cast_succ) ?_; intro lx hI; obtain i := lx; (try simp only [List.nil_append, List.cons_append] at hI ⊢)
    by_cases hlt : lx < xs.length
    · have hlt2 : lx < ys.length := by omega
      refine Run ((ai @eTy_eta @hg)) ?_; with_reducible repeat' (first | exact True.intro | refine Lf.mk ?_ ?_ | intro hb)
      · refine Cal (@eTy_eta) (H _ (List.getElem_mem hlt) _ (List.getElem_mem hlt2)) ?_
        refine Run (cast_succ) ?_; with_reducible repeat' (first | exact True.intro | refine Lf.mk ?_ ?_ | intro hb)
        · simp only [decide_eq_false (ne_at hlt hlt2 hb)]
        · exact Nxt (cast_succ) (lx + 1) (⟨by omega, take_eq_at hI.2 hlt hlt2 hb⟩) (by first | omega | (simp; omega))
      all_goals omega
    · refine Run (cast_succ) ?_; with_reducible repeat' (first | exact True.intro | refine Lf.mk ?_ ?_ | intro hb)
      · omega
      · simp only [decide_eq_true (take_all hI.2 hl (by omega))]
def fc131A6 := (ai (ai (ai (ai (ai sz3 ag3) (ai zv3 un3)) (ai (ai sz4 ag4) (ai zv4 un4))) (ai (ai (ai sz25 ag25) (ai zv25 sb25)) (ai (ai un25 el25) (ai ap25 (ai sz41 ag41))))) (ai (ai (ai (ai zv41 sb41) (ai un41 el41)) (ai (ai ap41 sz43) (ai ag43 (ai zv43 fl43_0)))) (ai (ai (ai fl43_1 fl43_2) (ai pl43 sz55)) (ai (ai ag55 zv55) (ai okf131 (ai okf135 okf136))))))
theorem implEqTy_of (t u : Ty) (ht : okTy (2^20) t) (hu : okTy (2^20) u) (H : FnP Tryz.prog 136 [slT eTy t.args, slT eTy u.args, .c (.im (.fn 131 []))] (bT (decide (t.args = u.args)))) : FnS Tryz.prog 131 [] [agT (eTy t), agT (eTy u)] [] (bT (decide (t = u))) := by
  refine FnS.go [0, 1, 2, 3, 4] [] Tryz.func131 rfl (fun kt kz => ?_)
  have fcx := fc131A6
  simp only [Tryz.f131]
  have ho := okTy_iff.1 ht
  have hp := okTy_iff.1 hu
  refine Run (@eTy_eta) ?_; with_reducible repeat' (first | exact True.intro | refine Lf.mk ?_ ?_ | intro hb)
  · refine Cal (@eTy_eta) (slEqS_ok _ _ ho.2.1.1 hp.2.1.1) ?_
    refine Run (@eTy_eta) ?_; with_reducible repeat' (first | exact True.intro | refine Lf.mk ?_ ?_ | intro hb)
    · refine Cal (@eTy_eta) (H) ?_
      refine Run (@eTy_eta) ?_; with_reducible repeat' (first | exact True.intro | refine Lf.mk ?_ ?_ | intro hb)
      have e : decide (t.args = u.args) = decide (t = u) := decide_eq_decide.2 ⟨fun h => Ty.ext (by first | assumption | exact h) (by first | assumption | exact h) (by first | assumption | exact h), fun h => by rw [h]⟩
      rw [e]
    · simp only [decide_eq_false (show ¬ (t = u) from fun h => hb (by subst h; rfl))]
  · simp only [decide_eq_false (show ¬ (t = u) from fun h => hb (by subst h; rfl))]

end Go.VC.T
/- Reading lists. -/
namespace Go.VC
open Go
theorem rdS {P : Program} {t e : TypeId} {m : Nat} {α : Type} {E : α → List IV} {ok : Nat → α → Prop} {z y : Nat} (ht : P.underlying t = some (.slice e)) (hz : P.cellsOf e = z) (hy : P.bytesOf e = y) (h1 : 1 ≤ y)
    (h : ∀ k, k < m → Rd P e k E (ok (2^48))) : Rd P t m (fun xs : List α => [slI E xs]) (okLs (2^48) ok) := by
  cases m with
  | zero => exact .zero
  | succ m =>
    refine (rd_slice ht hz hy (h m (by omega))).map id (fun _ _ => rfl) fun a h => ⟨?_, h.1⟩
    have h2 := h.2.2.2
    have h3 : a.length ≤ a.length * y := Nat.le_mul_of_pos_right _ (by omega)
    simp [reachBytes] at h2
    show a.length ≤ 2 ^ 48
    omega
theorem rdStr {P : Program} {t : TypeId} {m : Nat} (ht : P.underlying t = some .string) : Rd P t m eS (okS (2^48)) :=
  (rd_string ht m).map id (fun _ _ => rfl) fun a h => by simp [reachBytes] at h; show a.size ≤ 2 ^ 48; omega
theorem rdI {P : Program} {t : TypeId} {m : Nat} (ht : P.underlying t = some (.int .i64)) : Rd P t m (fun n : Int => [.sc (.int .i64 n)]) ok64 :=
  (rd_i64 ht m).map id (fun _ _ => rfl) fun _ h => h
end Go.VC
/- Comparing data: no statement of a program. -/
namespace Go.VC
open Go
def numC (a b : Int) : Int := (if b < a then 1 else 0) - (if a < b then 1 else 0)
theorem numC_eq {a b : Int} : numC a b = 0 ↔ a = b := by unfold numC; split <;> split <;> omega
theorem cmpL_eq : ∀ {x y : List ByteArray}, cmpL x y = 0 ↔ x = y
  | [], [] => by simp [cmpL]
  | [], _ :: _ => by simp [cmpL]
  | _ :: _, [] => by simp [cmpL]
  | a :: x, b :: y => by
    rw [cmpL]
    by_cases h : a = b
    · simp [h, cmpL_eq (x := x) (y := y)]
    · simp [h, cmpS_eq]
/-- The first that is not zero. -/
def orC : List Int → Int
  | [] => 0
  | x :: r => if x = 0 then orC r else x
mutual
def cmpV : Val → Val → Int
  | .mk k n l a, w => orC [numC k w.kind, numC n w.n, numC a.length w.args.length, cmpL l w.labels, cmpVL a w.args]
def cmpVL : List Val → List Val → Int
  | [], _ => 0
  | x :: r, ys => match ys with
    | [] => 0
    | y :: s => if cmpV x y = 0 then cmpVL r s else cmpV x y
end
theorem cmpV_eta (v w : Val) : cmpV v w = orC [numC v.kind w.kind, numC v.n w.n, numC v.args.length w.args.length, cmpL v.labels w.labels, cmpVL v.args w.args] := by
  cases v with
  | mk k n l a => rw [cmpV]; rfl
mutual
theorem cmpV_eq : ∀ {v w : Val}, cmpV v w = 0 ↔ v = w
  | .mk k n l a, w => by
    rw [cmpV_eta]
    simp only [orC]
    constructor
    · intro h
      split at h
      · rename_i h1
        split at h
        · rename_i h2
          split at h
          · rename_i h3
            split at h
            · rename_i h4
              split at h
              · rename_i h5
                have h3' : a.length = w.args.length := by have := numC_eq.1 h3; exact Int.ofNat.inj this
                exact Val.ext (numC_eq.1 h1) (numC_eq.1 h2) (cmpL_eq.1 h4) ((cmpVL_eq (xs := a) h3').1 h5)
              · contradiction
            · contradiction
          · contradiction
        · contradiction
      · contradiction
    · rintro rfl
      have h5 := (cmpVL_eq (xs := a) (ys := a) rfl).2 rfl
      simp [numC_eq.2 rfl, cmpL_eq.2 rfl, Val.kind, Val.n, Val.args, Val.labels, h5]
theorem cmpVL_eq : ∀ {xs ys : List Val}, xs.length = ys.length → (cmpVL xs ys = 0 ↔ xs = ys)
  | [], ys, h => by
    cases ys with
    | nil => simp [cmpVL]
    | cons => simp at h
  | x :: r, ys, h => by
    cases ys with
    | nil => simp at h
    | cons y s =>
      have h1 := cmpV_eq (v := x) (w := y)
      have h2 := cmpVL_eq (xs := r) (ys := s) (by simpa using h)
      rw [cmpVL]
      by_cases e : cmpV x y = 0
      · rw [if_pos e, h2, h1.1 e]; simp
      · have : x ≠ y := fun q => e (h1.2 q)
        simp [e, this]
end
end Go.VC
/- Comparisons: what each returns. -/
namespace Go.VC.T
open Go Go.VC Go.Proofs Go.VC.F

end Go.VC.T
/- Lists: whether some element has a property, and the first one that has it: no statement of a program. -/
namespace Go.VC
open Go
theorem any_at {α : Type} {p : α → Bool} {l : List α} {i : Nat} (h : i < l.length) (hp : p l[i] = true) : l.any p = true := List.any_eq_true.2 ⟨_, List.getElem_mem h, hp⟩
theorem any_take {α : Type} {p : α → Bool} {l : List α} {i : Nat} (h : i < l.length) (ht : (l.take i).any p = false) (hp : p l[i] = false) : (l.take (i + 1)).any p = false := by
  rw [take_at h, List.any_append, ht]; simp [hp]
theorem any_all {α : Type} {p : α → Bool} {l : List α} {i : Nat} (h : l.length ≤ i) (ht : (l.take i).any p = false) : l.any p = false := by
  rwa [List.take_of_length_le h] at ht
/-- The place of the first element with a property; -1 without. -/
def idxI {α : Type} (p : α → Bool) (l : List α) : Int := if l.any p then (l.findIdx p : Int) else -1
theorem idx_at {α : Type} {p : α → Bool} {l : List α} {i : Nat} (h : i < l.length) (ht : (l.take i).any p = false) (hp : p l[i] = true) : idxI p l = i := by
  rw [idxI, if_pos (any_at h hp)]
  congr 1
  rw [List.findIdx_eq h]
  refine ⟨hp, fun j hj => ?_⟩
  have := List.any_eq_false.1 ht l[j] (by
    rw [List.mem_iff_getElem]
    exact ⟨j, by simp; omega, by simp⟩)
  simpa using this
theorem idx_no {α : Type} {p : α → Bool} {l : List α} (h : l.any p = false) : idxI p l = -1 := by rw [idxI, h]; rfl
theorem idx_ge {α : Type} {p : α → Bool} {l : List α} : decide (0 ≤ idxI p l) = l.any p := by
  unfold idxI
  cases l.any p <;> simp
end Go.VC
/- Searching lists of texts; sorted lists. -/
namespace Go.VC
open Go
def SortedS (l : List ByteArray) : Prop := ∀ k, (h : k + 1 < l.length) → sLt l[k + 1] (l[k]'(by omega)) = false
noncomputable instance (l : List ByteArray) : Decidable (SortedS l) := Classical.propDecidable _
end Go.VC
namespace Go.VC.T
open Go Go.VC Go.Proofs Go.VC.F
def fc27A23 := (ai (ai (ai (ai sz3 ag3) (ai zv3 un3)) (ai (ai sz4 ag4) (ai zv4 (ai un4 sz9)))) (ai (ai (ai ag9 zv9) (ai un9 (ai sz25 ag25))) (ai (ai zv25 sb25) (ai un25 (ai el25 ap25)))))
theorem indexOf_ok (xs : List ByteArray) (s : ByteArray) (hx : xs.length ≤ 2^48) : FnS Tryz.prog 27 [] [slT eS xs, sT s] [] (iT (idxI (fun x => decide (x = s)) xs)) := by
  refine FnS.go [0, 1, 4, 5, 9, 17] [] Tryz.func27 rfl (fun kt kz => ?_)
  have fcx := fc27A23
  simp only [Tryz.f27]
  refine Run (cast_succ) ?_; with_reducible repeat' (first | exact True.intro | refine Lf.mk ?_ ?_ | intro hb)
  refine Trn (α := Nat) [4, 5, 6, 7, 8, 9, 10, 11, 12, 13, 14, 15, 16, 17, 18] (fun i => [(5, iT i)]) (fun i => []) (fun i => i ≤ xs.length ∧ (xs.take i).any (fun x => decide (x = s)) = false) (fun i => xs.length - i) (0) (⟨Nat.zero_le _, rfl⟩) (cast_succ) ?_; intro lx hI; obtain i := lx; (try simp only [List.nil_append, List.cons_append] at hI ⊢)
  by_cases hlt : lx < xs.length
  · refine Run ((ai @hlt @eS.eq_1)) ?_; with_reducible repeat' (first | exact True.intro | refine Lf.mk ?_ ?_ | intro hb)
    · rw [idx_at (p := fun x => decide (x = s)) hlt hI.2 (by simpa using hb)]
    · exact Nxt (cast_succ) (lx + 1) (⟨by omega, any_take hlt hI.2 (by simpa using hb)⟩) (by first | omega | (simp; omega))
  · have ha := any_all (by omega) hI.2
    refine Run (@hlt) ?_; with_reducible repeat' (first | exact True.intro | refine Lf.mk ?_ ?_ | intro hb)
    rw [idx_no ha]
def fc42A23 := (ai (ai (ai (ai sz3 ag3) (ai zv3 un3)) (ai (ai sz4 ag4) (ai zv4 (ai un4 sz9)))) (ai (ai (ai ag9 zv9) (ai un9 (ai sz25 ag25))) (ai (ai zv25 sb25) (ai un25 (ai el25 ap25)))))
theorem slIdxS_ok (xs : List ByteArray) (s : ByteArray) (hx : xs.length ≤ 2^48) : FnS Tryz.prog 42 [] [slT eS xs, sT s] [] (iT (idxI (fun x => decide (x = s)) xs)) := by
  refine FnS.go [0, 1, 4, 5, 7, 8, 9, 16] [] Tryz.func42 rfl (fun kt kz => ?_)
  have fcx := fc42A23
  simp only [Tryz.f42]
  refine Run (cast_succ) ?_; with_reducible repeat' (first | exact True.intro | refine Lf.mk ?_ ?_ | intro hb)
  refine Trn (α := Nat) [4, 5, 8, 9, 10, 11, 12, 13, 14, 15, 16, 17, 18] (fun i => [(8, iT i)]) (fun i => []) (fun i => i ≤ xs.length ∧ (xs.take i).any (fun x => decide (x = s)) = false) (fun i => xs.length - i) (0) (⟨Nat.zero_le _, rfl⟩) (cast_succ) ?_; intro lx hI; obtain i := lx; (try simp only [List.nil_append, List.cons_append] at hI ⊢)
  by_cases hlt : lx < xs.length
  · refine Run ((ai @hlt @eS.eq_1)) ?_; with_reducible repeat' (first | exact True.intro | refine Lf.mk ?_ ?_ | intro hb)
    · rw [idx_at (p := fun x => decide (x = s)) hlt hI.2 (by simpa using hb.symm)]
    · exact Nxt (cast_succ) (lx + 1) (⟨by omega, any_take hlt hI.2 (by simpa using fun h => hb h.symm)⟩) (by first | omega | (simp; omega))
  · have ha := any_all (by omega) hI.2
    refine Run (@hlt) ?_; with_reducible repeat' (first | exact True.intro | refine Lf.mk ?_ ?_ | intro hb)
    rw [idx_no ha]
def fc41A23 := (ai (ai (ai (ai sz3 ag3) (ai zv3 (ai un3 sz4))) (ai (ai ag4 zv4) (ai un4 (ai sz9 ag9)))) (ai (ai (ai zv9 un9) (ai sz25 (ai ag25 zv25))) (ai (ai sb25 un25) (ai el25 (ai ap25 okf42)))))
theorem slHasS_ok (xs : List ByteArray) (s : ByteArray) (hx : xs.length ≤ 2^48) : FnS Tryz.prog 41 [] [slT eS xs, sT s] [] (bT (xs.any (fun x => decide (x = s)))) := by
  refine FnS.go [0, 1, 4] [] Tryz.func41 rfl (fun kt kz => ?_)
  have fcx := fc41A23
  simp only [Tryz.f41]
  refine Run (cast_succ) ?_; with_reducible repeat' (first | exact True.intro | refine Lf.mk ?_ ?_ | intro hb)
  refine Cal (cast_succ) (slIdxS_ok xs s hx) ?_
  refine Run ((idx_ge (p := fun x => decide (x = s)) (l := xs))) ?_; with_reducible repeat' (first | exact True.intro | refine Lf.mk ?_ ?_ | intro hb)
def fc77A23 := (ai (ai (ai (ai sz3 ag3) (ai zv3 (ai un3 sz4))) (ai (ai ag4 (ai zv4 un4)) (ai sz9 (ai ag9 zv9)))) (ai (ai (ai un9 sz25) (ai ag25 (ai zv25 sb25))) (ai (ai un25 (ai el25 ap25)) (ai sz81 (ai ag81 zv81)))))
theorem slIdxFS_ok (g : Nat) (hg : fnOk Tryz.prog g = true) (c : IV) (p : ByteArray → Bool) (xs : List ByteArray) (hx : xs.length ≤ 2^48) (H : ∀ x ∈ xs, FnP Tryz.prog g [sT x, .c (.im c)] (bT (p x))) : FnS Tryz.prog 77 [] [slT eS xs, .c (.im (.fn g [c]))] [] (iT (idxI p xs)) := by
  refine FnS.go [0, 1, 4, 5, 7, 8, 9, 16] [] Tryz.func77 rfl (fun kt kz => ?_)
  have fcx := fc77A23
  simp only [Tryz.f77]
  refine Run (cast_succ) ?_; with_reducible repeat' (first | exact True.intro | refine Lf.mk ?_ ?_ | intro hb)
  refine Trn (α := Nat) [4, 5, 8, 9, 10, 11, 12, 13, 14, 15, 16, 17, 18] (fun i => [(8, iT i)]) (fun i => []) (fun i => i ≤ xs.length ∧ (xs.take i).any p = false) (fun i => xs.length - i) (0) (⟨Nat.zero_le _, rfl⟩) (cast_succ) ?_; intro lx hI; obtain i := lx; (try simp only [List.nil_append, List.cons_append] at hI ⊢)
  by_cases hlt : lx < xs.length
  · refine Run ((ai @hlt (ai @eS.eq_1 @hg))) ?_; with_reducible repeat' (first | exact True.intro | refine Lf.mk ?_ ?_ | intro hb)
    refine Cal (cast_succ) (H _ (List.getElem_mem hlt)) ?_
    refine Run (cast_succ) ?_; with_reducible repeat' (first | exact True.intro | refine Lf.mk ?_ ?_ | intro hb)
    · rw [idx_at hlt hI.2 hb]
    · exact Nxt (cast_succ) (lx + 1) (⟨by omega, any_take hlt hI.2 hb⟩) (by first | omega | (simp; omega))
  · have ha := any_all (by omega) hI.2
    refine Run (@hlt) ?_; with_reducible repeat' (first | exact True.intro | refine Lf.mk ?_ ?_ | intro hb)
    rw [idx_no ha]
def fc39A23 := (ai (ai (ai (ai sz3 ag3) (ai zv3 un3)) (ai (ai sz4 ag4) (ai zv4 (ai un4 sz25)))) (ai (ai (ai ag25 zv25) (ai sb25 (ai un25 el25))) (ai (ai ap25 sz81) (ai ag81 (ai zv81 okf77)))))
theorem slHasFS_ok (g : Nat) (hg : fnOk Tryz.prog g = true) (c : IV) (p : ByteArray → Bool) (xs : List ByteArray) (hx : xs.length ≤ 2^48) (H : ∀ x ∈ xs, FnP Tryz.prog g [sT x, .c (.im c)] (bT (p x))) : FnS Tryz.prog 39 [] [slT eS xs, .c (.im (.fn g [c]))] [] (bT (xs.any p)) := by
  refine FnS.go [0, 1, 4] [] Tryz.func39 rfl (fun kt kz => ?_)
  have fcx := fc39A23
  simp only [Tryz.f39]
  refine Run (cast_succ) ?_; with_reducible repeat' (first | exact True.intro | refine Lf.mk ?_ ?_ | intro hb)
  refine Cal (cast_succ) (slIdxFS_ok g hg c p xs hx H) ?_
  refine Run ((idx_ge (p := p) (l := xs))) ?_; with_reducible repeat' (first | exact True.intro | refine Lf.mk ?_ ?_ | intro hb)

end Go.VC.T
/- Data (Mono): how they are measured, copied and compared. -/
namespace Go.VC.T
open Go Go.VC Go.Proofs Go.VC.F






end Go.VC.T
/- Data (Poly): how they are measured, copied and compared. -/
namespace Go.VC.T
open Go Go.VC Go.Proofs Go.VC.F





end Go.VC.T
/- Marks as texts; rows of texts and numbers that are marked. -/
namespace Go.VC
/-- The digits of a number, ahead of a text. -/
def dgt (k : Nat) (out : ByteArray) : ByteArray := if _h : k = 0 then out else dgt (k / 10) (byStr [((48 + k % 10 : Nat) : Int)] ++ out)
termination_by k
decreasing_by omega
theorem dgt_zero {out : ByteArray} : dgt 0 out = out := by rw [dgt]; simp
theorem dgt_pos {k : Nat} {out : ByteArray} (h : 0 < k) : dgt k out = dgt (k / 10) (byStr [((48 + k % 10 : Nat) : Int)] ++ out) := by
  conv => lhs; rw [dgt]
  rw [dif_neg (by omega)]
def mT (k : Int) : ByteArray := if k ≤ 0 then ⟨#[109, 48]⟩ else ⟨#[109]⟩ ++ dgt k.toNat ⟨#[]⟩
end Go.VC
namespace Go.VC.T
open Go Go.VC Go.Proofs Go.VC.F
theorem dg_wrap (m : Nat) : IntKind.u8.wrap (IntKind.i64.wrap (48 + (m : Int).tmod 10)) = ((48 + m % 10 : Nat) : Int) := by
  have h : (m : Int).tmod 10 = ((m % 10 : Nat) : Int) := by rw [Int.tmod_eq_emod_of_nonneg (by omega)]; omega
  rw [h, wrap64 (by omega)]
  simp [IntKind.wrap, IntKind.signed, IntKind.bits]
  omega
theorem dg_div (m : Nat) : (m : Int).tdiv 10 = ((m / 10 : Nat) : Int) := by
  rw [Int.tdiv_eq_ediv_of_nonneg (by omega)]; omega
def fc80M0 := (ai (ai (ai (ai sz3 ag3) (ai zv3 (ai un3 sz4))) (ai (ai ag4 (ai zv4 un4)) (ai sz5 (ai ag5 zv5)))) (ai (ai (ai un5 (ai sz9 ag9)) (ai zv9 (ai un9 sz120))) (ai (ai ag120 (ai zv120 sb120)) (ai un120 (ai el120 ap120)))))
theorem markText_ok (k : Int) (hk : k ≤ 2^62) : FnS Tryz.prog 80 [] [iT k] [] (sT (mT k)) := by
  refine FnS.go [0, 2, 3, 5, 7] [] Tryz.func80 rfl (fun kt kz => ?_)
  have fcx := fc80M0
  simp only [Tryz.f80]
  refine Run (cast_succ) ?_; with_reducible repeat' (first | exact True.intro | refine Lf.mk ?_ ?_ | intro hb)
  · simp only [mT, if_pos hb]
  refine Trn (α := Nat × ByteArray) [0, 3, 6, 7, 8, 9, 10, 11, 12, 13, 14, 15, 16, 17] (fun ⟨m, o⟩ => [(0, iT (m : Int)), (3, sT o)]) (fun ⟨m, o⟩ => []) (fun ⟨m, o⟩ => (m : Int) ≤ 2^62 ∧ dgt m o = dgt k.toNat ⟨#[]⟩ ∧ o.size + m ≤ k.toNat) (fun ⟨m, o⟩ => m) ((k.toNat, ⟨#[]⟩)) (⟨by omega, rfl, by show 0 + k.toNat ≤ k.toNat; omega⟩) ((show ((k.toNat : Nat) : Int) = k by omega)) ?_; intro lx hI; obtain ⟨m, o⟩ := lx; (try simp only [List.nil_append, List.cons_append] at hI ⊢)
  have hk2 : (k.toNat : Int) ≤ 2^62 := by omega
  refine Run ((ai (dg_wrap m) (ai (dg_div m) (show (ByteArray.mk #[109]).size = 1 from rfl)))) ?_; with_reducible repeat' (first | exact True.intro | refine Lf.mk ?_ ?_ | intro hb)
  · exact Nxt (cast_succ) ((m / 10, byStr [((48 + m % 10 : Nat) : Int)] ++ o)) (⟨by omega, by rw [← dgt_pos (by omega)]; exact hI.2.1, by rw [ByteArray.size_append, byStr_size]; simp only [List.length_cons, List.length_nil]; omega⟩) (by first | omega | (simp; omega))
  · have hm : m = 0 := by omega
    subst hm
    have hd := hI.2.1
    rw [dgt_zero] at hd
    simp only [mT, if_neg (show ¬ k ≤ 0 by omega), hd]

end Go.VC.T
/- Rows of texts and numbers: how they are marked. -/
namespace Go.VC.T
open Go Go.VC Go.Proofs Go.VC.F
def fc54M1 := (ai (ai (ai (ai sz3 ag3) (ai zv3 (ai un3 sz4))) (ai (ai ag4 zv4) (ai un4 (ai sz9 ag9)))) (ai (ai (ai zv9 un9) (ai sz25 (ai ag25 zv25))) (ai (ai sb25 un25) (ai el25 (ai ap25 okf80)))))
theorem markStringS_of (xs : List ByteArray) (k : Int) (hk : 0 ≤ k ∧ k + (cnL (xs.flatMap eS) : Int) ≤ 2^60) : FnS Tryz.prog 54 [(1, .row xs.length (xs.flatMap eS))] [.c (.os 1 xs.length), iT k] [(1, .row xs.length (mkL mT k (xs.flatMap eS)))] (iT (k + (cnL (xs.flatMap eS) : Int))) := by
  refine FnS.go [0, 1, 4, 5, 9] [] Tryz.func54 rfl (fun kt kz => ?_)
  have fcx := fc54M1
  simp only [Tryz.f54]
  have hx : xs.length ≤ 2^60 := by have := cnL_len (E := eS) (xs := xs); omega
  refine Run (cast_succ) ?_; with_reducible repeat' (first | exact True.intro | refine Lf.mk ?_ ?_ | intro hb)
  refine Trn (α := Nat) [1, 5, 6, 7, 8, 9, 10, 11, 12, 13, 14, 15, 16, 17, 18] (fun i => [(5, iT i), (1, iT (k + (cnT eS xs i : Int)))]) (fun i => [(1, .row xs.length (mkA mT eS k xs i ++ (xs.drop i).flatMap eS))]) (fun i => i ≤ xs.length) (fun i => xs.length - i) (0) (Nat.zero_le _) ((ai (ai (mkA_zero mT (E := eS) (k := k) (xs := xs)) (cnT_zero (E := eS) (xs := xs))) (ai (List.drop_zero (l := xs)) (ai @Int.ofNat_zero @Int.add_zero)))) ?_; intro lx hI; obtain i := lx; (try simp only [List.nil_append, List.cons_append] at hI ⊢)
  by_cases hlt : lx < xs.length
  · have hA : (mkA mT eS k xs lx).length = lx := by have := mkA_len mT (E := eS) (k := k) (Nat.le_of_lt hlt); omega
    have hd := drop_flat (E := eS) hlt
    simp only [eS] at hd
    have hc := cnT_le (E := eS) (xs := xs) (i := lx + 1)
    have ecn : cnT eS xs (lx + 1) = cnT eS xs lx + (1) := by rw [cnT_succ hlt]; (simp only [eS, slI, cnL_i, cnL_s, cnL_l, cnL_n]) <;> omega
    have e : k + (cnT eS xs lx : Int) + 1 = k + (cnT eS xs (lx + 1) : Int) := by omega
    have ec : mkA mT eS k xs lx ++ (.sc (.string (mT (k + (cnT eS xs lx : Int)))) :: (xs.drop (lx + 1)).flatMap eS) = mkA mT eS k xs (lx + 1) ++ (xs.drop (lx + 1)).flatMap eS := by rw [mkA_succ mT hlt]; simp only [eS, slI, mkL_i, mkL_s, mkL_l, mkL_n, List.append_assoc, List.cons_append, List.nil_append]
    refine Run ((ai (ai @hd (ai @hlt @ivl)) (ai (ai @iv0 @ivs) (ai @ownCells_get (mid_set0 hA))))) ?_; with_reducible repeat' (first | exact True.intro | refine Lf.mk ?_ ?_ | intro hb)
    refine Cal ((ai (ai @hd (ai @hlt @ivl)) (ai (ai @iv0 @ivs) (ai @ownCells_get (mid_set0 hA))))) (markText_ok (k + (cnT eS xs lx : Int)) (by omega)) ?_
    refine Run ((ai (ai @hd (ai @hlt @ivl)) (ai (ai @iv0 @ivs) (ai @ownCells_get (mid_set0 hA))))) ?_; with_reducible repeat' (first | exact True.intro | refine Lf.mk ?_ ?_ | intro hb)
    exact Nxt ((ai @e @ec)) (lx + 1) (by omega) (by first | omega | (simp; omega))
  · have hge : xs.length ≤ lx := by omega
    have e1 := cnT_all (E := eS) hge
    have e2 := mkA_all mT (E := eS) (k := k) hge
    have e3 := drop_all (E := eS) hge
    refine Run ((ai (ai @e1 @e2) (ai @e3 @hlt))) ?_; with_reducible repeat' (first | exact True.intro | refine Lf.mk ?_ ?_ | intro hb)

theorem markStringS_ok (xs : List ByteArray) (k : Int) (hk : 0 ≤ k ∧ k + (cnL (xs.flatMap eS) : Int) ≤ 2^60) : FnS Tryz.prog 54 [(1, .row xs.length (xs.flatMap eS))] [.c (.os 1 xs.length), iT k] [(1, .row xs.length (mkL mT k (xs.flatMap eS)))] (iT (k + (cnL (xs.flatMap eS) : Int))) := markStringS_of xs k hk
theorem markStringS_q (xs : List ByteArray) (k : Int) (hk : 0 ≤ k ∧ k + (cnL (xs.flatMap eS) : Int) ≤ 2^60) (q : Nat) : FnS Tryz.prog 54 [(q, .row xs.length (xs.flatMap eS))] [.c (.os q xs.length), iT k] [(q, .row xs.length (mkL mT k (xs.flatMap eS)))] (iT (k + (cnL (xs.flatMap eS) : Int))) := by
  obtain ⟨p, hp⟩ := pm1 1 q
  refine ((markStringS_ok xs k hk).renA p).asA ?_ ?_ ?_ ?_ <;> simp [renS, Ob.ren, TV.ren, Cell.ren, hp]
def fc56M1 := (ai (ai (ai (ai sz3 ag3) (ai zv3 (ai un3 sz4))) (ai (ai ag4 zv4) (ai un4 (ai sz9 ag9)))) (ai (ai (ai zv9 un9) (ai sz25 (ai ag25 zv25))) (ai (ai sb25 un25) (ai el25 (ai ap25 okf80)))))
theorem heldStringS_of (xs : List ByteArray) (k : Int) (hk : 0 ≤ k ∧ k + (cnL (xs.flatMap eS) : Int) ≤ 2^60) : FnS Tryz.prog 56 [] [.c (.im (.sl xs.length (mkL mT k (xs.flatMap eS)))), iT k] [] (iT (k + (cnL (xs.flatMap eS) : Int))) := by
  refine FnS.go [0, 1, 4, 5, 9, 18] [] Tryz.func56 rfl (fun kt kz => ?_)
  have fcx := fc56M1
  simp only [Tryz.f56]
  have hx : xs.length ≤ 2^60 := by have := cnL_len (E := eS) (xs := xs); omega
  refine Run (cast_succ) ?_; with_reducible repeat' (first | exact True.intro | refine Lf.mk ?_ ?_ | intro hb)
  refine Trn (α := Nat) [1, 4, 5, 6, 7, 8, 9, 10, 11, 12, 13, 14, 15, 16, 17, 18, 19, 20] (fun i => [(5, iT i), (1, iT (k + (cnT eS xs i : Int)))]) (fun i => []) (fun i => i ≤ xs.length) (fun i => xs.length - i) (0) (Nat.zero_le _) ((ai (cnT_zero (E := eS) (xs := xs)) (ai @Int.ofNat_zero @Int.add_zero))) ?_; intro lx hI; obtain i := lx; (try simp only [List.nil_append, List.cons_append] at hI ⊢)
  by_cases hlt : lx < xs.length
  · have hp := pt_mk1 mT (E := eS) (k := k) hlt
    simp only [eS, slI, mkL_i, mkL_s, mkL_l, mkL_n, List.cons_append, List.nil_append] at hp
    have hc := cnT_le (E := eS) (xs := xs) (i := lx + 1)
    have ecn : cnT eS xs (lx + 1) = cnT eS xs lx + (1) := by rw [cnT_succ hlt]; (simp only [eS, slI, cnL_i, cnL_s, cnL_l, cnL_n]) <;> omega
    have e : k + (cnT eS xs lx : Int) + 1 = k + (cnT eS xs (lx + 1) : Int) := by omega
    refine Run ((ai @hp @hlt)) ?_; with_reducible repeat' (first | exact True.intro | refine Lf.mk ?_ ?_ | intro hb)
    refine Cal ((ai @hp @hlt)) (markText_ok (k + (cnT eS xs lx : Int)) (by omega)) ?_
    refine Run ((ai @hp @hlt)) ?_; with_reducible repeat' (first | exact True.intro | refine Lf.mk ?_ ?_ | intro hb)
    exact Nxt (@e) (lx + 1) (by omega) (by first | omega | (simp; omega))
  · have hge : xs.length ≤ lx := by omega
    have e1 := cnT_all (E := eS) hge
    refine Run ((ai @e1 @hlt)) ?_; with_reducible repeat' (first | exact True.intro | refine Lf.mk ?_ ?_ | intro hb)

theorem heldStringS_ok (xs : List ByteArray) (k : Int) (hk : 0 ≤ k ∧ k + (cnL (xs.flatMap eS) : Int) ≤ 2^60) : FnP Tryz.prog 56 [.c (.im (.sl xs.length (mkL mT k (xs.flatMap eS)))), iT k] (iT (k + (cnL (xs.flatMap eS) : Int))) := heldStringS_of xs k hk



end Go.VC.T
/- Data (Mono): how they are marked. -/
namespace Go.VC.T
open Go Go.VC Go.Proofs Go.VC.F



end Go.VC.T
/- Data (Poly): how they are marked. -/
namespace Go.VC.T
open Go Go.VC Go.Proofs Go.VC.F

def hPoly (k : Int) (t : List Mono) : List IV := [.sl t.length (mkL mT (k) (t.flatMap eMono))]


end Go.VC.T
/- Polynomials of a token, of a number. -/
namespace Go.VC
def tokP (s : ByteArray) : List Mono := if s = ⟨#[]⟩ then [] else [⟨1, [s]⟩]
def numP (n : Int) : List Mono := if n < 1 ∨ 1000000 < n then [] else [⟨n, []⟩]
end Go.VC
namespace Go.VC.T
open Go Go.VC Go.Proofs Go.VC.F
def fc83A30 := (ai (ai (ai sz3 ag3) (ai zv3 un3)) (ai (ai sz4 ag4) (ai zv4 un4)))
theorem l1In_ok (x lo hi : Int) : FnS Tryz.prog 83 [] [iT x, iT lo, iT hi] [] (bT (decide (lo ≤ x ∧ x ≤ hi))) := by
  refine FnS.go [0, 1, 2, 6] [] Tryz.func83 rfl (fun kt kz => ?_)
  have fcx := fc83A30
  simp only [Tryz.f83]
  by_cases h1 : lo ≤ x
  · have e : decide (lo ≤ x ∧ x ≤ hi) = decide (x ≤ hi) := decide_eq_decide.2 (by omega)
    refine Run ((ai @h1 @e)) ?_; with_reducible repeat' (first | exact True.intro | refine Lf.mk ?_ ?_ | intro hb)
  · have e : decide (False ∧ x ≤ hi) = false := decide_eq_false (fun h => h.1)
    refine Run ((ai @h1 @e)) ?_; with_reducible repeat' (first | exact True.intro | refine Lf.mk ?_ ?_ | intro hb)

end Go.VC.T
/- Names, labels: on both sides. -/
namespace Go.VC
open Go
abbrev bt (s : ByteArray) (i : Nat) : Int := ((s.data.toList.getD i 0).toNat : Int)
def okC (s : ByteArray) (i : Nat) : Prop := (97 ≤ bt s i ∧ bt s i ≤ 122) ∨ (i ≠ 0 ∧ 48 ≤ bt s i ∧ bt s i ≤ 57)
def kwIf : ByteArray := ⟨#[105, 102]⟩
def kwFor : ByteArray := ⟨#[102, 111, 114]⟩
def NameOk (s : ByteArray) : Prop := (∀ j, j < s.size → okC s j) ∧ (1 ≤ s.size ∧ s.size ≤ 4) ∧ ¬ s = ⟨#[105, 102]⟩ ∧ ¬ s = ⟨#[102, 111, 114]⟩
noncomputable instance (s : ByteArray) : Decidable (NameOk s) := Classical.propDecidable _
theorem okC_let {s : ByteArray} {i : Nat} (h1 : 97 ≤ bt s i) (h2 : bt s i ≤ 122) : okC s i := .inl ⟨h1, h2⟩
theorem okC_dig {s : ByteArray} {i : Nat} (h0 : i ≠ 0) (h1 : 48 ≤ bt s i) (h2 : bt s i ≤ 57) : okC s i := .inr ⟨h0, h1, h2⟩
def AscS (l : List ByteArray) : Prop := ∀ k, (h : k + 1 < l.length) → sLt (l[k]'(by omega)) l[k + 1] = true
noncomputable instance (l : List ByteArray) : Decidable (AscS l) := Classical.propDecidable _
def LabsOk (l : List ByteArray) : Prop := (∀ s ∈ l, NameOk s) ∧ (1 ≤ l.length ∧ l.length ≤ 4) ∧ AscS l
noncomputable instance (l : List ByteArray) : Decidable (LabsOk l) := Classical.propDecidable _
end Go.VC
namespace Go.VC.T
open Go Go.VC Go.Proofs Go.VC.F
def fc62A54 := (ai (ai (ai (ai sz3 ag3) (ai zv3 un3)) (ai (ai sz4 ag4) (ai zv4 un4))) (ai (ai (ai sz5 ag5) (ai zv5 un5)) (ai (ai sz9 ag9) (ai zv9 (ai un9 okf83)))))
theorem specName_ok (s : ByteArray) (hs : s.size ≤ 2^48) : FnS Tryz.prog 62 [] [sT s] [] (bT (decide (NameOk s))) := by
  refine FnS.go [0, 2, 3, 4, 8, 38] [] Tryz.func62 rfl (fun kt kz => ?_)
  have fcx := fc62A54
  simp only [Tryz.f62]
  refine Run ((Tryz.underlying9)) ?_; with_reducible repeat' (first | exact True.intro | refine Lf.mk ?_ ?_ | intro hb)
  refine Trn (α := Nat) [2, 3, 4, 5, 6, 7, 8, 9, 10, 11, 12, 13, 14, 15, 16, 17, 18, 19, 20, 21, 22, 23, 24, 25, 26, 27, 28, 29, 30, 31, 32, 33, 34, 35, 36, 37, 38] (fun i => [(3, iT i)]) (fun i => []) (fun i => i ≤ s.size ∧ ∀ j, j < i → okC s j) (fun i => s.size - i) (0) (⟨Nat.zero_le _, fun j h => absurd h (Nat.not_lt_zero _)⟩) ((Tryz.underlying9)) ?_; intro lx hI; obtain i := lx; (try simp only [List.nil_append, List.cons_append] at hI ⊢)
  by_cases hlt : lx < s.size
  · have hnx : okC s lx → ∀ j, j < lx + 1 → okC s j := fun h j hj => by
      rcases Nat.lt_or_ge j lx with h1 | h1
      · exact hI.2 j h1
      · obtain rfl : j = lx := by omega
        exact h
    have hno : ¬ okC s lx → decide (NameOk s) = false := fun h => decide_eq_false fun hn => h (hn.1 lx hlt)
    by_cases a1 : 97 ≤ bt s lx
    · have a1' := eq_true a1
      by_cases a2 : bt s lx ≤ 122
      · have a2' := eq_true a2
        refine Run ((ai (ai (Tryz.underlying9) @hlt) (ai @a1' @a2'))) ?_; with_reducible repeat' (first | exact True.intro | refine Lf.mk ?_ ?_ | intro hb)
        exact Nxt (cast_succ) (lx + 1) (⟨by omega, hnx (okC_let a1 a2)⟩) (by first | omega | (simp; omega))
      · have a2' := eq_false a2
        have e := hno (fun h => by rcases h with h | h <;> omega)
        have d1' : (bt s lx < 48) = False := eq_false (by omega)
        have d2' : (57 < bt s lx) = True := eq_true (by omega)
        by_cases h0 : lx = 0
        · have g0 : ((lx : Int) = 0) = True := eq_true (by omega)
          refine Run ((ai (ai (Tryz.underlying9) (ai @hlt @a1')) (ai @a2' (ai @g0 @e)))) ?_; with_reducible repeat' (first | exact True.intro | refine Lf.mk ?_ ?_ | intro hb)
        · have g0 : ((lx : Int) = 0) = False := eq_false (by omega)
          refine Run ((ai (ai (ai (Tryz.underlying9) @hlt) (ai @a1' @a2')) (ai (ai @g0 @d1') (ai @d2' @e)))) ?_; with_reducible repeat' (first | exact True.intro | refine Lf.mk ?_ ?_ | intro hb)
    · have a1' := eq_false a1
      by_cases h0 : lx = 0
      · have e := hno (fun h => by rcases h with h | h <;> omega)
        have g0 : ((lx : Int) = 0) = True := eq_true (by omega)
        refine Run ((ai (ai (Tryz.underlying9) @hlt) (ai @a1' (ai @g0 @e)))) ?_; with_reducible repeat' (first | exact True.intro | refine Lf.mk ?_ ?_ | intro hb)
      · have g0 : ((lx : Int) = 0) = False := eq_false (by omega)
        by_cases d1 : bt s lx < 48
        · have e := hno (fun h => by rcases h with h | h <;> omega)
          have d1' := eq_true d1
          refine Run ((ai (ai (Tryz.underlying9) (ai @hlt @a1')) (ai @g0 (ai @d1' @e)))) ?_; with_reducible repeat' (first | exact True.intro | refine Lf.mk ?_ ?_ | intro hb)
        · have d1' := eq_false d1
          by_cases d2 : 57 < bt s lx
          · have e := hno (fun h => by rcases h with h | h <;> omega)
            have d2' := eq_true d2
            refine Run ((ai (ai (Tryz.underlying9) (ai @hlt @a1')) (ai (ai @g0 @d1') (ai @d2' @e)))) ?_; with_reducible repeat' (first | exact True.intro | refine Lf.mk ?_ ?_ | intro hb)
          · have d2' := eq_false d2
            refine Run ((ai (ai (Tryz.underlying9) (ai @hlt @a1')) (ai @g0 (ai @d1' @d2')))) ?_; with_reducible repeat' (first | exact True.intro | refine Lf.mk ?_ ?_ | intro hb)
            exact Nxt (cast_succ) (lx + 1) (⟨by omega, hnx (okC_dig h0 (by omega) (by omega))⟩) (by first | omega | (simp; omega))
  · have hall : ∀ j, j < s.size → okC s j := fun j hj => hI.2 j (by omega)
    have hc : decide (NameOk s) = decide ((1 ≤ (s.size : Int) ∧ (s.size : Int) ≤ 4) ∧ ¬ s = ⟨#[105, 102]⟩ ∧ ¬ s = ⟨#[102, 111, 114]⟩) := decide_eq_decide.2 ⟨fun h => ⟨by have := h.2.1; omega, h.2.2⟩, fun h => ⟨hall, by have := h.1; omega, h.2⟩⟩
    refine Run ((ai (Tryz.underlying9) @hlt)) ?_; with_reducible repeat' (first | exact True.intro | refine Lf.mk ?_ ?_ | intro hb)
    refine Cal ((Tryz.underlying9)) (l1In_ok (s.size : Int) 1 4) ?_
    by_cases h1 : 1 ≤ (s.size : Int) ∧ (s.size : Int) ≤ 4
    · by_cases h2 : s = ⟨#[105, 102]⟩
      · have e : decide (NameOk s) = false := decide_eq_false fun h => h.2.2.1 h2
        rw [e]
        subst h2
        have e1 : ((ByteArray.mk #[105, 102]).size : Int) = 2 := rfl
        refine Run ((ai (Tryz.underlying9) @e1)) ?_; with_reducible repeat' (first | exact True.intro | refine Lf.mk ?_ ?_ | intro hb)
      · by_cases h3 : s = ⟨#[102, 111, 114]⟩
        · have e : decide (NameOk s) = false := decide_eq_false fun h => h.2.2.2 h3
          have h2' := eq_false h2
          have h3' := eq_true h3
          refine Run ((ai (ai (Tryz.underlying9) @h1) (ai @h2' (ai @h3' @e)))) ?_; with_reducible repeat' (first | exact True.intro | refine Lf.mk ?_ ?_ | intro hb)
        · have e : decide (NameOk s) = true := decide_eq_true ⟨hall, by omega, h2, h3⟩
          refine Run ((ai (ai (Tryz.underlying9) @h1) (ai @h2 (ai @h3 @e)))) ?_; with_reducible repeat' (first | exact True.intro | refine Lf.mk ?_ ?_ | intro hb)
    · have e : decide (NameOk s) = false := decide_eq_false fun h => h1 (by have := h.2.1; omega)
      refine Run ((ai (Tryz.underlying9) (ai @h1 @e))) ?_; with_reducible repeat' (first | exact True.intro | refine Lf.mk ?_ ?_ | intro hb)

end Go.VC.T
/- Names, labels: the program; ascending labels on both sides. -/
namespace Go.VC.T
open Go Go.VC Go.Proofs Go.VC.F
def fc93A55 := (ai (ai (ai sz4 ag4) (ai zv4 un4)) (ai (ai sz5 ag5) (ai zv5 un5)))
theorem isSmall_ok (c : Int) : FnS Tryz.prog 93 [] [.c (.im (.sc (.int .u8 c)))] [] (bT (decide (97 ≤ c ∧ c ≤ 122))) := by
  refine FnS.go [0, 2] [] Tryz.func93 rfl (fun kt kz => ?_)
  have fcx := fc93A55
  simp only [Tryz.f93]
  by_cases h1 : 97 ≤ c
  · have e : decide (97 ≤ c ∧ c ≤ 122) = decide (c ≤ 122) := decide_eq_decide.2 (by omega)
    refine Run ((ai @h1 @e)) ?_; with_reducible repeat' (first | exact True.intro | refine Lf.mk ?_ ?_ | intro hb)
  · have e : decide (False ∧ c ≤ 122) = false := decide_eq_false (fun h => h.1)
    refine Run ((ai @h1 @e)) ?_; with_reducible repeat' (first | exact True.intro | refine Lf.mk ?_ ?_ | intro hb)
def fc94A55 := (ai (ai (ai sz4 ag4) (ai zv4 un4)) (ai (ai sz5 ag5) (ai zv5 un5)))
theorem isDigit_ok (c : Int) : FnS Tryz.prog 94 [] [.c (.im (.sc (.int .u8 c)))] [] (bT (decide (48 ≤ c ∧ c ≤ 57))) := by
  refine FnS.go [0, 2] [] Tryz.func94 rfl (fun kt kz => ?_)
  have fcx := fc94A55
  simp only [Tryz.f94]
  by_cases h1 : 48 ≤ c
  · have e : decide (48 ≤ c ∧ c ≤ 57) = decide (c ≤ 57) := decide_eq_decide.2 (by omega)
    refine Run ((ai @h1 @e)) ?_; with_reducible repeat' (first | exact True.intro | refine Lf.mk ?_ ?_ | intro hb)
  · have e : decide (False ∧ c ≤ 57) = false := decide_eq_false (fun h => h.1)
    refine Run ((ai @h1 @e)) ?_; with_reducible repeat' (first | exact True.intro | refine Lf.mk ?_ ?_ | intro hb)
def fc72A55 := (ai (ai (ai (ai sz3 ag3) (ai zv3 un3)) (ai (ai sz4 ag4) (ai zv4 (ai un4 sz5)))) (ai (ai (ai ag5 zv5) (ai un5 sz9)) (ai (ai ag9 zv9) (ai un9 (ai okf93 okf94)))))
theorem implName_ok (s : ByteArray) (hs : s.size ≤ 2^48) : FnS Tryz.prog 72 [] [sT s] [] (bT (decide (NameOk s))) := by
  refine FnS.go [0, 2, 3, 25, 27, 28, 29, 42] [] Tryz.func72 rfl (fun kt kz => ?_)
  have fcx := fc72A55
  simp only [Tryz.f72]
  have us := Tryz.underlying9
  by_cases z1 : (s.size : Int) < 1
  · have e : decide (NameOk s) = false := decide_eq_false fun h => by have := h.2.1; omega
    have g1 := eq_true z1
    refine Run ((ai @us (ai @g1 @e))) ?_; with_reducible repeat' (first | exact True.intro | refine Lf.mk ?_ ?_ | intro hb)
  · have g1 := eq_false z1
    by_cases z2 : (4 : Int) < (s.size : Int)
    · have e : decide (NameOk s) = false := decide_eq_false fun h => by have := h.2.1; omega
      have g2 := eq_true z2
      refine Run ((ai (ai @us @g1) (ai @g2 @e))) ?_; with_reducible repeat' (first | exact True.intro | refine Lf.mk ?_ ?_ | intro hb)
    · have g2 := eq_false z2
      have hp : 0 < s.size := by omega
      refine Run ((ai @us (ai @g1 @g2))) ?_; with_reducible repeat' (first | exact True.intro | refine Lf.mk ?_ ?_ | intro hb)
      refine Cal (@us) (isSmall_ok (bt s 0)) ?_
      by_cases b0 : 97 ≤ bt s 0 ∧ bt s 0 ≤ 122
      · have gb := eq_true b0
        by_cases k1 : s = ⟨#[105, 102]⟩
        · have e : decide (NameOk s) = false := decide_eq_false fun h => h.2.2.1 k1
          have gk := eq_true k1
          refine Run ((ai (ai @us @gb) (ai @gk @e))) ?_; with_reducible repeat' (first | exact True.intro | refine Lf.mk ?_ ?_ | intro hb)
        · have gk := eq_false k1
          by_cases k2 : s = ⟨#[102, 111, 114]⟩
          · have e : decide (NameOk s) = false := decide_eq_false fun h => h.2.2.2 k2
            have gk2 := eq_true k2
            refine Run ((ai (ai @us @gb) (ai @gk (ai @gk2 @e)))) ?_; with_reducible repeat' (first | exact True.intro | refine Lf.mk ?_ ?_ | intro hb)
          · have gk2 := eq_false k2
            refine Run ((ai (ai @us @gb) (ai @gk @gk2))) ?_; with_reducible repeat' (first | exact True.intro | refine Lf.mk ?_ ?_ | intro hb)
            refine Trn (α := Nat) [2, 3, 28, 29, 30, 31, 32, 33, 34, 35, 36, 37, 38, 39, 40, 41, 42, 43] (fun i => [(28, iT i)]) (fun i => []) (fun i => i ≤ s.size ∧ ∀ j, j < i → okC s j) (fun i => s.size - i) (0) (⟨Nat.zero_le _, fun j h => absurd h (Nat.not_lt_zero _)⟩) (@us) ?_; intro lx hI; obtain i := lx; (try simp only [List.nil_append, List.cons_append] at hI ⊢)
            by_cases hlt : lx < s.size
            · have hnx : okC s lx → ∀ j, j < lx + 1 → okC s j := fun h j hj => by
                rcases Nat.lt_or_ge j lx with h1 | h1
                · exact hI.2 j h1
                · obtain rfl : j = lx := by omega
                  exact h
              refine Run ((ai @us @hlt)) ?_; with_reducible repeat' (first | exact True.intro | refine Lf.mk ?_ ?_ | intro hb)
              refine Cal (@us) (isSmall_ok (bt s lx)) ?_
              by_cases c1 : 97 ≤ bt s lx ∧ bt s lx ≤ 122
              · have gc := eq_true c1
                refine Run ((ai @us @gc)) ?_; with_reducible repeat' (first | exact True.intro | refine Lf.mk ?_ ?_ | intro hb)
                exact Nxt (cast_succ) (lx + 1) (⟨by omega, hnx (.inl c1)⟩) (by first | omega | (simp; omega))
              · have gc := eq_false c1
                have hl0 : lx ≠ 0 := fun h => c1 (by subst h; exact b0)
                refine Run ((ai @us (ai @gc @hlt))) ?_; with_reducible repeat' (first | exact True.intro | refine Lf.mk ?_ ?_ | intro hb)
                refine Cal (@us) (isDigit_ok (bt s lx)) ?_
                by_cases c2 : 48 ≤ bt s lx ∧ bt s lx ≤ 57
                · have gd := eq_true c2
                  refine Run ((ai @us @gd)) ?_; with_reducible repeat' (first | exact True.intro | refine Lf.mk ?_ ?_ | intro hb)
                  exact Nxt (cast_succ) (lx + 1) (⟨by omega, hnx (.inr ⟨hl0, c2⟩)⟩) (by first | omega | (simp; omega))
                · have gd := eq_false c2
                  have e : decide (NameOk s) = false := decide_eq_false fun h => by
                    rcases h.1 lx hlt with h1 | h1
                    · exact c1 h1
                    · exact c2 h1.2
                  refine Run ((ai @us (ai @gd @e))) ?_; with_reducible repeat' (first | exact True.intro | refine Lf.mk ?_ ?_ | intro hb)
            · have e : decide (NameOk s) = true := decide_eq_true ⟨fun j hj => hI.2 j (by omega), by omega, k1, k2⟩
              refine Run ((ai @us (ai @hlt @e))) ?_; with_reducible repeat' (first | exact True.intro | refine Lf.mk ?_ ?_ | intro hb)
      · have gb := eq_false b0
        have e : decide (NameOk s) = false := decide_eq_false fun h => by
          rcases h.1 0 hp with h1 | h1
          · exact b0 h1
          · exact h1.1 rfl
        refine Run ((ai @us (ai @gb @e))) ?_; with_reducible repeat' (first | exact True.intro | refine Lf.mk ?_ ?_ | intro hb)
def fc25A55 := (ai (ai (ai (ai sz3 ag3) (ai zv3 un3)) (ai (ai sz4 ag4) (ai zv4 (ai un4 sz9)))) (ai (ai (ai ag9 zv9) (ai un9 (ai sz25 ag25))) (ai (ai zv25 sb25) (ai un25 (ai el25 ap25)))))
theorem specAsc_ok (xs : List ByteArray) (hx : xs.length ≤ 2^48) : FnS Tryz.prog 25 [] [slT eS xs] [] (bT (decide (AscS xs))) := by
  refine FnS.go [0, 2, 3, 7, 19] [] Tryz.func25 rfl (fun kt kz => ?_)
  have fcx := fc25A55
  simp only [Tryz.f25]
  refine Run (cast_succ) ?_; with_reducible repeat' (first | exact True.intro | refine Lf.mk ?_ ?_ | intro hb)
  refine Trn (α := Nat) [2, 3, 4, 5, 6, 7, 8, 9, 10, 11, 12, 13, 14, 15, 16, 17, 18, 19] (fun i => [(3, iT i)]) (fun i => []) (fun i => 1 ≤ i ∧ ∀ j, (h : j + 1 < xs.length) → j + 1 < i → sLt (xs[j]'(by omega)) xs[j + 1] = true) (fun i => xs.length + 1 - i) (1) (⟨Nat.le_refl _, fun j h hj => by omega⟩) (cast_succ) ?_; intro lx hI; obtain i := lx; (try simp only [List.nil_append, List.cons_append] at hI ⊢)
  by_cases hlt : lx < xs.length
  · have hl1 : lx - 1 < xs.length := by omega
    by_cases hc : sLt xs[lx - 1] xs[lx] = true
    · refine Run ((ai @hlt (ai @eS.eq_1 @hc))) ?_; with_reducible repeat' (first | exact True.intro | refine Lf.mk ?_ ?_ | intro hb)
      exact Nxt (cast_succ) (lx + 1) (⟨by omega, fun j h hj => by
        rcases Nat.lt_or_ge (j + 1) lx with h1 | h1
        · exact hI.2 j h h1
        · obtain rfl : lx = j + 1 := by omega
          exact hc⟩) (by first | omega | (simp; omega))
    · have hcf : sLt xs[lx - 1] xs[lx] = false := by simpa using hc
      have e : decide (AscS xs) = false := decide_eq_false fun h => by
        have := h (lx - 1) (by omega)
        have e2 : lx - 1 + 1 = lx := by omega
        simp only [e2] at this
        rw [hcf] at this; cases this
      refine Run ((ai (ai @hlt @eS.eq_1) (ai @hcf @e))) ?_; with_reducible repeat' (first | exact True.intro | refine Lf.mk ?_ ?_ | intro hb)
  · have e : decide (AscS xs) = true := decide_eq_true fun j h => hI.2 j h (by omega)
    refine Run ((ai @hlt @e)) ?_; with_reducible repeat' (first | exact True.intro | refine Lf.mk ?_ ?_ | intro hb)
def fc38A55 := (ai (ai (ai (ai sz3 ag3) (ai zv3 un3)) (ai (ai sz4 ag4) (ai zv4 (ai un4 sz9)))) (ai (ai (ai ag9 zv9) (ai un9 (ai sz25 ag25))) (ai (ai zv25 sb25) (ai un25 (ai el25 ap25)))))
theorem implAsc_ok (xs : List ByteArray) (hx : xs.length ≤ 2^48) : FnS Tryz.prog 38 [] [slT eS xs] [] (bT (decide (AscS xs))) := by
  refine FnS.go [0, 2, 3, 7, 19] [] Tryz.func38 rfl (fun kt kz => ?_)
  have fcx := fc38A55
  simp only [Tryz.f38]
  refine Run (cast_succ) ?_; with_reducible repeat' (first | exact True.intro | refine Lf.mk ?_ ?_ | intro hb)
  refine Trn (α := Nat) [2, 3, 4, 5, 6, 7, 8, 9, 10, 11, 12, 13, 14, 15, 16, 17, 18, 19] (fun i => [(3, iT i)]) (fun i => []) (fun i => 1 ≤ i ∧ ∀ j, (h : j + 1 < xs.length) → j + 1 < i → sLt (xs[j]'(by omega)) xs[j + 1] = true) (fun i => xs.length + 1 - i) (1) (⟨Nat.le_refl _, fun j h hj => by omega⟩) (cast_succ) ?_; intro lx hI; obtain i := lx; (try simp only [List.nil_append, List.cons_append] at hI ⊢)
  by_cases hlt : lx < xs.length
  · have hl1 : lx - 1 < xs.length := by omega
    by_cases hc : sLt xs[lx - 1] xs[lx] = true
    · refine Run ((ai @hlt (ai @eS.eq_1 @hc))) ?_; with_reducible repeat' (first | exact True.intro | refine Lf.mk ?_ ?_ | intro hb)
      exact Nxt (cast_succ) (lx + 1) (⟨by omega, fun j h hj => by
        rcases Nat.lt_or_ge (j + 1) lx with h1 | h1
        · exact hI.2 j h h1
        · obtain rfl : lx = j + 1 := by omega
          exact hc⟩) (by first | omega | (simp; omega))
    · have hcf : sLt xs[lx - 1] xs[lx] = false := by simpa using hc
      have e : decide (AscS xs) = false := decide_eq_false fun h => by
        have := h (lx - 1) (by omega)
        have e2 : lx - 1 + 1 = lx := by omega
        simp only [e2] at this
        rw [hcf] at this; cases this
      refine Run ((ai (ai @hlt @eS.eq_1) (ai @hcf @e))) ?_; with_reducible repeat' (first | exact True.intro | refine Lf.mk ?_ ?_ | intro hb)
  · have e : decide (AscS xs) = true := decide_eq_true fun j h => hI.2 j h (by omega)
    refine Run ((ai @hlt @e)) ?_; with_reducible repeat' (first | exact True.intro | refine Lf.mk ?_ ?_ | intro hb)

end Go.VC.T
/- Labels: on both sides. -/
namespace Go.VC.T
open Go Go.VC Go.Proofs Go.VC.F
def fc132A56 := (ai (ai (ai sz4 ag4) (ai zv4 un4)) (ai (ai sz9 ag9) (ai zv9 (ai un9 okf72))))
theorem labNo_ok (s : ByteArray) (hs : s.size ≤ 2^48) : FnS Tryz.prog 132 [] [sT s] [] (bT (!decide (NameOk s))) := by
  refine FnS.go [0, 2] [] Tryz.func132 rfl (fun kt kz => ?_)
  have fcx := fc132A56
  simp only [Tryz.f132]
  refine Run (cast_succ) ?_; with_reducible repeat' (first | exact True.intro | refine Lf.mk ?_ ?_ | intro hb)
  refine Cal (cast_succ) (implName_ok s hs) ?_
  refine Run (cast_succ) ?_; with_reducible repeat' (first | exact True.intro | refine Lf.mk ?_ ?_ | intro hb)
def fc77A56 := (ai (ai (ai (ai sz3 ag3) (ai zv3 (ai un3 sz4))) (ai (ai ag4 (ai zv4 un4)) (ai sz9 (ai ag9 zv9)))) (ai (ai (ai un9 sz25) (ai ag25 (ai zv25 sb25))) (ai (ai un25 (ai el25 ap25)) (ai sz81 (ai ag81 zv81)))))
theorem slIdxNS_ok (g : Nat) (hg : fnOk Tryz.prog g = true) (p : ByteArray → Bool) (xs : List ByteArray) (hx : xs.length ≤ 2^48) (H : ∀ x ∈ xs, FnP Tryz.prog g [sT x] (bT (p x))) : FnS Tryz.prog 77 [] [slT eS xs, .c (.im (.fn g []))] [] (iT (idxI p xs)) := by
  refine FnS.go [0, 1, 4, 5, 7, 8, 9, 16] [] Tryz.func77 rfl (fun kt kz => ?_)
  have fcx := fc77A56
  simp only [Tryz.f77]
  refine Run (cast_succ) ?_; with_reducible repeat' (first | exact True.intro | refine Lf.mk ?_ ?_ | intro hb)
  refine Trn (α := Nat) [4, 5, 8, 9, 10, 11, 12, 13, 14, 15, 16, 17, 18] (fun i => [(8, iT i)]) (fun i => []) (fun i => i ≤ xs.length ∧ (xs.take i).any p = false) (fun i => xs.length - i) (0) (⟨Nat.zero_le _, rfl⟩) (cast_succ) ?_; intro lx hI; obtain i := lx; (try simp only [List.nil_append, List.cons_append] at hI ⊢)
  by_cases hlt : lx < xs.length
  · refine Run ((ai @hlt (ai @eS.eq_1 @hg))) ?_; with_reducible repeat' (first | exact True.intro | refine Lf.mk ?_ ?_ | intro hb)
    refine Cal (cast_succ) (H _ (List.getElem_mem hlt)) ?_
    refine Run (cast_succ) ?_; with_reducible repeat' (first | exact True.intro | refine Lf.mk ?_ ?_ | intro hb)
    · rw [idx_at hlt hI.2 hb]
    · exact Nxt (cast_succ) (lx + 1) (⟨by omega, any_take hlt hI.2 hb⟩) (by first | omega | (simp; omega))
  · have ha := any_all (by omega) hI.2
    refine Run (@hlt) ?_; with_reducible repeat' (first | exact True.intro | refine Lf.mk ?_ ?_ | intro hb)
    rw [idx_no ha]
def fc39A56 := (ai (ai (ai (ai sz3 ag3) (ai zv3 un3)) (ai (ai sz4 ag4) (ai zv4 (ai un4 sz25)))) (ai (ai (ai ag25 zv25) (ai sb25 (ai un25 el25))) (ai (ai ap25 sz81) (ai ag81 (ai zv81 okf77)))))
theorem slHasNS_ok (g : Nat) (hg : fnOk Tryz.prog g = true) (p : ByteArray → Bool) (xs : List ByteArray) (hx : xs.length ≤ 2^48) (H : ∀ x ∈ xs, FnP Tryz.prog g [sT x] (bT (p x))) : FnS Tryz.prog 39 [] [slT eS xs, .c (.im (.fn g []))] [] (bT (xs.any p)) := by
  refine FnS.go [0, 1, 4] [] Tryz.func39 rfl (fun kt kz => ?_)
  have fcx := fc39A56
  simp only [Tryz.f39]
  refine Run (cast_succ) ?_; with_reducible repeat' (first | exact True.intro | refine Lf.mk ?_ ?_ | intro hb)
  refine Cal (cast_succ) (slIdxNS_ok g hg p xs hx H) ?_
  refine Run ((idx_ge (p := p) (l := xs))) ?_; with_reducible repeat' (first | exact True.intro | refine Lf.mk ?_ ?_ | intro hb)
def fc125A56 := (ai (ai (ai (ai sz3 ag3) (ai zv3 (ai un3 sz4))) (ai (ai ag4 zv4) (ai un4 (ai sz25 ag25)))) (ai (ai (ai zv25 sb25) (ai un25 (ai el25 ap25))) (ai (ai sz81 (ai ag81 zv81)) (ai okf38 (ai okf39 okf132)))))
theorem implLabs_ok (xs : List ByteArray) (h : okLs (2^20) okS xs) : FnS Tryz.prog 125 [] [slT eS xs] [] (bT (decide (LabsOk xs))) := by
  refine FnS.go [0, 2, 15] [] Tryz.func125 rfl (fun kt kz => ?_)
  have fcx := fc125A56
  simp only [Tryz.f125]
  have hx : xs.length ≤ 2^20 := h.1
  have hss : ∀ s ∈ xs, s.size ≤ 2^48 := fun s hs => by have : s.size ≤ 2^20 := h.2 s hs; omega
  have hg : fnOk Tryz.prog 132 = true := by decide +kernel
  by_cases z1 : (xs.length : Int) < 1
  · have e : decide (LabsOk xs) = false := decide_eq_false fun h => by have := h.2.1; omega
    have g1 := eq_true z1
    refine Run ((ai @g1 @e)) ?_; with_reducible repeat' (first | exact True.intro | refine Lf.mk ?_ ?_ | intro hb)
  · have g1 := eq_false z1
    by_cases z2 : (4 : Int) < (xs.length : Int)
    · have e : decide (LabsOk xs) = false := decide_eq_false fun h => by have := h.2.1; omega
      have g2 := eq_true z2
      refine Run ((ai @g1 (ai @g2 @e))) ?_; with_reducible repeat' (first | exact True.intro | refine Lf.mk ?_ ?_ | intro hb)
    · have g2 := eq_false z2
      refine Run ((ai @g1 @g2)) ?_; with_reducible repeat' (first | exact True.intro | refine Lf.mk ?_ ?_ | intro hb)
      refine Cal (cast_succ) (implAsc_ok xs (by omega)) ?_
      by_cases ha : AscS xs
      · have ga := eq_true ha
        have e : (!xs.any fun s => !decide (NameOk s)) = decide (LabsOk xs) := by
          by_cases hn : ∀ s ∈ xs, NameOk s
          · rw [decide_eq_true (show LabsOk xs from ⟨hn, by omega, ha⟩)]
            have : xs.any (fun s => !decide (NameOk s)) = false := by
              rw [List.any_eq_false]
              intro s hs
              simp [hn s hs]
            rw [this]; rfl
          · rw [decide_eq_false (show ¬ LabsOk xs from fun h => hn h.1)]
            have : xs.any (fun s => !decide (NameOk s)) = true := by
              rw [List.any_eq_true]
              simp only [Classical.not_forall] at hn
              obtain ⟨s, hs, h1⟩ := hn
              exact ⟨s, hs, by simp [h1]⟩
            rw [this]; rfl
        refine Run ((ai @ga @hg)) ?_; with_reducible repeat' (first | exact True.intro | refine Lf.mk ?_ ?_ | intro hb)
        refine Cal (@hg) (slHasNS_ok 132 hg (fun s => !decide (NameOk s)) xs (by omega) (fun x hx => labNo_ok x (hss x hx))) ?_
        refine Run (@e) ?_; with_reducible repeat' (first | exact True.intro | refine Lf.mk ?_ ?_ | intro hb)
      · have ga := eq_false ha
        have e : decide (LabsOk xs) = false := decide_eq_false fun h => ha h.2.2
        refine Run ((ai @ga @e)) ?_; with_reducible repeat' (first | exact True.intro | refine Lf.mk ?_ ?_ | intro hb)
def fc102A56 := (ai (ai (ai (ai sz3 ag3) (ai zv3 (ai un3 sz4))) (ai (ai ag4 (ai zv4 un4)) (ai sz9 (ai ag9 zv9)))) (ai (ai (ai un9 sz25) (ai ag25 (ai zv25 sb25))) (ai (ai un25 (ai el25 ap25)) (ai okf25 (ai okf62 okf83)))))
theorem specLabs_ok (xs : List ByteArray) (h : okLs (2^20) okS xs) : FnS Tryz.prog 102 [] [slT eS xs] [] (bT (decide (LabsOk xs))) := by
  refine FnS.go [0, 2, 3, 7, 15] [] Tryz.func102 rfl (fun kt kz => ?_)
  have fcx := fc102A56
  simp only [Tryz.f102]
  have hx : xs.length ≤ 2^20 := h.1
  have hss : ∀ s ∈ xs, s.size ≤ 2^48 := fun s hs => by have : s.size ≤ 2^20 := h.2 s hs; omega
  refine Run (cast_succ) ?_; with_reducible repeat' (first | exact True.intro | refine Lf.mk ?_ ?_ | intro hb)
  refine Trn (α := Nat) [2, 3, 4, 5, 6, 7, 8, 9, 10, 11, 12, 13, 14, 15] (fun i => [(3, iT i)]) (fun i => []) (fun i => i ≤ xs.length ∧ ∀ s ∈ xs.take i, NameOk s) (fun i => xs.length - i) (0) (⟨Nat.zero_le _, fun s hs => by simp at hs⟩) (cast_succ) ?_; intro lx hI; obtain i := lx; (try simp only [List.nil_append, List.cons_append] at hI ⊢)
  by_cases hlt : lx < xs.length
  · refine Run ((ai @hlt @eS.eq_1)) ?_; with_reducible repeat' (first | exact True.intro | refine Lf.mk ?_ ?_ | intro hb)
    refine Cal (cast_succ) (specName_ok xs[lx] (hss _ (List.getElem_mem hlt))) ?_
    by_cases hn : NameOk xs[lx]
    · have gn := eq_true hn
      refine Run (@gn) ?_; with_reducible repeat' (first | exact True.intro | refine Lf.mk ?_ ?_ | intro hb)
      exact Nxt (cast_succ) (lx + 1) (⟨by omega, fun s hs => by
        rw [take_at hlt, List.mem_append] at hs
        rcases hs with h1 | h1
        · exact hI.2 s h1
        · rw [List.mem_singleton] at h1; subst h1; exact hn⟩) (by first | omega | (simp; omega))
    · have gn := eq_false hn
      have e : decide (LabsOk xs) = false := decide_eq_false fun h => hn (h.1 _ (List.getElem_mem hlt))
      refine Run ((ai @gn @e)) ?_; with_reducible repeat' (first | exact True.intro | refine Lf.mk ?_ ?_ | intro hb)
  · have hall : ∀ s ∈ xs, NameOk s := fun s hs => hI.2 s (by rw [List.take_of_length_le (by omega)]; exact hs)
    refine Run (@hlt) ?_; with_reducible repeat' (first | exact True.intro | refine Lf.mk ?_ ?_ | intro hb)
    refine Cal (cast_succ) (l1In_ok (xs.length : Int) 1 4) ?_
    by_cases h1 : 1 ≤ (xs.length : Int) ∧ (xs.length : Int) ≤ 4
    · have g1 := eq_true h1
      have e : decide (AscS xs) = decide (LabsOk xs) := decide_eq_decide.2 ⟨fun h => ⟨hall, by omega, h⟩, fun h => h.2.2⟩
      refine Run (@g1) ?_; with_reducible repeat' (first | exact True.intro | refine Lf.mk ?_ ?_ | intro hb)
      refine Cal (cast_succ) (specAsc_ok xs (by omega)) ?_
      refine Run (@e) ?_; with_reducible repeat' (first | exact True.intro | refine Lf.mk ?_ ?_ | intro hb)
    · have g1 := eq_false h1
      have e : decide (LabsOk xs) = false := decide_eq_false fun h => h1 (by have := h.2.1; omega)
      refine Run ((ai @g1 @e)) ?_; with_reducible repeat' (first | exact True.intro | refine Lf.mk ?_ ?_ | intro hb)

end Go.VC.T
/- Types: how large and how deep they are, whether a kind occurs in them, their form: plain definitions. -/
namespace Go.VC
open Go
mutual
def tsz : Ty → Nat
  | .mk _ _ ws => 1 + tszL ws
def tszL : List Ty → Nat
  | [] => 0
  | a :: r => tsz a + tszL r
end
theorem tszL_eq : ∀ l : List Ty, tszL l = (l.map tsz).sum
  | [] => rfl
  | a :: r => by rw [tszL, tszL_eq r, List.map_cons, List.sum_cons]
def tszT (l : List Ty) (i : Nat) : Nat := ((l.take i).map tsz).sum
theorem tsz_eta (v : Ty) : tsz v = 1 + tszT v.args v.args.length := by
  cases v with
  | mk k ls ws => rw [tsz, tszL_eq]; unfold tszT; rw [show (Ty.mk k ls ws).args = ws from rfl, List.take_length]
theorem tszT_zero {l : List Ty} : tszT l 0 = 0 := by simp [tszT]
theorem tszT_succ {l : List Ty} {i : Nat} (h : i < l.length) : tszT l (i + 1) = tszT l i + tsz l[i] := by unfold tszT; rw [take_at h, List.map_append, List.sum_append]; simp
theorem tszT_le {l : List Ty} {i : Nat} : tszT l i ≤ tszT l l.length := by
  unfold tszT
  rw [List.take_length]
  conv => rhs; rw [← List.take_append_drop i l]
  rw [List.map_append, List.sum_append]
  omega
theorem tszT_all {l : List Ty} {i : Nat} (h : l.length ≤ i) : tszT l i = tszT l l.length := by unfold tszT; rw [List.take_length, List.take_of_length_le h]
mutual
theorem tsz_le : ∀ v : Ty, tsz v ≤ 1 + zTy v
  | .mk k ls ws => by
    have h := tszL_le ws
    rw [tsz, zTy_eta]
    show 1 + tszL ws ≤ 1 + (_ + zL zTy ws)
    omega
theorem tszL_le : ∀ l : List Ty, tszL l ≤ zL zTy l
  | [] => Nat.zero_le _
  | a :: r => by
    have h1 := tsz_le a
    have h2 := tszL_le r
    unfold zL at h2 ⊢
    rw [tszL, List.map_cons, List.sum_cons, List.length_cons]
    omega
end
theorem zTy_arg {v a : Ty} (h : a ∈ v.args) : zTy a ≤ zTy v := by
  have := zL_mem (z := zTy) h
  rw [zTy_eta v]
  omega
theorem ball_take {α : Type} {p : α → Prop} {l : List α} {i : Nat} (h : i < l.length) (ht : ∀ a ∈ l.take i, p a) (hi : p l[i]) : ∀ a ∈ l.take (i + 1), p a := fun a ha => by
  rw [take_at h, List.mem_append] at ha
  rcases ha with h1 | h1
  · exact ht a h1
  · rw [List.mem_singleton] at h1; subst h1; exact hi
theorem ball_end {α : Type} {p : α → Prop} {l : List α} {i : Nat} (h : l.length ≤ i) (ht : ∀ a ∈ l.take i, p a) : ∀ a ∈ l, p a := by rwa [List.take_of_length_le h] at ht
mutual
def tdp : Ty → Nat
  | .mk _ _ ws => 1 + tdpL ws
def tdpL : List Ty → Nat
  | [] => 0
  | a :: r => max (tdp a) (tdpL r)
end
theorem tdpL_app : ∀ (l m : List Ty), tdpL (l ++ m) = max (tdpL l) (tdpL m)
  | [], m => by simp [tdpL]
  | a :: r, m => by rw [List.cons_append, tdpL, tdpL, tdpL_app r m]; omega
theorem tdp_eta (v : Ty) : tdp v = 1 + tdpL v.args := by cases v; rw [tdp]; rfl
theorem tdpL_succ {l : List Ty} {i : Nat} (h : i < l.length) : tdpL (l.take (i + 1)) = max (tdpL (l.take i)) (tdp l[i]) := by rw [take_at h, tdpL_app]; simp [tdpL]
theorem tdpL_le : ∀ {l : List Ty} {n : Nat}, tdpL l ≤ n ↔ ∀ a ∈ l, tdp a ≤ n
  | [], n => by simp [tdpL]
  | a :: r, n => by rw [tdpL]; have := tdpL_le (l := r) (n := n); simp only [List.mem_cons, forall_eq_or_imp, ← this]; omega
mutual
theorem tdp_le : ∀ v : Ty, tdp v ≤ tsz v
  | .mk k ls ws => by have h := tdpLs_le ws; rw [tsz, tdp]; omega
theorem tdpLs_le : ∀ l : List Ty, tdpL l ≤ tszL l
  | [] => Nat.zero_le _
  | a :: r => by have h1 := tdp_le a; have h2 := tdpLs_le r; rw [tszL, tdpL]; omega
end
mutual
def tHas (k : Int) : Ty → Prop
  | .mk kd _ ws => kd = k ∨ tHasL k ws
def tHasL (k : Int) : List Ty → Prop
  | [] => False
  | a :: r => tHas k a ∨ tHasL k r
end
theorem tHasL_iff {k : Int} : ∀ {l : List Ty}, tHasL k l ↔ ∃ a ∈ l, tHas k a
  | [] => by simp [tHasL]
  | a :: r => by rw [tHasL, tHasL_iff (l := r)]; simp
theorem tHas_eta {k : Int} (t : Ty) : tHas k t ↔ t.kind = k ∨ ∃ a ∈ t.args, tHas k a := by
  cases t with
  | mk kd ls ws => rw [tHas, tHasL_iff]; rfl
noncomputable instance (k : Int) (t : Ty) : Decidable (tHas k t) := Classical.propDecidable _
def THd (t : Ty) : Prop := (t.kind = 3 ∧ t.args.length = t.labels.length ∧ LabsOk t.labels ∧ ¬ tHas 5 t) ∨ (t.kind = 4 ∧ t.args.length = 1 ∧ t.labels.length = 0 ∧ ¬ ∃ a ∈ t.args, tHas 5 a) ∨ ((t.kind = 1 ∨ t.kind = 2) ∧ t.labels.length = 0 ∧ t.args.length = 0) ∨ (t.kind = 5 ∧ t.labels.length = 0 ∧ t.args.length = 2)
noncomputable instance (t : Ty) : Decidable (THd t) := Classical.propDecidable _
mutual
def TF : Ty → Prop
  | .mk k ls ws => THd (.mk k ls ws) ∧ TFL ws
def TFL : List Ty → Prop
  | [] => True
  | a :: r => TF a ∧ TFL r
end
theorem TFL_iff : ∀ {l : List Ty}, TFL l ↔ ∀ a ∈ l, TF a
  | [] => by simp [TFL]
  | a :: r => by rw [TFL, TFL_iff (l := r)]; simp
theorem TF_eta (v : Ty) : TF v ↔ THd v ∧ ∀ a ∈ v.args, TF a := by
  cases v with
  | mk k ls ws => rw [TF, TFL_iff]; rfl
noncomputable instance (v : Ty) : Decidable (TF v) := Classical.propDecidable _
/-- Types that are right; data types; row types. -/
def TyOk (t : Ty) : Prop := tsz t ≤ 24 ∧ tdp t ≤ 7 ∧ TF t
noncomputable instance (v : Ty) : Decidable (TyOk v) := Classical.propDecidable _
def DataOk (t : Ty) : Prop := TyOk t ∧ ¬ tHas 5 t
noncomputable instance (v : Ty) : Decidable (DataOk v) := Classical.propDecidable _
def plainK (t : Ty) : Prop := t.kind = 1 ∨ t.kind = 2
noncomputable instance (v : Ty) : Decidable (plainK v) := Classical.propDecidable _
def RowOk' (t : Ty) : Prop := TyOk t ∧ t.kind = 3 ∧ ∀ a ∈ t.args, plainK a
noncomputable instance (v : Ty) : Decidable (RowOk' v) := Classical.propDecidable _
/-- What the program asks of a node. -/
def tMany (t : Ty) : Nat := if t.kind = 4 then 1 else if t.kind = 5 then 2 else if t.kind = 3 then t.labels.length else 0
def TFd (t : Ty) (p : Prop) (deep : Int) : Prop := TF t ∧ (p → ¬ tHas 5 t) ∧ deep + tdp t ≤ 8
noncomputable instance (t : Ty) (p : Prop) (d : Int) : Decidable (TFd t p d) := Classical.propDecidable _
def TNd (t : Ty) (p : Prop) (deep : Int) : Prop := 1 ≤ t.kind ∧ t.kind ≤ 5 ∧ deep ≤ 7 ∧ t.args.length = tMany t ∧ ¬ (t.kind = 5 ∧ p) ∧ (t.kind = 3 → LabsOk t.labels) ∧ (¬ t.kind = 3 → t.labels.length = 0)
theorem TFd_iff (t : Ty) (p : Prop) (deep : Int) : TFd t p deep ↔ TNd t p deep ∧ ∀ a ∈ t.args, TFd a (p ∨ t.kind = 3 ∨ t.kind = 4) (deep + 1) := by
  unfold TFd TNd tMany
  rw [TF_eta, tHas_eta, tdp_eta]
  have hdp : deep + ((1 + tdpL t.args : Nat) : Int) ≤ 8 ↔ deep ≤ 7 ∧ ∀ a ∈ t.args, deep + 1 + (tdp a : Int) ≤ 8 := by
    constructor
    · intro h
      exact ⟨by omega, fun a ha => by have := tdpL_le.1 (Nat.le_refl _) a ha; omega⟩
    · rintro ⟨h1, h2⟩
      have : tdpL t.args ≤ (7 - deep).toNat := tdpL_le.2 fun a ha => by have := h2 a ha; omega
      omega
  rw [hdp]
  unfold THd
  rw [tHas_eta]
  constructor
  · rintro ⟨⟨hh, hf⟩, hp, hd, hda⟩
    rcases hh with ⟨k, ha, hl, hn⟩ | ⟨k, ha, hl, hn⟩ | ⟨k, hl, ha⟩ | ⟨k, hl, ha⟩
    · have hn' : ¬ ∃ a ∈ t.args, tHas 5 a := fun h => hn (.inr h)
      exact ⟨⟨by omega, by omega, hd, by simp [k, ha], fun h => by omega, fun _ => hl, fun h => absurd k h⟩, fun a h => ⟨hf a h, fun _ h5 => hn' ⟨a, h, h5⟩, hda a h⟩⟩
    · exact ⟨⟨by omega, by omega, hd, by simp [k, ha], fun h => by omega, fun h => by omega, fun _ => hl⟩, fun a h => ⟨hf a h, fun _ h5 => hn ⟨a, h, h5⟩, hda a h⟩⟩
    · have hk : ¬ t.kind = 4 ∧ ¬ t.kind = 5 ∧ ¬ t.kind = 3 := by omega
      exact ⟨⟨by omega, by omega, hd, by simp [hk, ha], fun h => by omega, fun h => by omega, fun _ => hl⟩, fun a h => by rw [List.eq_nil_of_length_eq_zero ha] at h; cases h⟩
    · exact ⟨⟨by omega, by omega, hd, by simp [k, ha], fun h => hp h.2 (.inl k), fun h => by omega, fun _ => hl⟩, fun a h => ⟨hf a h, fun h' h5 => by rcases h' with h' | h' | h'; exact hp h' (.inr ⟨a, h, h5⟩); omega; omega, hda a h⟩⟩
  · rintro ⟨⟨h1, h2, hd, hm, h5, hl, hl0⟩, hall⟩
    have hno : (t.kind = 3 ∨ t.kind = 4) → ¬ ∃ a ∈ t.args, tHas 5 a := fun hk ⟨a, ha, h⟩ => (hall a ha).2.1 (.inr hk) h
    refine ⟨⟨?_, fun a ha => (hall a ha).1⟩, fun hp h => ?_, hd, fun a ha => (hall a ha).2.2⟩
    · by_cases k3 : t.kind = 3
      · exact .inl ⟨k3, by simpa [k3] using hm, hl k3, fun h => h.elim (fun h => by omega) (hno (.inl k3))⟩
      · by_cases k4 : t.kind = 4
        · exact .inr (.inl ⟨k4, by simpa [k4] using hm, hl0 k3, hno (.inr k4)⟩)
        · by_cases k5 : t.kind = 5
          · exact .inr (.inr (.inr ⟨k5, hl0 k3, by simpa [k5] using hm⟩))
          · exact .inr (.inr (.inl ⟨by omega, hl0 k3, by simpa [k3, k4, k5] using hm⟩))
    · rcases h with h | ⟨a, ha, h⟩
      · exact h5 ⟨h, hp⟩
      · exact (hall a ha).2.1 (.inl hp) h
theorem TFd_one (t : Ty) : TFd t False 1 ↔ TF t ∧ tdp t ≤ 7 := by unfold TFd; constructor <;> intro h <;> refine ⟨h.1, ?_⟩; have := h.2.2; omega; exact ⟨fun f => f.elim, by have := h.2; omega⟩
end Go.VC
namespace Go.VC
open Go
/-- Schemas that are right. -/
def SchOk (s : List Decl) : Prop := (∀ d ∈ s, NameOk d.name ∧ RowOk' d.row) ∧ AscS (s.map Decl.name) ∧ s.length ≤ 4
noncomputable instance (s : List Decl) : Decidable (SchOk s) := Classical.propDecidable _
/-- The sample's rows. -/
def smpC (k i j c : Nat) (a : Ty) : Val := if a.kind = 1 then .mk 1 (((3 * k + i + 2 * j + c) % 3 : Nat) : Int) [] [] else .mk 2 (((k + j + c) % 2 : Nat) : Int) [] []
def smpA (k i j : Nat) (l : List Ty) : List Val := l.zipIdx.map fun p => smpC k i j p.2 p.1
def smpR (k i j : Nat) (t : Ty) : Val := .mk 3 0 t.labels (smpA k i j t.args)
def smpT (k i : Nat) (d : Decl) : TData := ⟨d.name, (List.range ((k + i) % 3)).map fun j => smpR k i j d.row⟩
def smpL (k : Nat) (s : List Decl) : List TData := s.zipIdx.map fun p => smpT k p.2 p.1
noncomputable def smpD (s : List Decl) (k : Int) : List TData := if SchOk s ∧ 0 ≤ k ∧ k < 30 then smpL k.toNat s else []
end Go.VC
/- Types: sizes, depths, kinds that occur: both sides. -/
namespace Go.VC.T
open Go Go.VC Go.Proofs Go.VC.F
def fc85A65 := (ai (ai (ai (ai sz3 (ai ag3 zv3)) (ai un3 (ai sz4 ag4))) (ai (ai zv4 (ai un4 sz41)) (ai ag41 (ai zv41 sb41)))) (ai (ai (ai un41 (ai el41 ap41)) (ai sz43 (ai ag43 zv43))) (ai (ai fl43_0 (ai fl43_1 fl43_2)) (ai pl43 (ai okf85 sz25)))))
theorem l3Left_of (v : Ty) (h : okTy (2^20) v) (H : ∀ a ∈ v.args, ∀ left : Int, 0 ≤ left ∧ left ≤ 2^20 → FnP Tryz.prog 85 [agT (eTy a), iT left] (iT (szR (tsz a) left))) (left : Int) (hl : 0 ≤ left ∧ left ≤ 2^20) : FnS Tryz.prog 85 [] [agT (eTy v), iT left] [] (iT (szR (tsz v) left)) := by
  refine FnS.go [0, 1, 2, 4, 5, 16] [] Tryz.func85 rfl (fun kt kz => ?_)
  have fcx := fc85A65
  simp only [Tryz.f85]
  have ho := okTy_iff.1 h
  have hln := ho.2.2.1
  have e0 : left - 1 = szR (1 + tszT v.args 0) left := by rw [tszT_zero]; unfold szR; split <;> omega
  have ev := tsz_eta v
  refine Run ((ai @eTy_eta @e0)) ?_; with_reducible repeat' (first | exact True.intro | refine Lf.mk ?_ ?_ | intro hb)
  refine Trn (α := Nat) [1, 5, 8, 9, 10, 11, 12, 13, 14, 15, 16, 17, 18, 19, 20, 21, 22, 23, 24, 25] (fun i => [(5, iT i), (1, iT (szR (1 + tszT v.args i) left))]) (fun i => [(4, .box 43 ((eTy v).map .im))]) (fun i => i ≤ v.args.length) (fun i => v.args.length - i) (0) (Nat.zero_le _) (@eTy_eta) ?_; intro lx hI; obtain i := lx; (try simp only [List.nil_append, List.cons_append] at hI ⊢)
  have hs := szR_le (n := 1 + tszT v.args lx) hl.1
  by_cases hlt : lx < v.args.length
  · by_cases hn : 0 ≤ szR (1 + tszT v.args lx) left
    · have gn := eq_true hn
      have e : szR (tsz v.args[lx]) (szR (1 + tszT v.args lx) left) = szR (1 + tszT v.args (lx + 1)) left := by rw [szR_add, tszT_succ hlt, Nat.add_assoc]
      refine Run ((ai @eTy_eta (ai @hlt @gn))) ?_; with_reducible repeat' (first | exact True.intro | refine Lf.mk ?_ ?_ | intro hb)
      refine Cal (@eTy_eta) (H _ (List.getElem_mem hlt) _ ⟨hn, by omega⟩) ?_
      refine Run (@eTy_eta) ?_; with_reducible repeat' (first | exact True.intro | refine Lf.mk ?_ ?_ | intro hb)
      exact Nxt ((ai @e @eTy_eta)) (lx + 1) (by omega) (by first | omega | (simp; omega))
    · have gn := eq_false hn
      have hle := tszT_le (l := v.args) (i := lx)
      have e : szR (1 + tszT v.args lx) left = szR (tsz v) left := by
        rw [szR_neg (by omega) (show 1 + tszT v.args lx ≤ tsz v by omega)]
        have := szR_spec (1 + tszT v.args lx) left
        omega
      rw [e] at gn
      refine Run ((ai (ai @eTy_eta @hlt) (ai @gn @e))) ?_; with_reducible repeat' (first | exact True.intro | refine Lf.mk ?_ ?_ | intro hb)
  · have e : szR (1 + tszT v.args lx) left = szR (tsz v) left := by rw [ev, tszT_all (by omega)]
    refine Run ((ai @eTy_eta (ai @hlt @e))) ?_; with_reducible repeat' (first | exact True.intro | refine Lf.mk ?_ ?_ | intro hb)

theorem l3Left_ok (v : Ty) (h : okTy (2^20) v) (left : Int) (hl : 0 ≤ left ∧ left ≤ 2^20) : FnP Tryz.prog 85 [agT (eTy v), iT left] (iT (szR (tsz v) left)) :=
  l3Left_of v h (fun u hu l h2 => l3Left_ok u ((okTy_iff.1 h).2.2.2 u hu) l h2) left hl
termination_by SizeOf.sizeOf v
decreasing_by exact Ty.mem hu
def fc110A65 := (ai (ai (ai (ai sz3 ag3) (ai zv3 (ai un3 sz41))) (ai (ai ag41 zv41) (ai sb41 (ai un41 el41)))) (ai (ai (ai ap41 sz43) (ai ag43 (ai zv43 fl43_0))) (ai (ai fl43_1 fl43_2) (ai pl43 (ai okf110 sz25)))))
theorem sizeTy_of (v : Ty) (h : okTy (2^20) v) (hz : zTy v ≤ 2^40) (H : ∀ a ∈ v.args, FnP Tryz.prog 110 [agT (eTy a)] (iT (tsz a : Int))) : FnS Tryz.prog 110 [] [agT (eTy v)] [] (iT (tsz v : Int)) := by
  refine FnS.go [0, 1, 2, 3, 5, 7, 8, 9, 10] [] Tryz.func110 rfl (fun kt kz => ?_)
  have fcx := fc110A65
  simp only [Tryz.f110]
  have ho := okTy_iff.1 h
  have hln := ho.2.2.1
  have ev := tsz_eta v
  have hv := tsz_le v
  refine Run (@eTy_eta) ?_; with_reducible repeat' (first | exact True.intro | refine Lf.mk ?_ ?_ | intro hb)
  refine Trn (α := Nat) [3, 5, 9, 10, 11, 12, 13, 14, 15, 16, 17] (fun i => [(9, iT i), (3, iT ((1 + tszT v.args i : Nat) : Int))]) (fun i => [(2, .box 43 ((eTy v).map .im))]) (fun i => i ≤ v.args.length) (fun i => v.args.length - i) (0) (Nat.zero_le _) ((ai @eTy_eta (tszT_zero (l := v.args)))) ?_; intro lx hI; obtain i := lx; (try simp only [List.nil_append, List.cons_append] at hI ⊢)
  by_cases hlt : lx < v.args.length
  · have e : ((1 + tszT v.args lx : Nat) : Int) + (tsz v.args[lx] : Int) = ((1 + tszT v.args (lx + 1) : Nat) : Int) := by rw [tszT_succ hlt]; omega
    have hle := tszT_le (l := v.args) (i := lx + 1)
    refine Run ((ai @eTy_eta @hlt)) ?_; with_reducible repeat' (first | exact True.intro | refine Lf.mk ?_ ?_ | intro hb)
    refine Cal (@eTy_eta) (H _ (List.getElem_mem hlt)) ?_
    refine Run ((ai @eTy_eta @e)) ?_; with_reducible repeat' (first | exact True.intro | refine Lf.mk ?_ ?_ | intro hb)
    exact Nxt ((ai @e @eTy_eta)) (lx + 1) (by omega) (by first | omega | (simp; omega))
  · have e : ((1 + tszT v.args lx : Nat) : Int) = (tsz v : Int) := by rw [ev, tszT_all (by omega)]
    refine Run ((ai @eTy_eta (ai @hlt @e))) ?_; with_reducible repeat' (first | exact True.intro | refine Lf.mk ?_ ?_ | intro hb)

theorem sizeTy_ok (v : Ty) (h : okTy (2^20) v) (hz : zTy v ≤ 2^40) : FnP Tryz.prog 110 [agT (eTy v)] (iT (tsz v : Int)) :=
  sizeTy_of v h hz fun u hu => sizeTy_ok u ((okTy_iff.1 h).2.2.2 u hu) (Nat.le_trans (zTy_arg hu) hz)
termination_by SizeOf.sizeOf v
decreasing_by exact Ty.mem hu
def fc101A65 := (ai (ai (ai sz3 ag3) (ai zv3 un3)) (ai (ai sz4 ag4) (ai zv4 un4)))
theorem l1Max_ok (a b : Int) : FnS Tryz.prog 101 [] [iT a, iT b] [] (iT (max a b)) := by
  refine FnS.go [0, 1, 4, 7] [] Tryz.func101 rfl (fun kt kz => ?_)
  have fcx := fc101A65
  simp only [Tryz.f101]
  by_cases h : b < a
  · have e : max a b = a := by omega
    have g := eq_true h
    refine Run ((ai @g @e)) ?_; with_reducible repeat' (first | exact True.intro | refine Lf.mk ?_ ?_ | intro hb)
  · have e : max a b = b := by omega
    have g := eq_false h
    refine Run ((ai @g @e)) ?_; with_reducible repeat' (first | exact True.intro | refine Lf.mk ?_ ?_ | intro hb)
def fc86A65 := (ai (ai (ai (ai sz3 (ai ag3 zv3)) (ai un3 (ai sz4 ag4))) (ai (ai zv4 (ai un4 sz41)) (ai ag41 (ai zv41 sb41)))) (ai (ai (ai un41 (ai el41 ap41)) (ai sz43 (ai ag43 zv43))) (ai (ai fl43_0 (ai fl43_1 fl43_2)) (ai (ai pl43 okf86) (ai okf101 sz25)))))
theorem depTy_of (v : Ty) (h : okTy (2^20) v) (hz : zTy v ≤ 2^40) (H : ∀ a ∈ v.args, FnP Tryz.prog 86 [agT (eTy a)] (iT (tdp a : Int))) : FnS Tryz.prog 86 [] [agT (eTy v)] [] (iT (tdp v : Int)) := by
  refine FnS.go [0, 1, 2, 3, 4, 9] [] Tryz.func86 rfl (fun kt kz => ?_)
  have fcx := fc86A65
  simp only [Tryz.f86]
  have ho := okTy_iff.1 h
  have hln := ho.2.2.1
  have ev := tdp_eta v
  have h1 := tdp_le v
  have h2 := tsz_le v
  have e0 : (tdpL (v.args.take 0) : Int) = 0 := by simp [tdpL]
  refine Run (@eTy_eta) ?_; with_reducible repeat' (first | exact True.intro | refine Lf.mk ?_ ?_ | intro hb)
  refine Trn (α := Nat) [3, 4, 5, 6, 7, 8, 9, 10, 11, 12, 13, 14, 15, 16, 17, 18, 19] (fun i => [(4, iT i), (3, iT (tdpL (v.args.take i) : Int))]) (fun i => [(2, .box 43 ((eTy v).map .im))]) (fun i => i ≤ v.args.length) (fun i => v.args.length - i) (0) (Nat.zero_le _) ((ai @eTy_eta @e0)) ?_; intro lx hI; obtain i := lx; (try simp only [List.nil_append, List.cons_append] at hI ⊢)
  by_cases hlt : lx < v.args.length
  · have e : max (tdpL (v.args.take lx) : Int) (tdp v.args[lx] : Int) = (tdpL (v.args.take (lx + 1)) : Int) := by rw [tdpL_succ hlt]; omega
    refine Run ((ai @eTy_eta @hlt)) ?_; with_reducible repeat' (first | exact True.intro | refine Lf.mk ?_ ?_ | intro hb)
    refine Cal (@eTy_eta) (H _ (List.getElem_mem hlt)) ?_
    refine Run (@eTy_eta) ?_; with_reducible repeat' (first | exact True.intro | refine Lf.mk ?_ ?_ | intro hb)
    refine Cal (@eTy_eta) (l1Max_ok _ _) ?_
    refine Run ((ai @eTy_eta @e)) ?_; with_reducible repeat' (first | exact True.intro | refine Lf.mk ?_ ?_ | intro hb)
    exact Nxt ((ai @e @eTy_eta)) (lx + 1) (by omega) (by first | omega | (simp; omega))
  · have e : (tdpL (v.args.take lx) : Int) + 1 = (tdp v : Int) := by rw [ev, List.take_of_length_le (by omega)]; omega
    refine Run ((ai @eTy_eta (ai @hlt @e))) ?_; with_reducible repeat' (first | exact True.intro | refine Lf.mk ?_ ?_ | intro hb)

theorem depTy_ok (v : Ty) (h : okTy (2^20) v) (hz : zTy v ≤ 2^40) : FnP Tryz.prog 86 [agT (eTy v)] (iT (tdp v : Int)) :=
  depTy_of v h hz fun u hu => depTy_ok u ((okTy_iff.1 h).2.2.2 u hu) (Nat.le_trans (zTy_arg hu) hz)
termination_by SizeOf.sizeOf v
decreasing_by exact Ty.mem hu
def fc103A65 := (ai (ai (ai (ai sz3 (ai ag3 zv3)) (ai un3 (ai sz4 ag4))) (ai (ai zv4 (ai un4 sz41)) (ai ag41 (ai zv41 sb41)))) (ai (ai (ai un41 (ai el41 ap41)) (ai sz43 (ai ag43 zv43))) (ai (ai fl43_0 (ai fl43_1 fl43_2)) (ai pl43 (ai okf103 sz25)))))
theorem tHas_of (k : Int) (v : Ty) (h : okTy (2^20) v) (H : ∀ a ∈ v.args, FnP Tryz.prog 103 [agT (eTy a), iT k] (bT (decide (tHas k a)))) : FnS Tryz.prog 103 [] [agT (eTy v), iT k] [] (bT (decide (tHas k v))) := by
  refine FnS.go [0, 1, 2, 4, 5, 10, 19] [] Tryz.func103 rfl (fun kt kz => ?_)
  have fcx := fc103A65
  simp only [Tryz.f103]
  have ho := okTy_iff.1 h
  have hln := ho.2.2.1
  refine Run (@eTy_eta) ?_; with_reducible repeat' (first | exact True.intro | refine Lf.mk ?_ ?_ | intro hb)
  refine Trn (α := Nat) [4, 5, 6, 7, 8, 9, 10, 11, 12, 13, 14, 15, 16, 17, 18, 19] (fun i => [(5, iT i)]) (fun i => [(4, .box 43 ((eTy v).map .im))]) (fun i => i ≤ v.args.length ∧ ∀ a ∈ v.args.take i, ¬ tHas k a) (fun i => v.args.length - i) (0) (⟨Nat.zero_le _, fun s hs => by simp at hs⟩) (@eTy_eta) ?_; intro lx hI; obtain i := lx; (try simp only [List.nil_append, List.cons_append] at hI ⊢)
  by_cases hlt : lx < v.args.length
  · refine Run ((ai @eTy_eta @hlt)) ?_; with_reducible repeat' (first | exact True.intro | refine Lf.mk ?_ ?_ | intro hb)
    refine Cal (@eTy_eta) (H _ (List.getElem_mem hlt)) ?_
    by_cases hf : tHas k v.args[lx]
    · have gf := eq_true hf
      have e : decide (tHas k v) = true := decide_eq_true ((tHas_eta v).2 (.inr ⟨_, List.getElem_mem hlt, hf⟩))
      refine Run ((ai @eTy_eta (ai @gf @e))) ?_; with_reducible repeat' (first | exact True.intro | refine Lf.mk ?_ ?_ | intro hb)
    · have gf := eq_false hf
      refine Run ((ai @eTy_eta @gf)) ?_; with_reducible repeat' (first | exact True.intro | refine Lf.mk ?_ ?_ | intro hb)
      exact Nxt (@eTy_eta) (lx + 1) (⟨by omega, ball_take hlt hI.2 hf⟩) (by first | omega | (simp; omega))
  · have hall : ∀ a ∈ v.args, ¬ tHas k a := fun s hs => hI.2 s (by rw [List.take_of_length_le (by omega)]; exact hs)
    have e : decide (v.kind = k) = decide (tHas k v) := decide_eq_decide.2 ⟨fun h => (tHas_eta v).2 (.inl h), fun h => ((tHas_eta v).1 h).resolve_right fun ⟨a, ha, h⟩ => hall a ha h⟩
    refine Run ((ai @eTy_eta (ai @hlt @e))) ?_; with_reducible repeat' (first | exact True.intro | refine Lf.mk ?_ ?_ | intro hb)

theorem l3Has_ok (k : Int) (v : Ty) (h : okTy (2^20) v) : FnP Tryz.prog 103 [agT (eTy v), iT k] (bT (decide (tHas k v))) :=
  tHas_of k v h fun u hu => l3Has_ok k u ((okTy_iff.1 h).2.2.2 u hu)
termination_by SizeOf.sizeOf v
decreasing_by exact Ty.mem hu
end Go.VC.T
/- Types that are right: their form, on both sides. -/
namespace Go.VC.T
open Go Go.VC Go.Proofs Go.VC.F
def fc87A66 := (ai (ai (ai (ai (ai sz3 ag3) (ai zv3 un3)) (ai (ai sz4 ag4) (ai zv4 un4))) (ai (ai (ai sz25 ag25) (ai zv25 sb25)) (ai (ai un25 el25) (ai ap25 sz41)))) (ai (ai (ai (ai ag41 zv41) (ai sb41 un41)) (ai (ai el41 ap41) (ai sz43 ag43))) (ai (ai (ai zv43 fl43_0) (ai fl43_1 fl43_2)) (ai (ai pl43 okf87) (ai okf102 okf103)))))
theorem l3Form_of (v : Ty) (h : okTy (2^20) v) (H : ∀ a ∈ v.args, FnP Tryz.prog 87 [agT (eTy a)] (bT (decide (TF a)))) : FnS Tryz.prog 87 [] [agT (eTy v)] [] (bT (decide (TF v))) := by
  refine FnS.go [0, 1, 2, 3, 4, 9, 18, 21, 54, 56, 57, 60, 62] [] Tryz.func87 rfl (fun kt kz => ?_)
  have fcx := fc87A66
  simp only [Tryz.f87]
  have ho := okTy_iff.1 h
  have hln := ho.2.2.1
  have hls := ho.2.1
  refine Run (@eTy_eta) ?_; with_reducible repeat' (first | exact True.intro | refine Lf.mk ?_ ?_ | intro hb)
  refine Trn (α := Nat) [2, 3, 5, 6, 7, 8, 9, 10, 11, 12, 13, 14, 15, 16, 17, 18] (fun i => [(3, iT i)]) (fun i => [(2, .box 43 ((eTy v).map .im))]) (fun i => i ≤ v.args.length ∧ ∀ a ∈ v.args.take i, TF a) (fun i => v.args.length - i) (0) (⟨Nat.zero_le _, fun s hs => by simp at hs⟩) (@eTy_eta) ?_; intro lx hI; obtain i := lx; (try simp only [List.nil_append, List.cons_append] at hI ⊢)
  by_cases hlt : lx < v.args.length
  · refine Run ((ai @eTy_eta @hlt)) ?_; with_reducible repeat' (first | exact True.intro | refine Lf.mk ?_ ?_ | intro hb)
    refine Cal (@eTy_eta) (H _ (List.getElem_mem hlt)) ?_
    by_cases hf : TF v.args[lx]
    · have gf := eq_true hf
      refine Run ((ai @eTy_eta @gf)) ?_; with_reducible repeat' (first | exact True.intro | refine Lf.mk ?_ ?_ | intro hb)
      exact Nxt (@eTy_eta) (lx + 1) (⟨by omega, ball_take hlt hI.2 hf⟩) (by first | omega | (simp; omega))
    · have gf := eq_false hf
      have e : decide (TF v) = false := decide_eq_false fun h => hf ((TF_eta v).1 h |>.2 _ (List.getElem_mem hlt))
      refine Run ((ai @eTy_eta (ai @gf @e))) ?_; with_reducible repeat' (first | exact True.intro | refine Lf.mk ?_ ?_ | intro hb)
  · have hall : ∀ a ∈ v.args, TF a := ball_end (by omega) hI.2
    have hv : decide (TF v) = decide (THd v) := decide_eq_decide.2 ⟨fun h => ((TF_eta v).1 h).1, fun h => (TF_eta v).2 ⟨h, hall⟩⟩
    have hno : ¬ THd v → decide (TF v) = false := fun h => by rw [hv]; exact decide_eq_false h
    have hye : THd v → decide (TF v) = true := fun h => by rw [hv]; exact decide_eq_true h
    by_cases k3 : v.kind = 3
    · by_cases ha : (v.args.length : Int) = (v.labels.length : Int)
      · have ga := eq_true ha
        refine Run ((ai (ai @eTy_eta @hlt) (ai @k3 @ga))) ?_; with_reducible repeat' (first | exact True.intro | refine Lf.mk ?_ ?_ | intro hb)
        refine Cal (@eTy_eta) (specLabs_ok v.labels hls) ?_
        by_cases hl : LabsOk v.labels
        · have gl := eq_true hl
          refine Run ((ai (ai @eTy_eta @hlt) (ai @gl @k3))) ?_; with_reducible repeat' (first | exact True.intro | refine Lf.mk ?_ ?_ | intro hb)
          refine Cal ((ai @eTy_eta @k3)) (l3Has_ok 5 v h) ?_
          have e : (!decide (tHas 5 v)) = decide (TF v) := by rw [hv, ← decide_not]; exact decide_eq_decide.2 ⟨fun h => .inl ⟨k3, by omega, hl, h⟩, fun h => by unfold THd at h; rcases h with h | h | h | h <;> first | exact h.2.2.2 | (exfalso; omega)⟩
          refine Run (@e) ?_; with_reducible repeat' (first | exact True.intro | refine Lf.mk ?_ ?_ | intro hb)
        · have gl := eq_false hl
          have e := hno (fun h => by unfold THd at h; rcases h with h | h | h | h <;> first | exact hl h.2.2.1 | omega)
          refine Run ((ai @gl @e)) ?_; with_reducible repeat' (first | exact True.intro | refine Lf.mk ?_ ?_ | intro hb)
      · have ga := eq_false ha
        have e := hno (fun h => by unfold THd at h; omega)
        refine Run ((ai (ai @eTy_eta @hlt) (ai @k3 (ai @ga @e)))) ?_; with_reducible repeat' (first | exact True.intro | refine Lf.mk ?_ ?_ | intro hb)
    · have g3 := eq_false k3
      by_cases k4 : v.kind = 4
      · by_cases ha : (v.args.length : Int) = 1
        · have ga := eq_true ha
          have h0 : 0 < v.args.length := by omega
          refine Run ((ai (ai @eTy_eta @hlt) (ai @k4 (ai @ga @h0)))) ?_; with_reducible repeat' (first | exact True.intro | refine Lf.mk ?_ ?_ | intro hb)
          refine Cal (@eTy_eta) (l3Has_ok 5 v.args[0] (ho.2.2.2 _ (List.getElem_mem h0))) ?_
          have hx : (∃ a ∈ v.args, tHas 5 a) ↔ tHas 5 v.args[0] := by
            obtain ⟨a, he⟩ := List.length_eq_one_iff.1 (show v.args.length = 1 by omega)
            simp [he]
          by_cases hf : tHas 5 v.args[0]
          · have gf := eq_true hf
            have e := hno (fun h => by unfold THd at h; rcases h with h | h | h | h <;> first | exact h.2.2.2 (hx.2 hf) | omega)
            refine Run ((ai @eTy_eta (ai @gf @e))) ?_; with_reducible repeat' (first | exact True.intro | refine Lf.mk ?_ ?_ | intro hb)
          · have gf := eq_false hf
            by_cases hl : (v.labels.length : Int) = 0
            · have gl := eq_true hl
              have e := hye (.inr (.inl ⟨k4, by omega, by omega, fun h => hf (hx.1 h)⟩))
              refine Run ((ai (ai @eTy_eta (ai @k4 @gf)) (ai @ga (ai @gl @e)))) ?_; with_reducible repeat' (first | exact True.intro | refine Lf.mk ?_ ?_ | intro hb)
            · have gl := eq_false hl
              have e := hno (fun h => by unfold THd at h; omega)
              refine Run ((ai (ai @eTy_eta (ai @k4 @gf)) (ai @ga (ai @gl @e)))) ?_; with_reducible repeat' (first | exact True.intro | refine Lf.mk ?_ ?_ | intro hb)
        · have ga := eq_false ha
          have e := hno (fun h => by unfold THd at h; omega)
          by_cases hl : (v.labels.length : Int) = 0
          · have gl := eq_true hl
            refine Run ((ai (ai @eTy_eta (ai @hlt @k4)) (ai @ga (ai @gl @e)))) ?_; with_reducible repeat' (first | exact True.intro | refine Lf.mk ?_ ?_ | intro hb)
          · have gl := eq_false hl
            refine Run ((ai (ai @eTy_eta (ai @hlt @k4)) (ai @ga (ai @gl @e)))) ?_; with_reducible repeat' (first | exact True.intro | refine Lf.mk ?_ ?_ | intro hb)
      · have g4 := eq_false k4
        by_cases k12 : v.kind = 1 ∨ v.kind = 2
        · by_cases hl : (v.labels.length : Int) = 0
          · have gl := eq_true hl
            have e : decide ((v.args.length : Int) = 0) = decide (TF v) := by rw [hv]; exact decide_eq_decide.2 ⟨fun h => .inr (.inr (.inl ⟨k12, by omega, by omega⟩)), fun h => by unfold THd at h; omega⟩
            rcases k12 with k | k
            · refine Run ((ai (ai @eTy_eta @hlt) (ai @k (ai @gl @e)))) ?_; with_reducible repeat' (first | exact True.intro | refine Lf.mk ?_ ?_ | intro hb)
            · refine Run ((ai (ai @eTy_eta @hlt) (ai @k (ai @gl @e)))) ?_; with_reducible repeat' (first | exact True.intro | refine Lf.mk ?_ ?_ | intro hb)
          · have gl := eq_false hl
            have e := hno (fun h => by unfold THd at h; omega)
            rcases k12 with k | k
            · refine Run ((ai (ai @eTy_eta @hlt) (ai @k (ai @gl @e)))) ?_; with_reducible repeat' (first | exact True.intro | refine Lf.mk ?_ ?_ | intro hb)
            · refine Run ((ai (ai @eTy_eta @hlt) (ai @k (ai @gl @e)))) ?_; with_reducible repeat' (first | exact True.intro | refine Lf.mk ?_ ?_ | intro hb)
        · have g1 : (v.kind = 1) = False := eq_false (by omega)
          have g2 : (v.kind = 2) = False := eq_false (by omega)
          by_cases k5 : v.kind = 5
          · by_cases hl : (v.labels.length : Int) = 0
            · have gl := eq_true hl
              have e : decide ((v.args.length : Int) = 2) = decide (TF v) := by rw [hv]; exact decide_eq_decide.2 ⟨fun h => .inr (.inr (.inr ⟨k5, by omega, by omega⟩)), fun h => by unfold THd at h; omega⟩
              refine Run ((ai (ai @eTy_eta @hlt) (ai @k5 (ai @gl @e)))) ?_; with_reducible repeat' (first | exact True.intro | refine Lf.mk ?_ ?_ | intro hb)
            · have gl := eq_false hl
              have e := hno (fun h => by unfold THd at h; omega)
              refine Run ((ai (ai @eTy_eta @hlt) (ai @k5 (ai @gl @e)))) ?_; with_reducible repeat' (first | exact True.intro | refine Lf.mk ?_ ?_ | intro hb)
          · have g5 := eq_false k5
            have e := hno (fun h => by unfold THd at h; omega)
            have hm : ((v.args.length : Int) = -1) = False := eq_false (by omega)
            by_cases hl : (v.labels.length : Int) = 0
            · have gl := eq_true hl
              refine Run ((ai (ai (ai @eTy_eta @hlt) (ai @g1 (ai @g2 @g3))) (ai (ai @g4 @g5) (ai @hm (ai @gl @e))))) ?_; with_reducible repeat' (first | exact True.intro | refine Lf.mk ?_ ?_ | intro hb)
            · have gl := eq_false hl
              refine Run ((ai (ai (ai @eTy_eta @hlt) (ai @g1 (ai @g2 @g3))) (ai (ai @g4 @g5) (ai @hm (ai @gl @e))))) ?_; with_reducible repeat' (first | exact True.intro | refine Lf.mk ?_ ?_ | intro hb)

theorem l3Form_ok (v : Ty) (h : okTy (2^20) v) : FnP Tryz.prog 87 [agT (eTy v)] (bT (decide (TF v))) :=
  l3Form_of v h fun u hu => l3Form_ok u ((okTy_iff.1 h).2.2.2 u hu)
termination_by SizeOf.sizeOf v
decreasing_by exact Ty.mem hu
def fc64A66 := (ai (ai (ai (ai sz3 ag3) (ai zv3 (ai un3 sz4))) (ai (ai ag4 zv4) (ai un4 (ai sz43 ag43)))) (ai (ai (ai zv43 fl43_0) (ai fl43_1 (ai fl43_2 pl43))) (ai (ai okf85 okf86) (ai okf87 (ai sz25 sz41)))))
theorem specTyOk_ok (v : Ty) (h : okTy (2^20) v) (hz : zTy v ≤ 2^40) : FnS Tryz.prog 64 [] [agT (eTy v)] [] (bT (decide (TyOk v))) := by
  refine FnS.go [0, 1, 2] [] Tryz.func64 rfl (fun kt kz => ?_)
  have fcx := fc64A66
  simp only [Tryz.f64]
  have hs := szR_spec (tsz v) 24
  refine Run (@eTy_eta) ?_; with_reducible repeat' (first | exact True.intro | refine Lf.mk ?_ ?_ | intro hb)
  refine Cal (@eTy_eta) (l3Left_ok v h 24 ⟨by omega, by omega⟩) ?_
  by_cases hz1 : 0 ≤ szR (tsz v) 24
  · have gz := eq_true hz1
    refine Run ((ai @eTy_eta @gz)) ?_; with_reducible repeat' (first | exact True.intro | refine Lf.mk ?_ ?_ | intro hb)
    refine Cal (@eTy_eta) (depTy_ok v h hz) ?_
    by_cases hd : (tdp v : Int) ≤ 7
    · have gd := eq_true hd
      have e : decide (TF v) = decide (TyOk v) := decide_eq_decide.2 ⟨fun h => ⟨by omega, by omega, h⟩, fun h => h.2.2⟩
      refine Run ((ai @eTy_eta @gd)) ?_; with_reducible repeat' (first | exact True.intro | refine Lf.mk ?_ ?_ | intro hb)
      refine Cal (@eTy_eta) (l3Form_ok v h) ?_
      refine Run (@e) ?_; with_reducible repeat' (first | exact True.intro | refine Lf.mk ?_ ?_ | intro hb)
    · have gd := eq_false hd
      have e : decide (TyOk v) = false := decide_eq_false fun h => by have := h.2.1; omega
      refine Run ((ai @eTy_eta (ai @gd @e))) ?_; with_reducible repeat' (first | exact True.intro | refine Lf.mk ?_ ?_ | intro hb)
  · have gz := eq_false hz1
    have e : decide (TyOk v) = false := decide_eq_false fun h => by have := h.1; omega
    refine Run ((ai @eTy_eta (ai @gz @e))) ?_; with_reducible repeat' (first | exact True.intro | refine Lf.mk ?_ ?_ | intro hb)
def fc84A66 := (ai (ai (ai (ai sz3 ag3) (ai zv3 un3)) (ai (ai sz4 ag4) (ai zv4 un4))) (ai (ai (ai sz43 ag43) (ai zv43 fl43_0)) (ai (ai fl43_1 fl43_2) (ai pl43 (ai sz25 sz41)))))
theorem l3Base_ok (v : Ty) : FnS Tryz.prog 84 [] [agT (eTy v)] [] (bT (decide (plainK v))) := by
  refine FnS.go [0, 1, 2] [] Tryz.func84 rfl (fun kt kz => ?_)
  have fcx := fc84A66
  simp only [Tryz.f84]
  by_cases k1 : v.kind = 1
  · have e : decide (plainK v) = true := decide_eq_true (.inl k1)
    refine Run ((ai @eTy_eta (ai @k1 @e))) ?_; with_reducible repeat' (first | exact True.intro | refine Lf.mk ?_ ?_ | intro hb)
  · have e : decide (v.kind = 2) = decide (plainK v) := decide_eq_decide.2 ⟨fun h => .inr h, fun h => h.resolve_left k1⟩
    have g1 := eq_false k1
    refine Run ((ai @eTy_eta (ai @g1 @e))) ?_; with_reducible repeat' (first | exact True.intro | refine Lf.mk ?_ ?_ | intro hb)
def fc63A66 := (ai (ai (ai (ai sz3 (ai ag3 zv3)) (ai un3 (ai sz4 ag4))) (ai (ai zv4 (ai un4 sz41)) (ai ag41 (ai zv41 sb41)))) (ai (ai (ai un41 (ai el41 ap41)) (ai sz43 (ai ag43 zv43))) (ai (ai fl43_0 (ai fl43_1 fl43_2)) (ai (ai pl43 okf64) (ai okf84 sz25)))))
theorem specRow_ok (v : Ty) (h : okTy (2^20) v) (hz : zTy v ≤ 2^40) : FnS Tryz.prog 63 [] [agT (eTy v)] [] (bT (decide (RowOk' v))) := by
  refine FnS.go [0, 1, 2, 3, 11, 16, 25] [] Tryz.func63 rfl (fun kt kz => ?_)
  have fcx := fc63A66
  simp only [Tryz.f63]
  have ho := okTy_iff.1 h
  have hln := ho.2.2.1
  refine Run (@eTy_eta) ?_; with_reducible repeat' (first | exact True.intro | refine Lf.mk ?_ ?_ | intro hb)
  refine Cal (@eTy_eta) (specTyOk_ok v h hz) ?_
  by_cases ht : TyOk v
  · have gt := eq_true ht
    by_cases k3 : v.kind = 3
    · have g3 := eq_true k3
      refine Run ((ai @eTy_eta (ai @gt @g3))) ?_; with_reducible repeat' (first | exact True.intro | refine Lf.mk ?_ ?_ | intro hb)
      refine Trn (α := Nat) [2, 3, 12, 13, 14, 15, 16, 17, 18, 19, 20, 21, 22, 23, 24, 25] (fun i => [(3, iT i)]) (fun i => [(2, .box 43 ((eTy v).map .im))]) (fun i => i ≤ v.args.length ∧ ∀ a ∈ v.args.take i, plainK a) (fun i => v.args.length - i) (0) (⟨Nat.zero_le _, fun s hs => by simp at hs⟩) (@eTy_eta) ?_; intro lx hI; obtain i := lx; (try simp only [List.nil_append, List.cons_append] at hI ⊢)
      by_cases hlt : lx < v.args.length
      · refine Run ((ai @eTy_eta @hlt)) ?_; with_reducible repeat' (first | exact True.intro | refine Lf.mk ?_ ?_ | intro hb)
        refine Cal (@eTy_eta) (l3Base_ok v.args[lx]) ?_
        by_cases hf : plainK v.args[lx]
        · have gf := eq_true hf
          refine Run ((ai @eTy_eta @gf)) ?_; with_reducible repeat' (first | exact True.intro | refine Lf.mk ?_ ?_ | intro hb)
          exact Nxt (@eTy_eta) (lx + 1) (⟨by omega, ball_take hlt hI.2 hf⟩) (by first | omega | (simp; omega))
        · have gf := eq_false hf
          have e : decide (RowOk' v) = false := decide_eq_false fun h => hf (h.2.2 _ (List.getElem_mem hlt))
          refine Run ((ai @eTy_eta (ai @gf @e))) ?_; with_reducible repeat' (first | exact True.intro | refine Lf.mk ?_ ?_ | intro hb)
      · have e : decide (RowOk' v) = true := decide_eq_true ⟨ht, k3, ball_end (by omega) hI.2⟩
        refine Run ((ai @eTy_eta (ai @hlt @e))) ?_; with_reducible repeat' (first | exact True.intro | refine Lf.mk ?_ ?_ | intro hb)
    · have g3 := eq_false k3
      have e : decide (RowOk' v) = false := decide_eq_false fun h => k3 h.2.1
      refine Run ((ai (ai @eTy_eta @gt) (ai @g3 @e))) ?_; with_reducible repeat' (first | exact True.intro | refine Lf.mk ?_ ?_ | intro hb)
  · have gt := eq_false ht
    have e : decide (RowOk' v) = false := decide_eq_false fun h => ht h.1
    refine Run ((ai @eTy_eta (ai @gt @e))) ?_; with_reducible repeat' (first | exact True.intro | refine Lf.mk ?_ ?_ | intro hb)

end Go.VC.T
