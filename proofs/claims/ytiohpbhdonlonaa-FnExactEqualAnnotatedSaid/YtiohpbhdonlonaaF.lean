/- Facts of the program: sizes, zero values and fields of its types. -/
import Derived.Test.YtiohpbhdonlonaaProg
import Derived.Test.YtiohpbhdonlonaaW18
import Derived.KernelRfl
namespace Go.VC.F
open Go Go.VC
open Go.Proofs
theorem sz1 : szOf Try.prog 1 = some 1 := by kernel_rfl
theorem co1 : Program.cellsOf Try.prog 1 = 1 := by kernel_rfl
theorem by1 : Program.bytesOf Try.prog 1 = 8 := by kernel_rfl
theorem ag1 : aggB Try.prog 1 = false := by kernel_rfl
theorem zv1 : wpO.zvOf Try.prog 1 = some [.nilFunc] := by kernel_rfl
theorem sz2 : szOf Try.prog 2 = some 1 := by kernel_rfl
theorem co2 : Program.cellsOf Try.prog 2 = 1 := by kernel_rfl
theorem by2 : Program.bytesOf Try.prog 2 = 8 := by kernel_rfl
theorem ag2 : aggB Try.prog 2 = false := by kernel_rfl
theorem zv2 : wpO.zvOf Try.prog 2 = some [.int .i64 0] := by kernel_rfl
theorem un2 : Try.prog.underlying 2 = some (.int .i64) := by kernel_rfl
theorem sz3 : szOf Try.prog 3 = some 1 := by kernel_rfl
theorem co3 : Program.cellsOf Try.prog 3 = 1 := by kernel_rfl
theorem by3 : Program.bytesOf Try.prog 3 = 8 := by kernel_rfl
theorem ag3 : aggB Try.prog 3 = false := by kernel_rfl
theorem zv3 : wpO.zvOf Try.prog 3 = some [.int .i64 0] := by kernel_rfl
theorem un3 : Try.prog.underlying 3 = some (.int .i64) := by kernel_rfl
theorem sz4 : szOf Try.prog 4 = some 1 := by kernel_rfl
theorem co4 : Program.cellsOf Try.prog 4 = 1 := by kernel_rfl
theorem by4 : Program.bytesOf Try.prog 4 = 1 := by kernel_rfl
theorem ag4 : aggB Try.prog 4 = false := by kernel_rfl
theorem zv4 : wpO.zvOf Try.prog 4 = some [.bool false] := by kernel_rfl
theorem un4 : Try.prog.underlying 4 = some .bool := by kernel_rfl
theorem sz5 : szOf Try.prog 5 = some 1 := by kernel_rfl
theorem co5 : Program.cellsOf Try.prog 5 = 1 := by kernel_rfl
theorem by5 : Program.bytesOf Try.prog 5 = 1 := by kernel_rfl
theorem ag5 : aggB Try.prog 5 = false := by kernel_rfl
theorem zv5 : wpO.zvOf Try.prog 5 = some [.int .u8 0] := by kernel_rfl
theorem un5 : Try.prog.underlying 5 = some (.int .u8) := by kernel_rfl
theorem sz6 : szOf Try.prog 6 = some 1 := by kernel_rfl
theorem co6 : Program.cellsOf Try.prog 6 = 1 := by kernel_rfl
theorem by6 : Program.bytesOf Try.prog 6 = 1 := by kernel_rfl
theorem ag6 : aggB Try.prog 6 = false := by kernel_rfl
theorem zv6 : wpO.zvOf Try.prog 6 = some [.int .u8 0] := by kernel_rfl
theorem un6 : Try.prog.underlying 6 = some (.int .u8) := by kernel_rfl
theorem sz7 : szOf Try.prog 7 = some 4 := by kernel_rfl
theorem co7 : Program.cellsOf Try.prog 7 = 4 := by kernel_rfl
theorem by7 : Program.bytesOf Try.prog 7 = 24 := by kernel_rfl
theorem ag7 : aggB Try.prog 7 = true := by kernel_rfl
theorem zv7 : wpO.zvOf Try.prog 7 = some [.int .i64 0, .int .i64 0, .bool false, .int .u8 0] := by kernel_rfl
theorem st7 : strOf Try.prog 7 = some [(2, 0), (3, 1), (4, 2), (6, 3)] := by kernel_rfl
theorem fl7_0 : fldOf Try.prog 7 0 = some (0, 2) := by kernel_rfl
theorem fl7_1 : fldOf Try.prog 7 1 = some (1, 3) := by kernel_rfl
theorem fl7_2 : fldOf Try.prog 7 2 = some (2, 4) := by kernel_rfl
theorem fl7_3 : fldOf Try.prog 7 3 = some (3, 6) := by kernel_rfl
theorem pl7 : plOf Try.prog 7 = some ([(0, 1), (1, 1), (2, 1), (3, 1)], [.int .i64 0, .int .i64 0, .bool false, .int .u8 0]) := by kernel_rfl
theorem sz8 : szOf Try.prog 8 = some 4 := by kernel_rfl
theorem co8 : Program.cellsOf Try.prog 8 = 4 := by kernel_rfl
theorem by8 : Program.bytesOf Try.prog 8 = 24 := by kernel_rfl
theorem ag8 : aggB Try.prog 8 = true := by kernel_rfl
theorem zv8 : wpO.zvOf Try.prog 8 = some [.int .i64 0, .int .i64 0, .bool false, .int .u8 0] := by kernel_rfl
theorem st8 : strOf Try.prog 8 = some [(2, 0), (3, 1), (4, 2), (6, 3)] := by kernel_rfl
theorem fl8_0 : fldOf Try.prog 8 0 = some (0, 2) := by kernel_rfl
theorem fl8_1 : fldOf Try.prog 8 1 = some (1, 3) := by kernel_rfl
theorem fl8_2 : fldOf Try.prog 8 2 = some (2, 4) := by kernel_rfl
theorem fl8_3 : fldOf Try.prog 8 3 = some (3, 6) := by kernel_rfl
theorem pl8 : plOf Try.prog 8 = some ([(0, 1), (1, 1), (2, 1), (3, 1)], [.int .i64 0, .int .i64 0, .bool false, .int .u8 0]) := by kernel_rfl
theorem sz9 : szOf Try.prog 9 = some 1 := by kernel_rfl
theorem co9 : Program.cellsOf Try.prog 9 = 1 := by kernel_rfl
theorem by9 : Program.bytesOf Try.prog 9 = 16 := by kernel_rfl
theorem ag9 : aggB Try.prog 9 = false := by kernel_rfl
theorem zv9 : wpO.zvOf Try.prog 9 = some [.string ⟨#[]⟩] := by kernel_rfl
theorem un9 : Try.prog.underlying 9 = some .string := by kernel_rfl
theorem sz10 : szOf Try.prog 10 = some 1 := by kernel_rfl
theorem co10 : Program.cellsOf Try.prog 10 = 1 := by kernel_rfl
theorem by10 : Program.bytesOf Try.prog 10 = 16 := by kernel_rfl
theorem ag10 : aggB Try.prog 10 = false := by kernel_rfl
theorem zv10 : wpO.zvOf Try.prog 10 = some [.string ⟨#[]⟩] := by kernel_rfl
theorem un10 : Try.prog.underlying 10 = some .string := by kernel_rfl
theorem sz11 : szOf Try.prog 11 = some 1 := by kernel_rfl
theorem co11 : Program.cellsOf Try.prog 11 = 1 := by kernel_rfl
theorem by11 : Program.bytesOf Try.prog 11 = 16 := by kernel_rfl
theorem ag11 : aggB Try.prog 11 = false := by kernel_rfl
theorem zv11 : wpO.zvOf Try.prog 11 = some [.string ⟨#[]⟩] := by kernel_rfl
theorem un11 : Try.prog.underlying 11 = some .string := by kernel_rfl
theorem sz12 : szOf Try.prog 12 = some 1 := by kernel_rfl
theorem co12 : Program.cellsOf Try.prog 12 = 1 := by kernel_rfl
theorem by12 : Program.bytesOf Try.prog 12 = 8 := by kernel_rfl
theorem ag12 : aggB Try.prog 12 = false := by kernel_rfl
theorem zv12 : wpO.zvOf Try.prog 12 = some [.int .u64 0] := by kernel_rfl
theorem un12 : Try.prog.underlying 12 = some (.int .u64) := by kernel_rfl
theorem sz13 : szOf Try.prog 13 = some 2 := by kernel_rfl
theorem co13 : Program.cellsOf Try.prog 13 = 2 := by kernel_rfl
theorem by13 : Program.bytesOf Try.prog 13 = 24 := by kernel_rfl
theorem ag13 : aggB Try.prog 13 = true := by kernel_rfl
theorem zv13 : wpO.zvOf Try.prog 13 = some [.string ⟨#[]⟩, .int .u64 0] := by kernel_rfl
theorem st13 : strOf Try.prog 13 = some [(9, 0), (12, 1)] := by kernel_rfl
theorem fl13_0 : fldOf Try.prog 13 0 = some (0, 9) := by kernel_rfl
theorem fl13_1 : fldOf Try.prog 13 1 = some (1, 12) := by kernel_rfl
theorem pl13 : plOf Try.prog 13 = some ([(0, 1), (1, 1)], [.string ⟨#[]⟩, .int .u64 0]) := by kernel_rfl
theorem sz14 : szOf Try.prog 14 = some 2 := by kernel_rfl
theorem co14 : Program.cellsOf Try.prog 14 = 2 := by kernel_rfl
theorem by14 : Program.bytesOf Try.prog 14 = 24 := by kernel_rfl
theorem ag14 : aggB Try.prog 14 = true := by kernel_rfl
theorem zv14 : wpO.zvOf Try.prog 14 = some [.string ⟨#[]⟩, .int .u64 0] := by kernel_rfl
theorem st14 : strOf Try.prog 14 = some [(9, 0), (12, 1)] := by kernel_rfl
theorem fl14_0 : fldOf Try.prog 14 0 = some (0, 9) := by kernel_rfl
theorem fl14_1 : fldOf Try.prog 14 1 = some (1, 12) := by kernel_rfl
theorem pl14 : plOf Try.prog 14 = some ([(0, 1), (1, 1)], [.string ⟨#[]⟩, .int .u64 0]) := by kernel_rfl
theorem sz15 : szOf Try.prog 15 = some 1 := by kernel_rfl
theorem co15 : Program.cellsOf Try.prog 15 = 1 := by kernel_rfl
theorem by15 : Program.bytesOf Try.prog 15 = 8 := by kernel_rfl
theorem ag15 : aggB Try.prog 15 = false := by kernel_rfl
theorem zv15 : wpO.zvOf Try.prog 15 = some [.pointer none] := by kernel_rfl
theorem un15 : Try.prog.underlying 15 = some (.pointer 405) := by kernel_rfl
theorem sz16 : szOf Try.prog 16 = some 1 := by kernel_rfl
theorem co16 : Program.cellsOf Try.prog 16 = 1 := by kernel_rfl
theorem by16 : Program.bytesOf Try.prog 16 = 8 := by kernel_rfl
theorem ag16 : aggB Try.prog 16 = false := by kernel_rfl
theorem zv16 : wpO.zvOf Try.prog 16 = some [.pointer none] := by kernel_rfl
theorem un16 : Try.prog.underlying 16 = some (.pointer 408) := by kernel_rfl
theorem sz17 : szOf Try.prog 17 = some 1 := by kernel_rfl
theorem co17 : Program.cellsOf Try.prog 17 = 1 := by kernel_rfl
theorem by17 : Program.bytesOf Try.prog 17 = 8 := by kernel_rfl
theorem ag17 : aggB Try.prog 17 = false := by kernel_rfl
theorem zv17 : wpO.zvOf Try.prog 17 = some [.pointer none] := by kernel_rfl
theorem un17 : Try.prog.underlying 17 = some (.pointer 416) := by kernel_rfl
theorem sz18 : szOf Try.prog 18 = some 1 := by kernel_rfl
theorem co18 : Program.cellsOf Try.prog 18 = 1 := by kernel_rfl
theorem by18 : Program.bytesOf Try.prog 18 = 8 := by kernel_rfl
theorem ag18 : aggB Try.prog 18 = true := by kernel_rfl
theorem zv18 : wpO.zvOf Try.prog 18 = some [.pointer none] := by kernel_rfl
theorem st18 : strOf Try.prog 18 = some [(17, 0)] := by kernel_rfl
theorem fl18_0 : fldOf Try.prog 18 0 = some (0, 17) := by kernel_rfl
theorem pl18 : plOf Try.prog 18 = some ([(0, 1)], [.pointer none]) := by kernel_rfl
theorem sz19 : szOf Try.prog 19 = some 1 := by kernel_rfl
theorem co19 : Program.cellsOf Try.prog 19 = 1 := by kernel_rfl
theorem by19 : Program.bytesOf Try.prog 19 = 8 := by kernel_rfl
theorem ag19 : aggB Try.prog 19 = true := by kernel_rfl
theorem zv19 : wpO.zvOf Try.prog 19 = some [.pointer none] := by kernel_rfl
theorem st19 : strOf Try.prog 19 = some [(17, 0)] := by kernel_rfl
theorem fl19_0 : fldOf Try.prog 19 0 = some (0, 17) := by kernel_rfl
theorem pl19 : plOf Try.prog 19 = some ([(0, 1)], [.pointer none]) := by kernel_rfl
theorem sz21 : szOf Try.prog 21 = some 1 := by kernel_rfl
theorem co21 : Program.cellsOf Try.prog 21 = 1 := by kernel_rfl
theorem by21 : Program.bytesOf Try.prog 21 = 4 := by kernel_rfl
theorem ag21 : aggB Try.prog 21 = false := by kernel_rfl
theorem zv21 : wpO.zvOf Try.prog 21 = some [.int .i32 0] := by kernel_rfl
theorem un21 : Try.prog.underlying 21 = some (.int .i32) := by kernel_rfl
theorem sz22 : szOf Try.prog 22 = some 1 := by kernel_rfl
theorem co22 : Program.cellsOf Try.prog 22 = 1 := by kernel_rfl
theorem by22 : Program.bytesOf Try.prog 22 = 24 := by kernel_rfl
theorem ag22 : aggB Try.prog 22 = false := by kernel_rfl
theorem zv22 : wpO.zvOf Try.prog 22 = some [.slice none 0 0] := by kernel_rfl
theorem sb22 : slB Try.prog 22 = true := by kernel_rfl
theorem un22 : Try.prog.underlying 22 = some (.slice 149) := by kernel_rfl
theorem el22 : elOf Try.prog 22 = some (149, 2) := by kernel_rfl
theorem ap22 : apOf Try.prog 22 = some (149, 2, 32, [.int .i64 0, .slice none 0 0]) := by kernel_rfl
theorem sz23 : szOf Try.prog 23 = some 1 := by kernel_rfl
theorem co23 : Program.cellsOf Try.prog 23 = 1 := by kernel_rfl
theorem by23 : Program.bytesOf Try.prog 23 = 24 := by kernel_rfl
theorem ag23 : aggB Try.prog 23 = true := by kernel_rfl
theorem zv23 : wpO.zvOf Try.prog 23 = some [.slice none 0 0] := by kernel_rfl
theorem st23 : strOf Try.prog 23 = some [(22, 0)] := by kernel_rfl
theorem fl23_0 : fldOf Try.prog 23 0 = some (0, 22) := by kernel_rfl
theorem pl23 : plOf Try.prog 23 = some ([(0, 1)], [.slice none 0 0]) := by kernel_rfl
theorem sz24 : szOf Try.prog 24 = some 1 := by kernel_rfl
theorem co24 : Program.cellsOf Try.prog 24 = 1 := by kernel_rfl
theorem by24 : Program.bytesOf Try.prog 24 = 24 := by kernel_rfl
theorem ag24 : aggB Try.prog 24 = true := by kernel_rfl
theorem zv24 : wpO.zvOf Try.prog 24 = some [.slice none 0 0] := by kernel_rfl
theorem st24 : strOf Try.prog 24 = some [(22, 0)] := by kernel_rfl
theorem fl24_0 : fldOf Try.prog 24 0 = some (0, 22) := by kernel_rfl
theorem pl24 : plOf Try.prog 24 = some ([(0, 1)], [.slice none 0 0]) := by kernel_rfl
theorem sz25 : szOf Try.prog 25 = some 1 := by kernel_rfl
theorem co25 : Program.cellsOf Try.prog 25 = 1 := by kernel_rfl
theorem by25 : Program.bytesOf Try.prog 25 = 8 := by kernel_rfl
theorem ag25 : aggB Try.prog 25 = false := by kernel_rfl
theorem zv25 : wpO.zvOf Try.prog 25 = some [.nilFunc] := by kernel_rfl
theorem sz26 : szOf Try.prog 26 = some 1 := by kernel_rfl
theorem co26 : Program.cellsOf Try.prog 26 = 1 := by kernel_rfl
theorem by26 : Program.bytesOf Try.prog 26 = 8 := by kernel_rfl
theorem ag26 : aggB Try.prog 26 = false := by kernel_rfl
theorem zv26 : wpO.zvOf Try.prog 26 = some [.nilFunc] := by kernel_rfl
theorem sz27 : szOf Try.prog 27 = some 1 := by kernel_rfl
theorem co27 : Program.cellsOf Try.prog 27 = 1 := by kernel_rfl
theorem by27 : Program.bytesOf Try.prog 27 = 8 := by kernel_rfl
theorem ag27 : aggB Try.prog 27 = false := by kernel_rfl
theorem zv27 : wpO.zvOf Try.prog 27 = some [.nilFunc] := by kernel_rfl
theorem sz28 : szOf Try.prog 28 = some 1 := by kernel_rfl
theorem co28 : Program.cellsOf Try.prog 28 = 1 := by kernel_rfl
theorem by28 : Program.bytesOf Try.prog 28 = 8 := by kernel_rfl
theorem ag28 : aggB Try.prog 28 = false := by kernel_rfl
theorem zv28 : wpO.zvOf Try.prog 28 = some [.nilFunc] := by kernel_rfl
theorem sz29 : szOf Try.prog 29 = some 1 := by kernel_rfl
theorem co29 : Program.cellsOf Try.prog 29 = 1 := by kernel_rfl
theorem by29 : Program.bytesOf Try.prog 29 = 8 := by kernel_rfl
theorem ag29 : aggB Try.prog 29 = false := by kernel_rfl
theorem zv29 : wpO.zvOf Try.prog 29 = some [.nilFunc] := by kernel_rfl
theorem sz30 : szOf Try.prog 30 = some 1 := by kernel_rfl
theorem co30 : Program.cellsOf Try.prog 30 = 1 := by kernel_rfl
theorem by30 : Program.bytesOf Try.prog 30 = 8 := by kernel_rfl
theorem ag30 : aggB Try.prog 30 = false := by kernel_rfl
theorem zv30 : wpO.zvOf Try.prog 30 = some [.nilFunc] := by kernel_rfl
theorem sz31 : szOf Try.prog 31 = some 1 := by kernel_rfl
theorem co31 : Program.cellsOf Try.prog 31 = 1 := by kernel_rfl
theorem by31 : Program.bytesOf Try.prog 31 = 24 := by kernel_rfl
theorem ag31 : aggB Try.prog 31 = false := by kernel_rfl
theorem zv31 : wpO.zvOf Try.prog 31 = some [.slice none 0 0] := by kernel_rfl
theorem sb31 : slB Try.prog 31 = true := by kernel_rfl
theorem un31 : Try.prog.underlying 31 = some (.slice 153) := by kernel_rfl
theorem el31 : elOf Try.prog 31 = some (153, 1) := by kernel_rfl
theorem ap31 : apOf Try.prog 31 = some (153, 1, 24, [.slice none 0 0]) := by kernel_rfl
theorem sz32 : szOf Try.prog 32 = some 1 := by kernel_rfl
theorem co32 : Program.cellsOf Try.prog 32 = 1 := by kernel_rfl
theorem by32 : Program.bytesOf Try.prog 32 = 8 := by kernel_rfl
theorem ag32 : aggB Try.prog 32 = false := by kernel_rfl
theorem zv32 : wpO.zvOf Try.prog 32 = some [.nilFunc] := by kernel_rfl
theorem sz33 : szOf Try.prog 33 = some 1 := by kernel_rfl
theorem co33 : Program.cellsOf Try.prog 33 = 1 := by kernel_rfl
theorem by33 : Program.bytesOf Try.prog 33 = 8 := by kernel_rfl
theorem ag33 : aggB Try.prog 33 = false := by kernel_rfl
theorem zv33 : wpO.zvOf Try.prog 33 = some [.nilFunc] := by kernel_rfl
theorem sz34 : szOf Try.prog 34 = some 1 := by kernel_rfl
theorem co34 : Program.cellsOf Try.prog 34 = 1 := by kernel_rfl
theorem by34 : Program.bytesOf Try.prog 34 = 8 := by kernel_rfl
theorem ag34 : aggB Try.prog 34 = false := by kernel_rfl
theorem zv34 : wpO.zvOf Try.prog 34 = some [.nilFunc] := by kernel_rfl
theorem sz35 : szOf Try.prog 35 = some 1 := by kernel_rfl
theorem co35 : Program.cellsOf Try.prog 35 = 1 := by kernel_rfl
theorem by35 : Program.bytesOf Try.prog 35 = 24 := by kernel_rfl
theorem ag35 : aggB Try.prog 35 = false := by kernel_rfl
theorem zv35 : wpO.zvOf Try.prog 35 = some [.slice none 0 0] := by kernel_rfl
theorem sb35 : slB Try.prog 35 = true := by kernel_rfl
theorem un35 : Try.prog.underlying 35 = some (.slice 261) := by kernel_rfl
theorem el35 : elOf Try.prog 35 = some (261, 2) := by kernel_rfl
theorem ap35 : apOf Try.prog 35 = some (261, 2, 32, [.int .i64 0, .slice none 0 0]) := by kernel_rfl
theorem sz36 : szOf Try.prog 36 = some 1 := by kernel_rfl
theorem co36 : Program.cellsOf Try.prog 36 = 1 := by kernel_rfl
theorem by36 : Program.bytesOf Try.prog 36 = 24 := by kernel_rfl
theorem ag36 : aggB Try.prog 36 = true := by kernel_rfl
theorem zv36 : wpO.zvOf Try.prog 36 = some [.slice none 0 0] := by kernel_rfl
theorem st36 : strOf Try.prog 36 = some [(35, 0)] := by kernel_rfl
theorem fl36_0 : fldOf Try.prog 36 0 = some (0, 35) := by kernel_rfl
theorem pl36 : plOf Try.prog 36 = some ([(0, 1)], [.slice none 0 0]) := by kernel_rfl
theorem sz37 : szOf Try.prog 37 = some 1 := by kernel_rfl
theorem co37 : Program.cellsOf Try.prog 37 = 1 := by kernel_rfl
theorem by37 : Program.bytesOf Try.prog 37 = 24 := by kernel_rfl
theorem ag37 : aggB Try.prog 37 = true := by kernel_rfl
theorem zv37 : wpO.zvOf Try.prog 37 = some [.slice none 0 0] := by kernel_rfl
theorem st37 : strOf Try.prog 37 = some [(35, 0)] := by kernel_rfl
theorem fl37_0 : fldOf Try.prog 37 0 = some (0, 35) := by kernel_rfl
theorem pl37 : plOf Try.prog 37 = some ([(0, 1)], [.slice none 0 0]) := by kernel_rfl
theorem sz38 : szOf Try.prog 38 = some 1 := by kernel_rfl
theorem co38 : Program.cellsOf Try.prog 38 = 1 := by kernel_rfl
theorem by38 : Program.bytesOf Try.prog 38 = 24 := by kernel_rfl
theorem ag38 : aggB Try.prog 38 = false := by kernel_rfl
theorem zv38 : wpO.zvOf Try.prog 38 = some [.slice none 0 0] := by kernel_rfl
theorem sb38 : slB Try.prog 38 = true := by kernel_rfl
theorem un38 : Try.prog.underlying 38 = some (.slice 9) := by kernel_rfl
theorem el38 : elOf Try.prog 38 = some (9, 1) := by kernel_rfl
theorem ap38 : apOf Try.prog 38 = some (9, 1, 16, [.string ⟨#[]⟩]) := by kernel_rfl
theorem sz39 : szOf Try.prog 39 = some 1 := by kernel_rfl
theorem co39 : Program.cellsOf Try.prog 39 = 1 := by kernel_rfl
theorem by39 : Program.bytesOf Try.prog 39 = 8 := by kernel_rfl
theorem ag39 : aggB Try.prog 39 = false := by kernel_rfl
theorem zv39 : wpO.zvOf Try.prog 39 = some [.nilFunc] := by kernel_rfl
theorem sz40 : szOf Try.prog 40 = some 1 := by kernel_rfl
theorem co40 : Program.cellsOf Try.prog 40 = 1 := by kernel_rfl
theorem by40 : Program.bytesOf Try.prog 40 = 8 := by kernel_rfl
theorem ag40 : aggB Try.prog 40 = false := by kernel_rfl
theorem zv40 : wpO.zvOf Try.prog 40 = some [.nilFunc] := by kernel_rfl
theorem sz41 : szOf Try.prog 41 = some 1 := by kernel_rfl
theorem co41 : Program.cellsOf Try.prog 41 = 1 := by kernel_rfl
theorem by41 : Program.bytesOf Try.prog 41 = 8 := by kernel_rfl
theorem ag41 : aggB Try.prog 41 = false := by kernel_rfl
theorem zv41 : wpO.zvOf Try.prog 41 = some [.nilFunc] := by kernel_rfl
theorem sz42 : szOf Try.prog 42 = some 1 := by kernel_rfl
theorem co42 : Program.cellsOf Try.prog 42 = 1 := by kernel_rfl
theorem by42 : Program.bytesOf Try.prog 42 = 8 := by kernel_rfl
theorem ag42 : aggB Try.prog 42 = false := by kernel_rfl
theorem zv42 : wpO.zvOf Try.prog 42 = some [.nilFunc] := by kernel_rfl
theorem sz43 : szOf Try.prog 43 = some 1 := by kernel_rfl
theorem co43 : Program.cellsOf Try.prog 43 = 1 := by kernel_rfl
theorem by43 : Program.bytesOf Try.prog 43 = 8 := by kernel_rfl
theorem ag43 : aggB Try.prog 43 = false := by kernel_rfl
theorem zv43 : wpO.zvOf Try.prog 43 = some [.nilFunc] := by kernel_rfl
theorem sz44 : szOf Try.prog 44 = some 1 := by kernel_rfl
theorem co44 : Program.cellsOf Try.prog 44 = 1 := by kernel_rfl
theorem by44 : Program.bytesOf Try.prog 44 = 8 := by kernel_rfl
theorem ag44 : aggB Try.prog 44 = false := by kernel_rfl
theorem zv44 : wpO.zvOf Try.prog 44 = some [.nilFunc] := by kernel_rfl
theorem sz45 : szOf Try.prog 45 = some 1 := by kernel_rfl
theorem co45 : Program.cellsOf Try.prog 45 = 1 := by kernel_rfl
theorem by45 : Program.bytesOf Try.prog 45 = 8 := by kernel_rfl
theorem ag45 : aggB Try.prog 45 = false := by kernel_rfl
theorem zv45 : wpO.zvOf Try.prog 45 = some [.nilFunc] := by kernel_rfl
theorem sz46 : szOf Try.prog 46 = some 1 := by kernel_rfl
theorem co46 : Program.cellsOf Try.prog 46 = 1 := by kernel_rfl
theorem by46 : Program.bytesOf Try.prog 46 = 24 := by kernel_rfl
theorem ag46 : aggB Try.prog 46 = false := by kernel_rfl
theorem zv46 : wpO.zvOf Try.prog 46 = some [.slice none 0 0] := by kernel_rfl
theorem sb46 : slB Try.prog 46 = true := by kernel_rfl
theorem un46 : Try.prog.underlying 46 = some (.slice 268) := by kernel_rfl
theorem el46 : elOf Try.prog 46 = some (268, 2) := by kernel_rfl
theorem ap46 : apOf Try.prog 46 = some (268, 2, 40, [.string ⟨#[]⟩, .slice none 0 0]) := by kernel_rfl
theorem sz47 : szOf Try.prog 47 = some 1 := by kernel_rfl
theorem co47 : Program.cellsOf Try.prog 47 = 1 := by kernel_rfl
theorem by47 : Program.bytesOf Try.prog 47 = 24 := by kernel_rfl
theorem ag47 : aggB Try.prog 47 = true := by kernel_rfl
theorem zv47 : wpO.zvOf Try.prog 47 = some [.slice none 0 0] := by kernel_rfl
theorem st47 : strOf Try.prog 47 = some [(46, 0)] := by kernel_rfl
theorem fl47_0 : fldOf Try.prog 47 0 = some (0, 46) := by kernel_rfl
theorem pl47 : plOf Try.prog 47 = some ([(0, 1)], [.slice none 0 0]) := by kernel_rfl
theorem sz48 : szOf Try.prog 48 = some 1 := by kernel_rfl
theorem co48 : Program.cellsOf Try.prog 48 = 1 := by kernel_rfl
theorem by48 : Program.bytesOf Try.prog 48 = 24 := by kernel_rfl
theorem ag48 : aggB Try.prog 48 = true := by kernel_rfl
theorem zv48 : wpO.zvOf Try.prog 48 = some [.slice none 0 0] := by kernel_rfl
theorem st48 : strOf Try.prog 48 = some [(46, 0)] := by kernel_rfl
theorem fl48_0 : fldOf Try.prog 48 0 = some (0, 46) := by kernel_rfl
theorem pl48 : plOf Try.prog 48 = some ([(0, 1)], [.slice none 0 0]) := by kernel_rfl
theorem sz49 : szOf Try.prog 49 = some 2 := by kernel_rfl
theorem co49 : Program.cellsOf Try.prog 49 = 2 := by kernel_rfl
theorem by49 : Program.bytesOf Try.prog 49 = 32 := by kernel_rfl
theorem ag49 : aggB Try.prog 49 = true := by kernel_rfl
theorem zv49 : wpO.zvOf Try.prog 49 = some [.string ⟨#[]⟩, .string ⟨#[]⟩] := by kernel_rfl
theorem st49 : strOf Try.prog 49 = some [(9, 0), (9, 1)] := by kernel_rfl
theorem fl49_0 : fldOf Try.prog 49 0 = some (0, 9) := by kernel_rfl
theorem fl49_1 : fldOf Try.prog 49 1 = some (1, 9) := by kernel_rfl
theorem pl49 : plOf Try.prog 49 = some ([(0, 1), (1, 1)], [.string ⟨#[]⟩, .string ⟨#[]⟩]) := by kernel_rfl
theorem sz50 : szOf Try.prog 50 = some 2 := by kernel_rfl
theorem co50 : Program.cellsOf Try.prog 50 = 2 := by kernel_rfl
theorem by50 : Program.bytesOf Try.prog 50 = 32 := by kernel_rfl
theorem ag50 : aggB Try.prog 50 = true := by kernel_rfl
theorem zv50 : wpO.zvOf Try.prog 50 = some [.string ⟨#[]⟩, .string ⟨#[]⟩] := by kernel_rfl
theorem st50 : strOf Try.prog 50 = some [(9, 0), (9, 1)] := by kernel_rfl
theorem fl50_0 : fldOf Try.prog 50 0 = some (0, 9) := by kernel_rfl
theorem fl50_1 : fldOf Try.prog 50 1 = some (1, 9) := by kernel_rfl
theorem pl50 : plOf Try.prog 50 = some ([(0, 1), (1, 1)], [.string ⟨#[]⟩, .string ⟨#[]⟩]) := by kernel_rfl
theorem sz51 : szOf Try.prog 51 = some 1 := by kernel_rfl
theorem co51 : Program.cellsOf Try.prog 51 = 1 := by kernel_rfl
theorem by51 : Program.bytesOf Try.prog 51 = 8 := by kernel_rfl
theorem ag51 : aggB Try.prog 51 = false := by kernel_rfl
theorem zv51 : wpO.zvOf Try.prog 51 = some [.nilFunc] := by kernel_rfl
theorem sz52 : szOf Try.prog 52 = some 1 := by kernel_rfl
theorem co52 : Program.cellsOf Try.prog 52 = 1 := by kernel_rfl
theorem by52 : Program.bytesOf Try.prog 52 = 8 := by kernel_rfl
theorem ag52 : aggB Try.prog 52 = false := by kernel_rfl
theorem zv52 : wpO.zvOf Try.prog 52 = some [.nilFunc] := by kernel_rfl
theorem sz53 : szOf Try.prog 53 = some 1 := by kernel_rfl
theorem co53 : Program.cellsOf Try.prog 53 = 1 := by kernel_rfl
theorem by53 : Program.bytesOf Try.prog 53 = 8 := by kernel_rfl
theorem ag53 : aggB Try.prog 53 = false := by kernel_rfl
theorem zv53 : wpO.zvOf Try.prog 53 = some [.nilFunc] := by kernel_rfl
theorem sz54 : szOf Try.prog 54 = some 1 := by kernel_rfl
theorem co54 : Program.cellsOf Try.prog 54 = 1 := by kernel_rfl
theorem by54 : Program.bytesOf Try.prog 54 = 24 := by kernel_rfl
theorem ag54 : aggB Try.prog 54 = false := by kernel_rfl
theorem zv54 : wpO.zvOf Try.prog 54 = some [.slice none 0 0] := by kernel_rfl
theorem sb54 : slB Try.prog 54 = true := by kernel_rfl
theorem un54 : Try.prog.underlying 54 = some (.slice 251) := by kernel_rfl
theorem el54 : elOf Try.prog 54 = some (251, 2) := by kernel_rfl
theorem ap54 : apOf Try.prog 54 = some (251, 2, 40, [.string ⟨#[]⟩, .slice none 0 0]) := by kernel_rfl
theorem sz55 : szOf Try.prog 55 = some 1 := by kernel_rfl
theorem co55 : Program.cellsOf Try.prog 55 = 1 := by kernel_rfl
theorem by55 : Program.bytesOf Try.prog 55 = 24 := by kernel_rfl
theorem ag55 : aggB Try.prog 55 = true := by kernel_rfl
theorem zv55 : wpO.zvOf Try.prog 55 = some [.slice none 0 0] := by kernel_rfl
theorem st55 : strOf Try.prog 55 = some [(54, 0)] := by kernel_rfl
theorem fl55_0 : fldOf Try.prog 55 0 = some (0, 54) := by kernel_rfl
theorem pl55 : plOf Try.prog 55 = some ([(0, 1)], [.slice none 0 0]) := by kernel_rfl
theorem sz56 : szOf Try.prog 56 = some 1 := by kernel_rfl
theorem co56 : Program.cellsOf Try.prog 56 = 1 := by kernel_rfl
theorem by56 : Program.bytesOf Try.prog 56 = 24 := by kernel_rfl
theorem ag56 : aggB Try.prog 56 = true := by kernel_rfl
theorem zv56 : wpO.zvOf Try.prog 56 = some [.slice none 0 0] := by kernel_rfl
theorem st56 : strOf Try.prog 56 = some [(54, 0)] := by kernel_rfl
theorem fl56_0 : fldOf Try.prog 56 0 = some (0, 54) := by kernel_rfl
theorem pl56 : plOf Try.prog 56 = some ([(0, 1)], [.slice none 0 0]) := by kernel_rfl
theorem sz57 : szOf Try.prog 57 = some 1 := by kernel_rfl
theorem co57 : Program.cellsOf Try.prog 57 = 1 := by kernel_rfl
theorem by57 : Program.bytesOf Try.prog 57 = 8 := by kernel_rfl
theorem ag57 : aggB Try.prog 57 = false := by kernel_rfl
theorem zv57 : wpO.zvOf Try.prog 57 = some [.nilFunc] := by kernel_rfl
theorem sz58 : szOf Try.prog 58 = some 2 := by kernel_rfl
theorem co58 : Program.cellsOf Try.prog 58 = 2 := by kernel_rfl
theorem by58 : Program.bytesOf Try.prog 58 = 32 := by kernel_rfl
theorem ag58 : aggB Try.prog 58 = true := by kernel_rfl
theorem zv58 : wpO.zvOf Try.prog 58 = some [.string ⟨#[]⟩, .string ⟨#[]⟩] := by kernel_rfl
theorem st58 : strOf Try.prog 58 = some [(9, 0), (9, 1)] := by kernel_rfl
theorem fl58_0 : fldOf Try.prog 58 0 = some (0, 9) := by kernel_rfl
theorem fl58_1 : fldOf Try.prog 58 1 = some (1, 9) := by kernel_rfl
theorem pl58 : plOf Try.prog 58 = some ([(0, 1), (1, 1)], [.string ⟨#[]⟩, .string ⟨#[]⟩]) := by kernel_rfl
theorem sz59 : szOf Try.prog 59 = some 1 := by kernel_rfl
theorem co59 : Program.cellsOf Try.prog 59 = 1 := by kernel_rfl
theorem by59 : Program.bytesOf Try.prog 59 = 8 := by kernel_rfl
theorem ag59 : aggB Try.prog 59 = false := by kernel_rfl
theorem zv59 : wpO.zvOf Try.prog 59 = some [.nilFunc] := by kernel_rfl
theorem sz60 : szOf Try.prog 60 = some 1 := by kernel_rfl
theorem co60 : Program.cellsOf Try.prog 60 = 1 := by kernel_rfl
theorem by60 : Program.bytesOf Try.prog 60 = 8 := by kernel_rfl
theorem ag60 : aggB Try.prog 60 = false := by kernel_rfl
theorem zv60 : wpO.zvOf Try.prog 60 = some [.nilFunc] := by kernel_rfl
theorem sz61 : szOf Try.prog 61 = some 1 := by kernel_rfl
theorem co61 : Program.cellsOf Try.prog 61 = 1 := by kernel_rfl
theorem by61 : Program.bytesOf Try.prog 61 = 8 := by kernel_rfl
theorem ag61 : aggB Try.prog 61 = false := by kernel_rfl
theorem zv61 : wpO.zvOf Try.prog 61 = some [.nilFunc] := by kernel_rfl
theorem sz62 : szOf Try.prog 62 = some 1 := by kernel_rfl
theorem co62 : Program.cellsOf Try.prog 62 = 1 := by kernel_rfl
theorem by62 : Program.bytesOf Try.prog 62 = 24 := by kernel_rfl
theorem ag62 : aggB Try.prog 62 = false := by kernel_rfl
theorem zv62 : wpO.zvOf Try.prog 62 = some [.slice none 0 0] := by kernel_rfl
theorem sb62 : slB Try.prog 62 = true := by kernel_rfl
theorem un62 : Try.prog.underlying 62 = some (.slice 64) := by kernel_rfl
theorem el62 : elOf Try.prog 62 = some (64, 3) := by kernel_rfl
theorem ap62 : apOf Try.prog 62 = some (64, 3, 56, [.int .i64 0, .slice none 0 0, .slice none 0 0]) := by kernel_rfl
theorem sz63 : szOf Try.prog 63 = some 3 := by kernel_rfl
theorem co63 : Program.cellsOf Try.prog 63 = 3 := by kernel_rfl
theorem by63 : Program.bytesOf Try.prog 63 = 56 := by kernel_rfl
theorem ag63 : aggB Try.prog 63 = true := by kernel_rfl
theorem zv63 : wpO.zvOf Try.prog 63 = some [.int .i64 0, .slice none 0 0, .slice none 0 0] := by kernel_rfl
theorem st63 : strOf Try.prog 63 = some [(3, 0), (38, 1), (62, 2)] := by kernel_rfl
theorem fl63_0 : fldOf Try.prog 63 0 = some (0, 3) := by kernel_rfl
theorem fl63_1 : fldOf Try.prog 63 1 = some (1, 38) := by kernel_rfl
theorem fl63_2 : fldOf Try.prog 63 2 = some (2, 62) := by kernel_rfl
theorem pl63 : plOf Try.prog 63 = some ([(0, 1), (1, 1), (2, 1)], [.int .i64 0, .slice none 0 0, .slice none 0 0]) := by kernel_rfl
theorem sz64 : szOf Try.prog 64 = some 3 := by kernel_rfl
theorem co64 : Program.cellsOf Try.prog 64 = 3 := by kernel_rfl
theorem by64 : Program.bytesOf Try.prog 64 = 56 := by kernel_rfl
theorem ag64 : aggB Try.prog 64 = true := by kernel_rfl
theorem zv64 : wpO.zvOf Try.prog 64 = some [.int .i64 0, .slice none 0 0, .slice none 0 0] := by kernel_rfl
theorem st64 : strOf Try.prog 64 = some [(3, 0), (38, 1), (62, 2)] := by kernel_rfl
theorem fl64_0 : fldOf Try.prog 64 0 = some (0, 3) := by kernel_rfl
theorem fl64_1 : fldOf Try.prog 64 1 = some (1, 38) := by kernel_rfl
theorem fl64_2 : fldOf Try.prog 64 2 = some (2, 62) := by kernel_rfl
theorem pl64 : plOf Try.prog 64 = some ([(0, 1), (1, 1), (2, 1)], [.int .i64 0, .slice none 0 0, .slice none 0 0]) := by kernel_rfl
theorem sz65 : szOf Try.prog 65 = some 1 := by kernel_rfl
theorem co65 : Program.cellsOf Try.prog 65 = 1 := by kernel_rfl
theorem by65 : Program.bytesOf Try.prog 65 = 24 := by kernel_rfl
theorem ag65 : aggB Try.prog 65 = false := by kernel_rfl
theorem zv65 : wpO.zvOf Try.prog 65 = some [.slice none 0 0] := by kernel_rfl
theorem sb65 : slB Try.prog 65 = true := by kernel_rfl
theorem un65 : Try.prog.underlying 65 = some (.slice 67) := by kernel_rfl
theorem el65 : elOf Try.prog 65 = some (67, 8) := by kernel_rfl
theorem ap65 : apOf Try.prog 65 = some (67, 8, 136, [.int .i64 0, .string ⟨#[]⟩, .int .i64 0, .int .i64 0, .slice none 0 0, .slice none 0 0, .slice none 0 0, .slice none 0 0]) := by kernel_rfl
theorem sz66 : szOf Try.prog 66 = some 8 := by kernel_rfl
theorem co66 : Program.cellsOf Try.prog 66 = 8 := by kernel_rfl
theorem by66 : Program.bytesOf Try.prog 66 = 136 := by kernel_rfl
theorem ag66 : aggB Try.prog 66 = true := by kernel_rfl
theorem zv66 : wpO.zvOf Try.prog 66 = some [.int .i64 0, .string ⟨#[]⟩, .int .i64 0, .int .i64 0, .slice none 0 0, .slice none 0 0, .slice none 0 0, .slice none 0 0] := by kernel_rfl
theorem st66 : strOf Try.prog 66 = some [(3, 0), (9, 1), (3, 2), (64, 3), (38, 6), (65, 7)] := by kernel_rfl
theorem fl66_0 : fldOf Try.prog 66 0 = some (0, 3) := by kernel_rfl
theorem fl66_1 : fldOf Try.prog 66 1 = some (1, 9) := by kernel_rfl
theorem fl66_2 : fldOf Try.prog 66 2 = some (2, 3) := by kernel_rfl
theorem fl66_3 : fldOf Try.prog 66 3 = some (3, 64) := by kernel_rfl
theorem fl66_4 : fldOf Try.prog 66 4 = some (6, 38) := by kernel_rfl
theorem fl66_5 : fldOf Try.prog 66 5 = some (7, 65) := by kernel_rfl
theorem pl66 : plOf Try.prog 66 = some ([(0, 1), (1, 1), (2, 1), (3, 3), (6, 1), (7, 1)], [.int .i64 0, .string ⟨#[]⟩, .int .i64 0, .int .i64 0, .slice none 0 0, .slice none 0 0, .slice none 0 0, .slice none 0 0]) := by kernel_rfl
theorem sz67 : szOf Try.prog 67 = some 8 := by kernel_rfl
theorem co67 : Program.cellsOf Try.prog 67 = 8 := by kernel_rfl
theorem by67 : Program.bytesOf Try.prog 67 = 136 := by kernel_rfl
theorem ag67 : aggB Try.prog 67 = true := by kernel_rfl
theorem zv67 : wpO.zvOf Try.prog 67 = some [.int .i64 0, .string ⟨#[]⟩, .int .i64 0, .int .i64 0, .slice none 0 0, .slice none 0 0, .slice none 0 0, .slice none 0 0] := by kernel_rfl
theorem st67 : strOf Try.prog 67 = some [(3, 0), (9, 1), (3, 2), (64, 3), (38, 6), (65, 7)] := by kernel_rfl
theorem fl67_0 : fldOf Try.prog 67 0 = some (0, 3) := by kernel_rfl
theorem fl67_1 : fldOf Try.prog 67 1 = some (1, 9) := by kernel_rfl
theorem fl67_2 : fldOf Try.prog 67 2 = some (2, 3) := by kernel_rfl
theorem fl67_3 : fldOf Try.prog 67 3 = some (3, 64) := by kernel_rfl
theorem fl67_4 : fldOf Try.prog 67 4 = some (6, 38) := by kernel_rfl
theorem fl67_5 : fldOf Try.prog 67 5 = some (7, 65) := by kernel_rfl
theorem pl67 : plOf Try.prog 67 = some ([(0, 1), (1, 1), (2, 1), (3, 3), (6, 1), (7, 1)], [.int .i64 0, .string ⟨#[]⟩, .int .i64 0, .int .i64 0, .slice none 0 0, .slice none 0 0, .slice none 0 0, .slice none 0 0]) := by kernel_rfl
theorem sz68 : szOf Try.prog 68 = some 11 := by kernel_rfl
theorem co68 : Program.cellsOf Try.prog 68 = 11 := by kernel_rfl
theorem by68 : Program.bytesOf Try.prog 68 = 192 := by kernel_rfl
theorem ag68 : aggB Try.prog 68 = true := by kernel_rfl
theorem zv68 : wpO.zvOf Try.prog 68 = some [.string ⟨#[]⟩, .int .i64 0, .string ⟨#[]⟩, .int .i64 0, .int .i64 0, .slice none 0 0, .slice none 0 0, .slice none 0 0, .slice none 0 0, .slice none 0 0, .string ⟨#[]⟩] := by kernel_rfl
theorem st68 : strOf Try.prog 68 = some [(9, 0), (67, 1), (38, 9), (9, 10)] := by kernel_rfl
theorem fl68_0 : fldOf Try.prog 68 0 = some (0, 9) := by kernel_rfl
theorem fl68_1 : fldOf Try.prog 68 1 = some (1, 67) := by kernel_rfl
theorem fl68_2 : fldOf Try.prog 68 2 = some (9, 38) := by kernel_rfl
theorem fl68_3 : fldOf Try.prog 68 3 = some (10, 9) := by kernel_rfl
theorem pl68 : plOf Try.prog 68 = some ([(0, 1), (1, 8), (9, 1), (10, 1)], [.string ⟨#[]⟩, .int .i64 0, .string ⟨#[]⟩, .int .i64 0, .int .i64 0, .slice none 0 0, .slice none 0 0, .slice none 0 0, .slice none 0 0, .slice none 0 0, .string ⟨#[]⟩]) := by kernel_rfl
theorem sz69 : szOf Try.prog 69 = some 11 := by kernel_rfl
theorem co69 : Program.cellsOf Try.prog 69 = 11 := by kernel_rfl
theorem by69 : Program.bytesOf Try.prog 69 = 192 := by kernel_rfl
theorem ag69 : aggB Try.prog 69 = true := by kernel_rfl
theorem zv69 : wpO.zvOf Try.prog 69 = some [.string ⟨#[]⟩, .int .i64 0, .string ⟨#[]⟩, .int .i64 0, .int .i64 0, .slice none 0 0, .slice none 0 0, .slice none 0 0, .slice none 0 0, .slice none 0 0, .string ⟨#[]⟩] := by kernel_rfl
theorem st69 : strOf Try.prog 69 = some [(9, 0), (67, 1), (38, 9), (9, 10)] := by kernel_rfl
theorem fl69_0 : fldOf Try.prog 69 0 = some (0, 9) := by kernel_rfl
theorem fl69_1 : fldOf Try.prog 69 1 = some (1, 67) := by kernel_rfl
theorem fl69_2 : fldOf Try.prog 69 2 = some (9, 38) := by kernel_rfl
theorem fl69_3 : fldOf Try.prog 69 3 = some (10, 9) := by kernel_rfl
theorem pl69 : plOf Try.prog 69 = some ([(0, 1), (1, 8), (9, 1), (10, 1)], [.string ⟨#[]⟩, .int .i64 0, .string ⟨#[]⟩, .int .i64 0, .int .i64 0, .slice none 0 0, .slice none 0 0, .slice none 0 0, .slice none 0 0, .slice none 0 0, .string ⟨#[]⟩]) := by kernel_rfl
theorem sz70 : szOf Try.prog 70 = some 1 := by kernel_rfl
theorem co70 : Program.cellsOf Try.prog 70 = 1 := by kernel_rfl
theorem by70 : Program.bytesOf Try.prog 70 = 8 := by kernel_rfl
theorem ag70 : aggB Try.prog 70 = false := by kernel_rfl
theorem zv70 : wpO.zvOf Try.prog 70 = some [.nilFunc] := by kernel_rfl
theorem sz71 : szOf Try.prog 71 = some 1 := by kernel_rfl
theorem co71 : Program.cellsOf Try.prog 71 = 1 := by kernel_rfl
theorem by71 : Program.bytesOf Try.prog 71 = 8 := by kernel_rfl
theorem ag71 : aggB Try.prog 71 = false := by kernel_rfl
theorem zv71 : wpO.zvOf Try.prog 71 = some [.nilFunc] := by kernel_rfl
theorem sz72 : szOf Try.prog 72 = some 1 := by kernel_rfl
theorem co72 : Program.cellsOf Try.prog 72 = 1 := by kernel_rfl
theorem by72 : Program.bytesOf Try.prog 72 = 24 := by kernel_rfl
theorem ag72 : aggB Try.prog 72 = false := by kernel_rfl
theorem zv72 : wpO.zvOf Try.prog 72 = some [.slice none 0 0] := by kernel_rfl
theorem sb72 : slB Try.prog 72 = true := by kernel_rfl
theorem un72 : Try.prog.underlying 72 = some (.slice 74) := by kernel_rfl
theorem el72 : elOf Try.prog 72 = some (74, 3) := by kernel_rfl
theorem ap72 : apOf Try.prog 72 = some (74, 3, 56, [.int .i64 0, .slice none 0 0, .slice none 0 0]) := by kernel_rfl
theorem sz73 : szOf Try.prog 73 = some 3 := by kernel_rfl
theorem co73 : Program.cellsOf Try.prog 73 = 3 := by kernel_rfl
theorem by73 : Program.bytesOf Try.prog 73 = 56 := by kernel_rfl
theorem ag73 : aggB Try.prog 73 = true := by kernel_rfl
theorem zv73 : wpO.zvOf Try.prog 73 = some [.int .i64 0, .slice none 0 0, .slice none 0 0] := by kernel_rfl
theorem st73 : strOf Try.prog 73 = some [(3, 0), (38, 1), (72, 2)] := by kernel_rfl
theorem fl73_0 : fldOf Try.prog 73 0 = some (0, 3) := by kernel_rfl
theorem fl73_1 : fldOf Try.prog 73 1 = some (1, 38) := by kernel_rfl
theorem fl73_2 : fldOf Try.prog 73 2 = some (2, 72) := by kernel_rfl
theorem pl73 : plOf Try.prog 73 = some ([(0, 1), (1, 1), (2, 1)], [.int .i64 0, .slice none 0 0, .slice none 0 0]) := by kernel_rfl
theorem sz74 : szOf Try.prog 74 = some 3 := by kernel_rfl
theorem co74 : Program.cellsOf Try.prog 74 = 3 := by kernel_rfl
theorem by74 : Program.bytesOf Try.prog 74 = 56 := by kernel_rfl
theorem ag74 : aggB Try.prog 74 = true := by kernel_rfl
theorem zv74 : wpO.zvOf Try.prog 74 = some [.int .i64 0, .slice none 0 0, .slice none 0 0] := by kernel_rfl
theorem st74 : strOf Try.prog 74 = some [(3, 0), (38, 1), (72, 2)] := by kernel_rfl
theorem fl74_0 : fldOf Try.prog 74 0 = some (0, 3) := by kernel_rfl
theorem fl74_1 : fldOf Try.prog 74 1 = some (1, 38) := by kernel_rfl
theorem fl74_2 : fldOf Try.prog 74 2 = some (2, 72) := by kernel_rfl
theorem pl74 : plOf Try.prog 74 = some ([(0, 1), (1, 1), (2, 1)], [.int .i64 0, .slice none 0 0, .slice none 0 0]) := by kernel_rfl
theorem sz75 : szOf Try.prog 75 = some 1 := by kernel_rfl
theorem co75 : Program.cellsOf Try.prog 75 = 1 := by kernel_rfl
theorem by75 : Program.bytesOf Try.prog 75 = 24 := by kernel_rfl
theorem ag75 : aggB Try.prog 75 = false := by kernel_rfl
theorem zv75 : wpO.zvOf Try.prog 75 = some [.slice none 0 0] := by kernel_rfl
theorem sb75 : slB Try.prog 75 = true := by kernel_rfl
theorem un75 : Try.prog.underlying 75 = some (.slice 77) := by kernel_rfl
theorem el75 : elOf Try.prog 75 = some (77, 8) := by kernel_rfl
theorem ap75 : apOf Try.prog 75 = some (77, 8, 136, [.int .i64 0, .string ⟨#[]⟩, .int .i64 0, .int .i64 0, .slice none 0 0, .slice none 0 0, .slice none 0 0, .slice none 0 0]) := by kernel_rfl
theorem sz76 : szOf Try.prog 76 = some 8 := by kernel_rfl
theorem co76 : Program.cellsOf Try.prog 76 = 8 := by kernel_rfl
theorem by76 : Program.bytesOf Try.prog 76 = 136 := by kernel_rfl
theorem ag76 : aggB Try.prog 76 = true := by kernel_rfl
theorem zv76 : wpO.zvOf Try.prog 76 = some [.int .i64 0, .string ⟨#[]⟩, .int .i64 0, .int .i64 0, .slice none 0 0, .slice none 0 0, .slice none 0 0, .slice none 0 0] := by kernel_rfl
theorem st76 : strOf Try.prog 76 = some [(3, 0), (9, 1), (3, 2), (74, 3), (38, 6), (75, 7)] := by kernel_rfl
theorem fl76_0 : fldOf Try.prog 76 0 = some (0, 3) := by kernel_rfl
theorem fl76_1 : fldOf Try.prog 76 1 = some (1, 9) := by kernel_rfl
theorem fl76_2 : fldOf Try.prog 76 2 = some (2, 3) := by kernel_rfl
theorem fl76_3 : fldOf Try.prog 76 3 = some (3, 74) := by kernel_rfl
theorem fl76_4 : fldOf Try.prog 76 4 = some (6, 38) := by kernel_rfl
theorem fl76_5 : fldOf Try.prog 76 5 = some (7, 75) := by kernel_rfl
theorem pl76 : plOf Try.prog 76 = some ([(0, 1), (1, 1), (2, 1), (3, 3), (6, 1), (7, 1)], [.int .i64 0, .string ⟨#[]⟩, .int .i64 0, .int .i64 0, .slice none 0 0, .slice none 0 0, .slice none 0 0, .slice none 0 0]) := by kernel_rfl
theorem sz77 : szOf Try.prog 77 = some 8 := by kernel_rfl
theorem co77 : Program.cellsOf Try.prog 77 = 8 := by kernel_rfl
theorem by77 : Program.bytesOf Try.prog 77 = 136 := by kernel_rfl
theorem ag77 : aggB Try.prog 77 = true := by kernel_rfl
theorem zv77 : wpO.zvOf Try.prog 77 = some [.int .i64 0, .string ⟨#[]⟩, .int .i64 0, .int .i64 0, .slice none 0 0, .slice none 0 0, .slice none 0 0, .slice none 0 0] := by kernel_rfl
theorem st77 : strOf Try.prog 77 = some [(3, 0), (9, 1), (3, 2), (74, 3), (38, 6), (75, 7)] := by kernel_rfl
theorem fl77_0 : fldOf Try.prog 77 0 = some (0, 3) := by kernel_rfl
theorem fl77_1 : fldOf Try.prog 77 1 = some (1, 9) := by kernel_rfl
theorem fl77_2 : fldOf Try.prog 77 2 = some (2, 3) := by kernel_rfl
theorem fl77_3 : fldOf Try.prog 77 3 = some (3, 74) := by kernel_rfl
theorem fl77_4 : fldOf Try.prog 77 4 = some (6, 38) := by kernel_rfl
theorem fl77_5 : fldOf Try.prog 77 5 = some (7, 75) := by kernel_rfl
theorem pl77 : plOf Try.prog 77 = some ([(0, 1), (1, 1), (2, 1), (3, 3), (6, 1), (7, 1)], [.int .i64 0, .string ⟨#[]⟩, .int .i64 0, .int .i64 0, .slice none 0 0, .slice none 0 0, .slice none 0 0, .slice none 0 0]) := by kernel_rfl
theorem sz78 : szOf Try.prog 78 = some 11 := by kernel_rfl
theorem co78 : Program.cellsOf Try.prog 78 = 11 := by kernel_rfl
theorem by78 : Program.bytesOf Try.prog 78 = 192 := by kernel_rfl
theorem ag78 : aggB Try.prog 78 = true := by kernel_rfl
theorem zv78 : wpO.zvOf Try.prog 78 = some [.string ⟨#[]⟩, .int .i64 0, .string ⟨#[]⟩, .int .i64 0, .int .i64 0, .slice none 0 0, .slice none 0 0, .slice none 0 0, .slice none 0 0, .slice none 0 0, .string ⟨#[]⟩] := by kernel_rfl
theorem st78 : strOf Try.prog 78 = some [(9, 0), (77, 1), (38, 9), (9, 10)] := by kernel_rfl
theorem fl78_0 : fldOf Try.prog 78 0 = some (0, 9) := by kernel_rfl
theorem fl78_1 : fldOf Try.prog 78 1 = some (1, 77) := by kernel_rfl
theorem fl78_2 : fldOf Try.prog 78 2 = some (9, 38) := by kernel_rfl
theorem fl78_3 : fldOf Try.prog 78 3 = some (10, 9) := by kernel_rfl
theorem pl78 : plOf Try.prog 78 = some ([(0, 1), (1, 8), (9, 1), (10, 1)], [.string ⟨#[]⟩, .int .i64 0, .string ⟨#[]⟩, .int .i64 0, .int .i64 0, .slice none 0 0, .slice none 0 0, .slice none 0 0, .slice none 0 0, .slice none 0 0, .string ⟨#[]⟩]) := by kernel_rfl
theorem sz79 : szOf Try.prog 79 = some 11 := by kernel_rfl
theorem co79 : Program.cellsOf Try.prog 79 = 11 := by kernel_rfl
theorem by79 : Program.bytesOf Try.prog 79 = 192 := by kernel_rfl
theorem ag79 : aggB Try.prog 79 = true := by kernel_rfl
theorem zv79 : wpO.zvOf Try.prog 79 = some [.string ⟨#[]⟩, .int .i64 0, .string ⟨#[]⟩, .int .i64 0, .int .i64 0, .slice none 0 0, .slice none 0 0, .slice none 0 0, .slice none 0 0, .slice none 0 0, .string ⟨#[]⟩] := by kernel_rfl
theorem st79 : strOf Try.prog 79 = some [(9, 0), (77, 1), (38, 9), (9, 10)] := by kernel_rfl
theorem fl79_0 : fldOf Try.prog 79 0 = some (0, 9) := by kernel_rfl
theorem fl79_1 : fldOf Try.prog 79 1 = some (1, 77) := by kernel_rfl
theorem fl79_2 : fldOf Try.prog 79 2 = some (9, 38) := by kernel_rfl
theorem fl79_3 : fldOf Try.prog 79 3 = some (10, 9) := by kernel_rfl
theorem pl79 : plOf Try.prog 79 = some ([(0, 1), (1, 8), (9, 1), (10, 1)], [.string ⟨#[]⟩, .int .i64 0, .string ⟨#[]⟩, .int .i64 0, .int .i64 0, .slice none 0 0, .slice none 0 0, .slice none 0 0, .slice none 0 0, .slice none 0 0, .string ⟨#[]⟩]) := by kernel_rfl
theorem sz80 : szOf Try.prog 80 = some 1 := by kernel_rfl
theorem co80 : Program.cellsOf Try.prog 80 = 1 := by kernel_rfl
theorem by80 : Program.bytesOf Try.prog 80 = 8 := by kernel_rfl
theorem ag80 : aggB Try.prog 80 = false := by kernel_rfl
theorem zv80 : wpO.zvOf Try.prog 80 = some [.nilFunc] := by kernel_rfl
theorem sz81 : szOf Try.prog 81 = some 1 := by kernel_rfl
theorem co81 : Program.cellsOf Try.prog 81 = 1 := by kernel_rfl
theorem by81 : Program.bytesOf Try.prog 81 = 8 := by kernel_rfl
theorem ag81 : aggB Try.prog 81 = false := by kernel_rfl
theorem zv81 : wpO.zvOf Try.prog 81 = some [.nilFunc] := by kernel_rfl
theorem sz82 : szOf Try.prog 82 = some 1 := by kernel_rfl
theorem co82 : Program.cellsOf Try.prog 82 = 1 := by kernel_rfl
theorem by82 : Program.bytesOf Try.prog 82 = 24 := by kernel_rfl
theorem ag82 : aggB Try.prog 82 = false := by kernel_rfl
theorem zv82 : wpO.zvOf Try.prog 82 = some [.slice none 0 0] := by kernel_rfl
theorem sb82 : slB Try.prog 82 = true := by kernel_rfl
theorem un82 : Try.prog.underlying 82 = some (.slice 185) := by kernel_rfl
theorem el82 : elOf Try.prog 82 = some (185, 5) := by kernel_rfl
theorem ap82 : apOf Try.prog 82 = some (185, 5, 88, [.int .i64 0, .int .i64 0, .slice none 0 0, .slice none 0 0, .slice none 0 0]) := by kernel_rfl
theorem sz83 : szOf Try.prog 83 = some 1 := by kernel_rfl
theorem co83 : Program.cellsOf Try.prog 83 = 1 := by kernel_rfl
theorem by83 : Program.bytesOf Try.prog 83 = 8 := by kernel_rfl
theorem ag83 : aggB Try.prog 83 = false := by kernel_rfl
theorem zv83 : wpO.zvOf Try.prog 83 = some [.nilFunc] := by kernel_rfl
theorem sz84 : szOf Try.prog 84 = some 1 := by kernel_rfl
theorem co84 : Program.cellsOf Try.prog 84 = 1 := by kernel_rfl
theorem by84 : Program.bytesOf Try.prog 84 = 8 := by kernel_rfl
theorem ag84 : aggB Try.prog 84 = false := by kernel_rfl
theorem zv84 : wpO.zvOf Try.prog 84 = some [.nilFunc] := by kernel_rfl
theorem sz85 : szOf Try.prog 85 = some 1 := by kernel_rfl
theorem co85 : Program.cellsOf Try.prog 85 = 1 := by kernel_rfl
theorem by85 : Program.bytesOf Try.prog 85 = 24 := by kernel_rfl
theorem ag85 : aggB Try.prog 85 = false := by kernel_rfl
theorem zv85 : wpO.zvOf Try.prog 85 = some [.slice none 0 0] := by kernel_rfl
theorem sb85 : slB Try.prog 85 = true := by kernel_rfl
theorem un85 : Try.prog.underlying 85 = some (.slice 188) := by kernel_rfl
theorem el85 : elOf Try.prog 85 = some (188, 5) := by kernel_rfl
theorem ap85 : apOf Try.prog 85 = some (188, 5, 88, [.int .i64 0, .int .i64 0, .slice none 0 0, .slice none 0 0, .slice none 0 0]) := by kernel_rfl
theorem sz86 : szOf Try.prog 86 = some 1 := by kernel_rfl
theorem co86 : Program.cellsOf Try.prog 86 = 1 := by kernel_rfl
theorem by86 : Program.bytesOf Try.prog 86 = 8 := by kernel_rfl
theorem ag86 : aggB Try.prog 86 = false := by kernel_rfl
theorem zv86 : wpO.zvOf Try.prog 86 = some [.nilFunc] := by kernel_rfl
theorem sz87 : szOf Try.prog 87 = some 1 := by kernel_rfl
theorem co87 : Program.cellsOf Try.prog 87 = 1 := by kernel_rfl
theorem by87 : Program.bytesOf Try.prog 87 = 8 := by kernel_rfl
theorem ag87 : aggB Try.prog 87 = false := by kernel_rfl
theorem zv87 : wpO.zvOf Try.prog 87 = some [.nilFunc] := by kernel_rfl
theorem sz88 : szOf Try.prog 88 = some 1 := by kernel_rfl
theorem co88 : Program.cellsOf Try.prog 88 = 1 := by kernel_rfl
theorem by88 : Program.bytesOf Try.prog 88 = 24 := by kernel_rfl
theorem ag88 : aggB Try.prog 88 = false := by kernel_rfl
theorem zv88 : wpO.zvOf Try.prog 88 = some [.slice none 0 0] := by kernel_rfl
theorem sb88 : slB Try.prog 88 = true := by kernel_rfl
theorem un88 : Try.prog.underlying 88 = some (.slice 283) := by kernel_rfl
theorem el88 : elOf Try.prog 88 = some (283, 13) := by kernel_rfl
theorem ap88 : apOf Try.prog 88 = some (283, 13, 208, [.int .i64 0, .int .i64 0, .int .i64 0, .slice none 0 0, .int .i64 0, .string ⟨#[]⟩, .int .i64 0, .int .i64 0, .slice none 0 0, .slice none 0 0, .slice none 0 0, .slice none 0 0, .slice none 0 0]) := by kernel_rfl
theorem sz89 : szOf Try.prog 89 = some 2 := by kernel_rfl
theorem co89 : Program.cellsOf Try.prog 89 = 2 := by kernel_rfl
theorem by89 : Program.bytesOf Try.prog 89 = 48 := by kernel_rfl
theorem ag89 : aggB Try.prog 89 = true := by kernel_rfl
theorem zv89 : wpO.zvOf Try.prog 89 = some [.slice none 0 0, .slice none 0 0] := by kernel_rfl
theorem st89 : strOf Try.prog 89 = some [(38, 0), (88, 1)] := by kernel_rfl
theorem fl89_0 : fldOf Try.prog 89 0 = some (0, 38) := by kernel_rfl
theorem fl89_1 : fldOf Try.prog 89 1 = some (1, 88) := by kernel_rfl
theorem pl89 : plOf Try.prog 89 = some ([(0, 1), (1, 1)], [.slice none 0 0, .slice none 0 0]) := by kernel_rfl
theorem sz90 : szOf Try.prog 90 = some 2 := by kernel_rfl
theorem co90 : Program.cellsOf Try.prog 90 = 2 := by kernel_rfl
theorem by90 : Program.bytesOf Try.prog 90 = 48 := by kernel_rfl
theorem ag90 : aggB Try.prog 90 = true := by kernel_rfl
theorem zv90 : wpO.zvOf Try.prog 90 = some [.slice none 0 0, .slice none 0 0] := by kernel_rfl
theorem st90 : strOf Try.prog 90 = some [(38, 0), (88, 1)] := by kernel_rfl
theorem fl90_0 : fldOf Try.prog 90 0 = some (0, 38) := by kernel_rfl
theorem fl90_1 : fldOf Try.prog 90 1 = some (1, 88) := by kernel_rfl
theorem pl90 : plOf Try.prog 90 = some ([(0, 1), (1, 1)], [.slice none 0 0, .slice none 0 0]) := by kernel_rfl
theorem sz91 : szOf Try.prog 91 = some 1 := by kernel_rfl
theorem co91 : Program.cellsOf Try.prog 91 = 1 := by kernel_rfl
theorem by91 : Program.bytesOf Try.prog 91 = 8 := by kernel_rfl
theorem ag91 : aggB Try.prog 91 = false := by kernel_rfl
theorem zv91 : wpO.zvOf Try.prog 91 = some [.nilFunc] := by kernel_rfl
theorem sz92 : szOf Try.prog 92 = some 1 := by kernel_rfl
theorem co92 : Program.cellsOf Try.prog 92 = 1 := by kernel_rfl
theorem by92 : Program.bytesOf Try.prog 92 = 8 := by kernel_rfl
theorem ag92 : aggB Try.prog 92 = false := by kernel_rfl
theorem zv92 : wpO.zvOf Try.prog 92 = some [.nilFunc] := by kernel_rfl
theorem sz93 : szOf Try.prog 93 = some 1 := by kernel_rfl
theorem co93 : Program.cellsOf Try.prog 93 = 1 := by kernel_rfl
theorem by93 : Program.bytesOf Try.prog 93 = 24 := by kernel_rfl
theorem ag93 : aggB Try.prog 93 = false := by kernel_rfl
theorem zv93 : wpO.zvOf Try.prog 93 = some [.slice none 0 0] := by kernel_rfl
theorem sb93 : slB Try.prog 93 = true := by kernel_rfl
theorem un93 : Try.prog.underlying 93 = some (.slice 197) := by kernel_rfl
theorem el93 : elOf Try.prog 93 = some (197, 13) := by kernel_rfl
theorem ap93 : apOf Try.prog 93 = some (197, 13, 208, [.int .i64 0, .int .i64 0, .int .i64 0, .slice none 0 0, .int .i64 0, .string ⟨#[]⟩, .int .i64 0, .int .i64 0, .slice none 0 0, .slice none 0 0, .slice none 0 0, .slice none 0 0, .slice none 0 0]) := by kernel_rfl
theorem sz94 : szOf Try.prog 94 = some 2 := by kernel_rfl
theorem co94 : Program.cellsOf Try.prog 94 = 2 := by kernel_rfl
theorem by94 : Program.bytesOf Try.prog 94 = 48 := by kernel_rfl
theorem ag94 : aggB Try.prog 94 = true := by kernel_rfl
theorem zv94 : wpO.zvOf Try.prog 94 = some [.slice none 0 0, .slice none 0 0] := by kernel_rfl
theorem st94 : strOf Try.prog 94 = some [(38, 0), (93, 1)] := by kernel_rfl
theorem fl94_0 : fldOf Try.prog 94 0 = some (0, 38) := by kernel_rfl
theorem fl94_1 : fldOf Try.prog 94 1 = some (1, 93) := by kernel_rfl
theorem pl94 : plOf Try.prog 94 = some ([(0, 1), (1, 1)], [.slice none 0 0, .slice none 0 0]) := by kernel_rfl
theorem sz95 : szOf Try.prog 95 = some 2 := by kernel_rfl
theorem co95 : Program.cellsOf Try.prog 95 = 2 := by kernel_rfl
theorem by95 : Program.bytesOf Try.prog 95 = 48 := by kernel_rfl
theorem ag95 : aggB Try.prog 95 = true := by kernel_rfl
theorem zv95 : wpO.zvOf Try.prog 95 = some [.slice none 0 0, .slice none 0 0] := by kernel_rfl
theorem st95 : strOf Try.prog 95 = some [(38, 0), (93, 1)] := by kernel_rfl
theorem fl95_0 : fldOf Try.prog 95 0 = some (0, 38) := by kernel_rfl
theorem fl95_1 : fldOf Try.prog 95 1 = some (1, 93) := by kernel_rfl
theorem pl95 : plOf Try.prog 95 = some ([(0, 1), (1, 1)], [.slice none 0 0, .slice none 0 0]) := by kernel_rfl
theorem sz96 : szOf Try.prog 96 = some 1 := by kernel_rfl
theorem co96 : Program.cellsOf Try.prog 96 = 1 := by kernel_rfl
theorem by96 : Program.bytesOf Try.prog 96 = 8 := by kernel_rfl
theorem ag96 : aggB Try.prog 96 = false := by kernel_rfl
theorem zv96 : wpO.zvOf Try.prog 96 = some [.nilFunc] := by kernel_rfl
theorem sz97 : szOf Try.prog 97 = some 1 := by kernel_rfl
theorem co97 : Program.cellsOf Try.prog 97 = 1 := by kernel_rfl
theorem by97 : Program.bytesOf Try.prog 97 = 8 := by kernel_rfl
theorem ag97 : aggB Try.prog 97 = false := by kernel_rfl
theorem zv97 : wpO.zvOf Try.prog 97 = some [.nilFunc] := by kernel_rfl
theorem sz98 : szOf Try.prog 98 = some 1 := by kernel_rfl
theorem co98 : Program.cellsOf Try.prog 98 = 1 := by kernel_rfl
theorem by98 : Program.bytesOf Try.prog 98 = 8 := by kernel_rfl
theorem ag98 : aggB Try.prog 98 = false := by kernel_rfl
theorem zv98 : wpO.zvOf Try.prog 98 = some [.nilFunc] := by kernel_rfl
theorem sz99 : szOf Try.prog 99 = some 1 := by kernel_rfl
theorem co99 : Program.cellsOf Try.prog 99 = 1 := by kernel_rfl
theorem by99 : Program.bytesOf Try.prog 99 = 24 := by kernel_rfl
theorem ag99 : aggB Try.prog 99 = false := by kernel_rfl
theorem zv99 : wpO.zvOf Try.prog 99 = some [.slice none 0 0] := by kernel_rfl
theorem sb99 : slB Try.prog 99 = true := by kernel_rfl
theorem un99 : Try.prog.underlying 99 = some (.slice 207) := by kernel_rfl
theorem el99 : elOf Try.prog 99 = some (207, 4) := by kernel_rfl
theorem ap99 : apOf Try.prog 99 = some (207, 4, 72, [.string ⟨#[]⟩, .int .i64 0, .slice none 0 0, .slice none 0 0]) := by kernel_rfl
theorem sz100 : szOf Try.prog 100 = some 1 := by kernel_rfl
theorem co100 : Program.cellsOf Try.prog 100 = 1 := by kernel_rfl
theorem by100 : Program.bytesOf Try.prog 100 = 24 := by kernel_rfl
theorem ag100 : aggB Try.prog 100 = true := by kernel_rfl
theorem zv100 : wpO.zvOf Try.prog 100 = some [.slice none 0 0] := by kernel_rfl
theorem st100 : strOf Try.prog 100 = some [(99, 0)] := by kernel_rfl
theorem fl100_0 : fldOf Try.prog 100 0 = some (0, 99) := by kernel_rfl
theorem pl100 : plOf Try.prog 100 = some ([(0, 1)], [.slice none 0 0]) := by kernel_rfl
theorem sz101 : szOf Try.prog 101 = some 1 := by kernel_rfl
theorem co101 : Program.cellsOf Try.prog 101 = 1 := by kernel_rfl
theorem by101 : Program.bytesOf Try.prog 101 = 24 := by kernel_rfl
theorem ag101 : aggB Try.prog 101 = true := by kernel_rfl
theorem zv101 : wpO.zvOf Try.prog 101 = some [.slice none 0 0] := by kernel_rfl
theorem st101 : strOf Try.prog 101 = some [(99, 0)] := by kernel_rfl
theorem fl101_0 : fldOf Try.prog 101 0 = some (0, 99) := by kernel_rfl
theorem pl101 : plOf Try.prog 101 = some ([(0, 1)], [.slice none 0 0]) := by kernel_rfl
theorem sz102 : szOf Try.prog 102 = some 1 := by kernel_rfl
theorem co102 : Program.cellsOf Try.prog 102 = 1 := by kernel_rfl
theorem by102 : Program.bytesOf Try.prog 102 = 8 := by kernel_rfl
theorem ag102 : aggB Try.prog 102 = false := by kernel_rfl
theorem zv102 : wpO.zvOf Try.prog 102 = some [.nilFunc] := by kernel_rfl
theorem sz103 : szOf Try.prog 103 = some 1 := by kernel_rfl
theorem co103 : Program.cellsOf Try.prog 103 = 1 := by kernel_rfl
theorem by103 : Program.bytesOf Try.prog 103 = 8 := by kernel_rfl
theorem ag103 : aggB Try.prog 103 = false := by kernel_rfl
theorem zv103 : wpO.zvOf Try.prog 103 = some [.nilFunc] := by kernel_rfl
theorem sz104 : szOf Try.prog 104 = some 1 := by kernel_rfl
theorem co104 : Program.cellsOf Try.prog 104 = 1 := by kernel_rfl
theorem by104 : Program.bytesOf Try.prog 104 = 8 := by kernel_rfl
theorem ag104 : aggB Try.prog 104 = false := by kernel_rfl
theorem zv104 : wpO.zvOf Try.prog 104 = some [.nilFunc] := by kernel_rfl
theorem sz105 : szOf Try.prog 105 = some 1 := by kernel_rfl
theorem co105 : Program.cellsOf Try.prog 105 = 1 := by kernel_rfl
theorem by105 : Program.bytesOf Try.prog 105 = 8 := by kernel_rfl
theorem ag105 : aggB Try.prog 105 = false := by kernel_rfl
theorem zv105 : wpO.zvOf Try.prog 105 = some [.nilFunc] := by kernel_rfl
theorem sz106 : szOf Try.prog 106 = some 1 := by kernel_rfl
theorem co106 : Program.cellsOf Try.prog 106 = 1 := by kernel_rfl
theorem by106 : Program.bytesOf Try.prog 106 = 24 := by kernel_rfl
theorem ag106 : aggB Try.prog 106 = false := by kernel_rfl
theorem zv106 : wpO.zvOf Try.prog 106 = some [.slice none 0 0] := by kernel_rfl
theorem sb106 : slB Try.prog 106 = true := by kernel_rfl
theorem un106 : Try.prog.underlying 106 = some (.slice 297) := by kernel_rfl
theorem el106 : elOf Try.prog 106 = some (297, 21) := by kernel_rfl
theorem ap106 : apOf Try.prog 106 = some (297, 21, 376, [.slice none 0 0, .int .i64 0, .string ⟨#[]⟩, .int .i64 0, .int .i64 0, .slice none 0 0, .slice none 0 0, .slice none 0 0, .slice none 0 0, .int .i64 0, .int .i64 0, .string ⟨#[]⟩, .int .i64 0, .int .i64 0, .slice none 0 0, .slice none 0 0, .slice none 0 0, .slice none 0 0, .slice none 0 0, .slice none 0 0, .slice none 0 0]) := by kernel_rfl
theorem sz107 : szOf Try.prog 107 = some 1 := by kernel_rfl
theorem co107 : Program.cellsOf Try.prog 107 = 1 := by kernel_rfl
theorem by107 : Program.bytesOf Try.prog 107 = 24 := by kernel_rfl
theorem ag107 : aggB Try.prog 107 = true := by kernel_rfl
theorem zv107 : wpO.zvOf Try.prog 107 = some [.slice none 0 0] := by kernel_rfl
theorem st107 : strOf Try.prog 107 = some [(106, 0)] := by kernel_rfl
theorem fl107_0 : fldOf Try.prog 107 0 = some (0, 106) := by kernel_rfl
theorem pl107 : plOf Try.prog 107 = some ([(0, 1)], [.slice none 0 0]) := by kernel_rfl
theorem sz108 : szOf Try.prog 108 = some 1 := by kernel_rfl
theorem co108 : Program.cellsOf Try.prog 108 = 1 := by kernel_rfl
theorem by108 : Program.bytesOf Try.prog 108 = 24 := by kernel_rfl
theorem ag108 : aggB Try.prog 108 = true := by kernel_rfl
theorem zv108 : wpO.zvOf Try.prog 108 = some [.slice none 0 0] := by kernel_rfl
theorem st108 : strOf Try.prog 108 = some [(106, 0)] := by kernel_rfl
theorem fl108_0 : fldOf Try.prog 108 0 = some (0, 106) := by kernel_rfl
theorem pl108 : plOf Try.prog 108 = some ([(0, 1)], [.slice none 0 0]) := by kernel_rfl
theorem sz109 : szOf Try.prog 109 = some 1 := by kernel_rfl
theorem co109 : Program.cellsOf Try.prog 109 = 1 := by kernel_rfl
theorem by109 : Program.bytesOf Try.prog 109 = 8 := by kernel_rfl
theorem ag109 : aggB Try.prog 109 = false := by kernel_rfl
theorem zv109 : wpO.zvOf Try.prog 109 = some [.nilFunc] := by kernel_rfl
theorem sz110 : szOf Try.prog 110 = some 1 := by kernel_rfl
theorem co110 : Program.cellsOf Try.prog 110 = 1 := by kernel_rfl
theorem by110 : Program.bytesOf Try.prog 110 = 8 := by kernel_rfl
theorem ag110 : aggB Try.prog 110 = false := by kernel_rfl
theorem zv110 : wpO.zvOf Try.prog 110 = some [.nilFunc] := by kernel_rfl
theorem sz111 : szOf Try.prog 111 = some 1 := by kernel_rfl
theorem co111 : Program.cellsOf Try.prog 111 = 1 := by kernel_rfl
theorem by111 : Program.bytesOf Try.prog 111 = 24 := by kernel_rfl
theorem ag111 : aggB Try.prog 111 = false := by kernel_rfl
theorem zv111 : wpO.zvOf Try.prog 111 = some [.slice none 0 0] := by kernel_rfl
theorem sb111 : slB Try.prog 111 = true := by kernel_rfl
theorem un111 : Try.prog.underlying 111 = some (.slice 216) := by kernel_rfl
theorem el111 : elOf Try.prog 111 = some (216, 21) := by kernel_rfl
theorem ap111 : apOf Try.prog 111 = some (216, 21, 376, [.slice none 0 0, .int .i64 0, .string ⟨#[]⟩, .int .i64 0, .int .i64 0, .slice none 0 0, .slice none 0 0, .slice none 0 0, .slice none 0 0, .int .i64 0, .int .i64 0, .string ⟨#[]⟩, .int .i64 0, .int .i64 0, .slice none 0 0, .slice none 0 0, .slice none 0 0, .slice none 0 0, .slice none 0 0, .slice none 0 0, .slice none 0 0]) := by kernel_rfl
theorem sz112 : szOf Try.prog 112 = some 1 := by kernel_rfl
theorem co112 : Program.cellsOf Try.prog 112 = 1 := by kernel_rfl
theorem by112 : Program.bytesOf Try.prog 112 = 24 := by kernel_rfl
theorem ag112 : aggB Try.prog 112 = true := by kernel_rfl
theorem zv112 : wpO.zvOf Try.prog 112 = some [.slice none 0 0] := by kernel_rfl
theorem st112 : strOf Try.prog 112 = some [(111, 0)] := by kernel_rfl
theorem fl112_0 : fldOf Try.prog 112 0 = some (0, 111) := by kernel_rfl
theorem pl112 : plOf Try.prog 112 = some ([(0, 1)], [.slice none 0 0]) := by kernel_rfl
theorem sz113 : szOf Try.prog 113 = some 1 := by kernel_rfl
theorem co113 : Program.cellsOf Try.prog 113 = 1 := by kernel_rfl
theorem by113 : Program.bytesOf Try.prog 113 = 24 := by kernel_rfl
theorem ag113 : aggB Try.prog 113 = true := by kernel_rfl
theorem zv113 : wpO.zvOf Try.prog 113 = some [.slice none 0 0] := by kernel_rfl
theorem st113 : strOf Try.prog 113 = some [(111, 0)] := by kernel_rfl
theorem fl113_0 : fldOf Try.prog 113 0 = some (0, 111) := by kernel_rfl
theorem pl113 : plOf Try.prog 113 = some ([(0, 1)], [.slice none 0 0]) := by kernel_rfl
theorem sz114 : szOf Try.prog 114 = some 1 := by kernel_rfl
theorem co114 : Program.cellsOf Try.prog 114 = 1 := by kernel_rfl
theorem by114 : Program.bytesOf Try.prog 114 = 8 := by kernel_rfl
theorem ag114 : aggB Try.prog 114 = false := by kernel_rfl
theorem zv114 : wpO.zvOf Try.prog 114 = some [.nilFunc] := by kernel_rfl
theorem sz115 : szOf Try.prog 115 = some 1 := by kernel_rfl
theorem co115 : Program.cellsOf Try.prog 115 = 1 := by kernel_rfl
theorem by115 : Program.bytesOf Try.prog 115 = 8 := by kernel_rfl
theorem ag115 : aggB Try.prog 115 = false := by kernel_rfl
theorem zv115 : wpO.zvOf Try.prog 115 = some [.nilFunc] := by kernel_rfl
theorem sz116 : szOf Try.prog 116 = some 1 := by kernel_rfl
theorem co116 : Program.cellsOf Try.prog 116 = 1 := by kernel_rfl
theorem by116 : Program.bytesOf Try.prog 116 = 8 := by kernel_rfl
theorem ag116 : aggB Try.prog 116 = false := by kernel_rfl
theorem zv116 : wpO.zvOf Try.prog 116 = some [.nilFunc] := by kernel_rfl
theorem sz117 : szOf Try.prog 117 = some 1 := by kernel_rfl
theorem co117 : Program.cellsOf Try.prog 117 = 1 := by kernel_rfl
theorem by117 : Program.bytesOf Try.prog 117 = 8 := by kernel_rfl
theorem ag117 : aggB Try.prog 117 = false := by kernel_rfl
theorem zv117 : wpO.zvOf Try.prog 117 = some [.nilFunc] := by kernel_rfl
theorem sz119 : szOf Try.prog 119 = some 1 := by kernel_rfl
theorem co119 : Program.cellsOf Try.prog 119 = 1 := by kernel_rfl
theorem by119 : Program.bytesOf Try.prog 119 = 8 := by kernel_rfl
theorem ag119 : aggB Try.prog 119 = false := by kernel_rfl
theorem zv119 : wpO.zvOf Try.prog 119 = some [.nilFunc] := by kernel_rfl
theorem sz120 : szOf Try.prog 120 = some 1 := by kernel_rfl
theorem co120 : Program.cellsOf Try.prog 120 = 1 := by kernel_rfl
theorem by120 : Program.bytesOf Try.prog 120 = 8 := by kernel_rfl
theorem ag120 : aggB Try.prog 120 = false := by kernel_rfl
theorem zv120 : wpO.zvOf Try.prog 120 = some [.nilFunc] := by kernel_rfl
theorem sz121 : szOf Try.prog 121 = some 1 := by kernel_rfl
theorem co121 : Program.cellsOf Try.prog 121 = 1 := by kernel_rfl
theorem by121 : Program.bytesOf Try.prog 121 = 24 := by kernel_rfl
theorem ag121 : aggB Try.prog 121 = false := by kernel_rfl
theorem zv121 : wpO.zvOf Try.prog 121 = some [.slice none 0 0] := by kernel_rfl
theorem sb121 : slB Try.prog 121 = true := by kernel_rfl
theorem un121 : Try.prog.underlying 121 = some (.slice 123) := by kernel_rfl
theorem el121 : elOf Try.prog 121 = some (123, 13) := by kernel_rfl
theorem ap121 : apOf Try.prog 121 = some (123, 13, 224, [.int .i64 0, .string ⟨#[]⟩, .string ⟨#[]⟩, .int .i64 0, .string ⟨#[]⟩, .int .i64 0, .int .i64 0, .slice none 0 0, .slice none 0 0, .slice none 0 0, .slice none 0 0, .slice none 0 0, .slice none 0 0]) := by kernel_rfl
theorem sz122 : szOf Try.prog 122 = some 13 := by kernel_rfl
theorem co122 : Program.cellsOf Try.prog 122 = 13 := by kernel_rfl
theorem by122 : Program.bytesOf Try.prog 122 = 224 := by kernel_rfl
theorem ag122 : aggB Try.prog 122 = true := by kernel_rfl
theorem zv122 : wpO.zvOf Try.prog 122 = some [.int .i64 0, .string ⟨#[]⟩, .string ⟨#[]⟩, .int .i64 0, .string ⟨#[]⟩, .int .i64 0, .int .i64 0, .slice none 0 0, .slice none 0 0, .slice none 0 0, .slice none 0 0, .slice none 0 0, .slice none 0 0] := by kernel_rfl
theorem st122 : strOf Try.prog 122 = some [(3, 0), (9, 1), (9, 2), (67, 3), (65, 11), (121, 12)] := by kernel_rfl
theorem fl122_0 : fldOf Try.prog 122 0 = some (0, 3) := by kernel_rfl
theorem fl122_1 : fldOf Try.prog 122 1 = some (1, 9) := by kernel_rfl
theorem fl122_2 : fldOf Try.prog 122 2 = some (2, 9) := by kernel_rfl
theorem fl122_3 : fldOf Try.prog 122 3 = some (3, 67) := by kernel_rfl
theorem fl122_4 : fldOf Try.prog 122 4 = some (11, 65) := by kernel_rfl
theorem fl122_5 : fldOf Try.prog 122 5 = some (12, 121) := by kernel_rfl
theorem pl122 : plOf Try.prog 122 = some ([(0, 1), (1, 1), (2, 1), (3, 8), (11, 1), (12, 1)], [.int .i64 0, .string ⟨#[]⟩, .string ⟨#[]⟩, .int .i64 0, .string ⟨#[]⟩, .int .i64 0, .int .i64 0, .slice none 0 0, .slice none 0 0, .slice none 0 0, .slice none 0 0, .slice none 0 0, .slice none 0 0]) := by kernel_rfl
theorem sz123 : szOf Try.prog 123 = some 13 := by kernel_rfl
theorem co123 : Program.cellsOf Try.prog 123 = 13 := by kernel_rfl
theorem by123 : Program.bytesOf Try.prog 123 = 224 := by kernel_rfl
theorem ag123 : aggB Try.prog 123 = true := by kernel_rfl
theorem zv123 : wpO.zvOf Try.prog 123 = some [.int .i64 0, .string ⟨#[]⟩, .string ⟨#[]⟩, .int .i64 0, .string ⟨#[]⟩, .int .i64 0, .int .i64 0, .slice none 0 0, .slice none 0 0, .slice none 0 0, .slice none 0 0, .slice none 0 0, .slice none 0 0] := by kernel_rfl
theorem st123 : strOf Try.prog 123 = some [(3, 0), (9, 1), (9, 2), (67, 3), (65, 11), (121, 12)] := by kernel_rfl
theorem fl123_0 : fldOf Try.prog 123 0 = some (0, 3) := by kernel_rfl
theorem fl123_1 : fldOf Try.prog 123 1 = some (1, 9) := by kernel_rfl
theorem fl123_2 : fldOf Try.prog 123 2 = some (2, 9) := by kernel_rfl
theorem fl123_3 : fldOf Try.prog 123 3 = some (3, 67) := by kernel_rfl
theorem fl123_4 : fldOf Try.prog 123 4 = some (11, 65) := by kernel_rfl
theorem fl123_5 : fldOf Try.prog 123 5 = some (12, 121) := by kernel_rfl
theorem pl123 : plOf Try.prog 123 = some ([(0, 1), (1, 1), (2, 1), (3, 8), (11, 1), (12, 1)], [.int .i64 0, .string ⟨#[]⟩, .string ⟨#[]⟩, .int .i64 0, .string ⟨#[]⟩, .int .i64 0, .int .i64 0, .slice none 0 0, .slice none 0 0, .slice none 0 0, .slice none 0 0, .slice none 0 0, .slice none 0 0]) := by kernel_rfl
theorem sz124 : szOf Try.prog 124 = some 1 := by kernel_rfl
theorem co124 : Program.cellsOf Try.prog 124 = 1 := by kernel_rfl
theorem by124 : Program.bytesOf Try.prog 124 = 8 := by kernel_rfl
theorem ag124 : aggB Try.prog 124 = false := by kernel_rfl
theorem zv124 : wpO.zvOf Try.prog 124 = some [.nilFunc] := by kernel_rfl
theorem sz125 : szOf Try.prog 125 = some 1 := by kernel_rfl
theorem co125 : Program.cellsOf Try.prog 125 = 1 := by kernel_rfl
theorem by125 : Program.bytesOf Try.prog 125 = 8 := by kernel_rfl
theorem ag125 : aggB Try.prog 125 = false := by kernel_rfl
theorem zv125 : wpO.zvOf Try.prog 125 = some [.nilFunc] := by kernel_rfl
theorem sz126 : szOf Try.prog 126 = some 1 := by kernel_rfl
theorem co126 : Program.cellsOf Try.prog 126 = 1 := by kernel_rfl
theorem by126 : Program.bytesOf Try.prog 126 = 24 := by kernel_rfl
theorem ag126 : aggB Try.prog 126 = false := by kernel_rfl
theorem zv126 : wpO.zvOf Try.prog 126 = some [.slice none 0 0] := by kernel_rfl
theorem sb126 : slB Try.prog 126 = true := by kernel_rfl
theorem un126 : Try.prog.underlying 126 = some (.slice 128) := by kernel_rfl
theorem el126 : elOf Try.prog 126 = some (128, 13) := by kernel_rfl
theorem ap126 : apOf Try.prog 126 = some (128, 13, 224, [.int .i64 0, .string ⟨#[]⟩, .string ⟨#[]⟩, .int .i64 0, .string ⟨#[]⟩, .int .i64 0, .int .i64 0, .slice none 0 0, .slice none 0 0, .slice none 0 0, .slice none 0 0, .slice none 0 0, .slice none 0 0]) := by kernel_rfl
theorem sz127 : szOf Try.prog 127 = some 13 := by kernel_rfl
theorem co127 : Program.cellsOf Try.prog 127 = 13 := by kernel_rfl
theorem by127 : Program.bytesOf Try.prog 127 = 224 := by kernel_rfl
theorem ag127 : aggB Try.prog 127 = true := by kernel_rfl
theorem zv127 : wpO.zvOf Try.prog 127 = some [.int .i64 0, .string ⟨#[]⟩, .string ⟨#[]⟩, .int .i64 0, .string ⟨#[]⟩, .int .i64 0, .int .i64 0, .slice none 0 0, .slice none 0 0, .slice none 0 0, .slice none 0 0, .slice none 0 0, .slice none 0 0] := by kernel_rfl
theorem st127 : strOf Try.prog 127 = some [(3, 0), (9, 1), (9, 2), (77, 3), (75, 11), (126, 12)] := by kernel_rfl
theorem fl127_0 : fldOf Try.prog 127 0 = some (0, 3) := by kernel_rfl
theorem fl127_1 : fldOf Try.prog 127 1 = some (1, 9) := by kernel_rfl
theorem fl127_2 : fldOf Try.prog 127 2 = some (2, 9) := by kernel_rfl
theorem fl127_3 : fldOf Try.prog 127 3 = some (3, 77) := by kernel_rfl
theorem fl127_4 : fldOf Try.prog 127 4 = some (11, 75) := by kernel_rfl
theorem fl127_5 : fldOf Try.prog 127 5 = some (12, 126) := by kernel_rfl
theorem pl127 : plOf Try.prog 127 = some ([(0, 1), (1, 1), (2, 1), (3, 8), (11, 1), (12, 1)], [.int .i64 0, .string ⟨#[]⟩, .string ⟨#[]⟩, .int .i64 0, .string ⟨#[]⟩, .int .i64 0, .int .i64 0, .slice none 0 0, .slice none 0 0, .slice none 0 0, .slice none 0 0, .slice none 0 0, .slice none 0 0]) := by kernel_rfl
theorem sz128 : szOf Try.prog 128 = some 13 := by kernel_rfl
theorem co128 : Program.cellsOf Try.prog 128 = 13 := by kernel_rfl
theorem by128 : Program.bytesOf Try.prog 128 = 224 := by kernel_rfl
theorem ag128 : aggB Try.prog 128 = true := by kernel_rfl
theorem zv128 : wpO.zvOf Try.prog 128 = some [.int .i64 0, .string ⟨#[]⟩, .string ⟨#[]⟩, .int .i64 0, .string ⟨#[]⟩, .int .i64 0, .int .i64 0, .slice none 0 0, .slice none 0 0, .slice none 0 0, .slice none 0 0, .slice none 0 0, .slice none 0 0] := by kernel_rfl
theorem st128 : strOf Try.prog 128 = some [(3, 0), (9, 1), (9, 2), (77, 3), (75, 11), (126, 12)] := by kernel_rfl
theorem fl128_0 : fldOf Try.prog 128 0 = some (0, 3) := by kernel_rfl
theorem fl128_1 : fldOf Try.prog 128 1 = some (1, 9) := by kernel_rfl
theorem fl128_2 : fldOf Try.prog 128 2 = some (2, 9) := by kernel_rfl
theorem fl128_3 : fldOf Try.prog 128 3 = some (3, 77) := by kernel_rfl
theorem fl128_4 : fldOf Try.prog 128 4 = some (11, 75) := by kernel_rfl
theorem fl128_5 : fldOf Try.prog 128 5 = some (12, 126) := by kernel_rfl
theorem pl128 : plOf Try.prog 128 = some ([(0, 1), (1, 1), (2, 1), (3, 8), (11, 1), (12, 1)], [.int .i64 0, .string ⟨#[]⟩, .string ⟨#[]⟩, .int .i64 0, .string ⟨#[]⟩, .int .i64 0, .int .i64 0, .slice none 0 0, .slice none 0 0, .slice none 0 0, .slice none 0 0, .slice none 0 0, .slice none 0 0]) := by kernel_rfl
theorem sz129 : szOf Try.prog 129 = some 1 := by kernel_rfl
theorem co129 : Program.cellsOf Try.prog 129 = 1 := by kernel_rfl
theorem by129 : Program.bytesOf Try.prog 129 = 8 := by kernel_rfl
theorem ag129 : aggB Try.prog 129 = false := by kernel_rfl
theorem zv129 : wpO.zvOf Try.prog 129 = some [.nilFunc] := by kernel_rfl
theorem sz130 : szOf Try.prog 130 = some 1 := by kernel_rfl
theorem co130 : Program.cellsOf Try.prog 130 = 1 := by kernel_rfl
theorem by130 : Program.bytesOf Try.prog 130 = 8 := by kernel_rfl
theorem ag130 : aggB Try.prog 130 = false := by kernel_rfl
theorem zv130 : wpO.zvOf Try.prog 130 = some [.nilFunc] := by kernel_rfl
theorem sz131 : szOf Try.prog 131 = some 1 := by kernel_rfl
theorem co131 : Program.cellsOf Try.prog 131 = 1 := by kernel_rfl
theorem by131 : Program.bytesOf Try.prog 131 = 8 := by kernel_rfl
theorem ag131 : aggB Try.prog 131 = false := by kernel_rfl
theorem zv131 : wpO.zvOf Try.prog 131 = some [.nilFunc] := by kernel_rfl
theorem sz132 : szOf Try.prog 132 = some 1 := by kernel_rfl
theorem co132 : Program.cellsOf Try.prog 132 = 1 := by kernel_rfl
theorem by132 : Program.bytesOf Try.prog 132 = 24 := by kernel_rfl
theorem ag132 : aggB Try.prog 132 = false := by kernel_rfl
theorem zv132 : wpO.zvOf Try.prog 132 = some [.slice none 0 0] := by kernel_rfl
theorem sb132 : slB Try.prog 132 = true := by kernel_rfl
theorem un132 : Try.prog.underlying 132 = some (.slice 310) := by kernel_rfl
theorem el132 : elOf Try.prog 132 = some (310, 4) := by kernel_rfl
theorem ap132 : apOf Try.prog 132 = some (310, 4, 72, [.string ⟨#[]⟩, .int .i64 0, .slice none 0 0, .slice none 0 0]) := by kernel_rfl
theorem sz133 : szOf Try.prog 133 = some 1 := by kernel_rfl
theorem co133 : Program.cellsOf Try.prog 133 = 1 := by kernel_rfl
theorem by133 : Program.bytesOf Try.prog 133 = 24 := by kernel_rfl
theorem ag133 : aggB Try.prog 133 = true := by kernel_rfl
theorem zv133 : wpO.zvOf Try.prog 133 = some [.slice none 0 0] := by kernel_rfl
theorem st133 : strOf Try.prog 133 = some [(132, 0)] := by kernel_rfl
theorem fl133_0 : fldOf Try.prog 133 0 = some (0, 132) := by kernel_rfl
theorem pl133 : plOf Try.prog 133 = some ([(0, 1)], [.slice none 0 0]) := by kernel_rfl
theorem sz134 : szOf Try.prog 134 = some 1 := by kernel_rfl
theorem co134 : Program.cellsOf Try.prog 134 = 1 := by kernel_rfl
theorem by134 : Program.bytesOf Try.prog 134 = 24 := by kernel_rfl
theorem ag134 : aggB Try.prog 134 = true := by kernel_rfl
theorem zv134 : wpO.zvOf Try.prog 134 = some [.slice none 0 0] := by kernel_rfl
theorem st134 : strOf Try.prog 134 = some [(132, 0)] := by kernel_rfl
theorem fl134_0 : fldOf Try.prog 134 0 = some (0, 132) := by kernel_rfl
theorem pl134 : plOf Try.prog 134 = some ([(0, 1)], [.slice none 0 0]) := by kernel_rfl
theorem sz135 : szOf Try.prog 135 = some 1 := by kernel_rfl
theorem co135 : Program.cellsOf Try.prog 135 = 1 := by kernel_rfl
theorem by135 : Program.bytesOf Try.prog 135 = 8 := by kernel_rfl
theorem ag135 : aggB Try.prog 135 = false := by kernel_rfl
theorem zv135 : wpO.zvOf Try.prog 135 = some [.nilFunc] := by kernel_rfl
theorem sz136 : szOf Try.prog 136 = some 1 := by kernel_rfl
theorem co136 : Program.cellsOf Try.prog 136 = 1 := by kernel_rfl
theorem by136 : Program.bytesOf Try.prog 136 = 8 := by kernel_rfl
theorem ag136 : aggB Try.prog 136 = false := by kernel_rfl
theorem zv136 : wpO.zvOf Try.prog 136 = some [.nilFunc] := by kernel_rfl
theorem sz137 : szOf Try.prog 137 = some 1 := by kernel_rfl
theorem co137 : Program.cellsOf Try.prog 137 = 1 := by kernel_rfl
theorem by137 : Program.bytesOf Try.prog 137 = 8 := by kernel_rfl
theorem ag137 : aggB Try.prog 137 = false := by kernel_rfl
theorem zv137 : wpO.zvOf Try.prog 137 = some [.nilFunc] := by kernel_rfl
theorem sz138 : szOf Try.prog 138 = some 1 := by kernel_rfl
theorem co138 : Program.cellsOf Try.prog 138 = 1 := by kernel_rfl
theorem by138 : Program.bytesOf Try.prog 138 = 8 := by kernel_rfl
theorem ag138 : aggB Try.prog 138 = false := by kernel_rfl
theorem zv138 : wpO.zvOf Try.prog 138 = some [.nilFunc] := by kernel_rfl
theorem sz139 : szOf Try.prog 139 = some 1 := by kernel_rfl
theorem co139 : Program.cellsOf Try.prog 139 = 1 := by kernel_rfl
theorem by139 : Program.bytesOf Try.prog 139 = 8 := by kernel_rfl
theorem ag139 : aggB Try.prog 139 = false := by kernel_rfl
theorem zv139 : wpO.zvOf Try.prog 139 = some [.nilFunc] := by kernel_rfl
theorem sz140 : szOf Try.prog 140 = some 18 := by kernel_rfl
theorem co140 : Program.cellsOf Try.prog 140 = 18 := by kernel_rfl
theorem by140 : Program.bytesOf Try.prog 140 = 320 := by kernel_rfl
theorem ag140 : aggB Try.prog 140 = true := by kernel_rfl
theorem zv140 : wpO.zvOf Try.prog 140 = some [.slice none 0 0, .slice none 0 0, .int .i64 0, .string ⟨#[]⟩, .int .i64 0, .int .i64 0, .slice none 0 0, .slice none 0 0, .slice none 0 0, .slice none 0 0, .int .i64 0, .string ⟨#[]⟩, .int .i64 0, .int .i64 0, .slice none 0 0, .slice none 0 0, .slice none 0 0, .slice none 0 0] := by kernel_rfl
theorem st140 : strOf Try.prog 140 = some [(134, 0), (48, 1), (67, 2), (67, 10)] := by kernel_rfl
theorem fl140_0 : fldOf Try.prog 140 0 = some (0, 134) := by kernel_rfl
theorem fl140_1 : fldOf Try.prog 140 1 = some (1, 48) := by kernel_rfl
theorem fl140_2 : fldOf Try.prog 140 2 = some (2, 67) := by kernel_rfl
theorem fl140_3 : fldOf Try.prog 140 3 = some (10, 67) := by kernel_rfl
theorem pl140 : plOf Try.prog 140 = some ([(0, 1), (1, 1), (2, 8), (10, 8)], [.slice none 0 0, .slice none 0 0, .int .i64 0, .string ⟨#[]⟩, .int .i64 0, .int .i64 0, .slice none 0 0, .slice none 0 0, .slice none 0 0, .slice none 0 0, .int .i64 0, .string ⟨#[]⟩, .int .i64 0, .int .i64 0, .slice none 0 0, .slice none 0 0, .slice none 0 0, .slice none 0 0]) := by kernel_rfl
theorem sz141 : szOf Try.prog 141 = some 18 := by kernel_rfl
theorem co141 : Program.cellsOf Try.prog 141 = 18 := by kernel_rfl
theorem by141 : Program.bytesOf Try.prog 141 = 320 := by kernel_rfl
theorem ag141 : aggB Try.prog 141 = true := by kernel_rfl
theorem zv141 : wpO.zvOf Try.prog 141 = some [.slice none 0 0, .slice none 0 0, .int .i64 0, .string ⟨#[]⟩, .int .i64 0, .int .i64 0, .slice none 0 0, .slice none 0 0, .slice none 0 0, .slice none 0 0, .int .i64 0, .string ⟨#[]⟩, .int .i64 0, .int .i64 0, .slice none 0 0, .slice none 0 0, .slice none 0 0, .slice none 0 0] := by kernel_rfl
theorem st141 : strOf Try.prog 141 = some [(134, 0), (48, 1), (67, 2), (67, 10)] := by kernel_rfl
theorem fl141_0 : fldOf Try.prog 141 0 = some (0, 134) := by kernel_rfl
theorem fl141_1 : fldOf Try.prog 141 1 = some (1, 48) := by kernel_rfl
theorem fl141_2 : fldOf Try.prog 141 2 = some (2, 67) := by kernel_rfl
theorem fl141_3 : fldOf Try.prog 141 3 = some (10, 67) := by kernel_rfl
theorem pl141 : plOf Try.prog 141 = some ([(0, 1), (1, 1), (2, 8), (10, 8)], [.slice none 0 0, .slice none 0 0, .int .i64 0, .string ⟨#[]⟩, .int .i64 0, .int .i64 0, .slice none 0 0, .slice none 0 0, .slice none 0 0, .slice none 0 0, .int .i64 0, .string ⟨#[]⟩, .int .i64 0, .int .i64 0, .slice none 0 0, .slice none 0 0, .slice none 0 0, .slice none 0 0]) := by kernel_rfl
theorem sz142 : szOf Try.prog 142 = some 1 := by kernel_rfl
theorem co142 : Program.cellsOf Try.prog 142 = 1 := by kernel_rfl
theorem by142 : Program.bytesOf Try.prog 142 = 8 := by kernel_rfl
theorem ag142 : aggB Try.prog 142 = false := by kernel_rfl
theorem zv142 : wpO.zvOf Try.prog 142 = some [.nilFunc] := by kernel_rfl
theorem sz143 : szOf Try.prog 143 = some 1 := by kernel_rfl
theorem co143 : Program.cellsOf Try.prog 143 = 1 := by kernel_rfl
theorem by143 : Program.bytesOf Try.prog 143 = 8 := by kernel_rfl
theorem ag143 : aggB Try.prog 143 = false := by kernel_rfl
theorem zv143 : wpO.zvOf Try.prog 143 = some [.nilFunc] := by kernel_rfl
theorem sz144 : szOf Try.prog 144 = some 18 := by kernel_rfl
theorem co144 : Program.cellsOf Try.prog 144 = 18 := by kernel_rfl
theorem by144 : Program.bytesOf Try.prog 144 = 320 := by kernel_rfl
theorem ag144 : aggB Try.prog 144 = true := by kernel_rfl
theorem zv144 : wpO.zvOf Try.prog 144 = some [.slice none 0 0, .slice none 0 0, .int .i64 0, .string ⟨#[]⟩, .int .i64 0, .int .i64 0, .slice none 0 0, .slice none 0 0, .slice none 0 0, .slice none 0 0, .int .i64 0, .string ⟨#[]⟩, .int .i64 0, .int .i64 0, .slice none 0 0, .slice none 0 0, .slice none 0 0, .slice none 0 0] := by kernel_rfl
theorem st144 : strOf Try.prog 144 = some [(101, 0), (56, 1), (77, 2), (77, 10)] := by kernel_rfl
theorem fl144_0 : fldOf Try.prog 144 0 = some (0, 101) := by kernel_rfl
theorem fl144_1 : fldOf Try.prog 144 1 = some (1, 56) := by kernel_rfl
theorem fl144_2 : fldOf Try.prog 144 2 = some (2, 77) := by kernel_rfl
theorem fl144_3 : fldOf Try.prog 144 3 = some (10, 77) := by kernel_rfl
theorem pl144 : plOf Try.prog 144 = some ([(0, 1), (1, 1), (2, 8), (10, 8)], [.slice none 0 0, .slice none 0 0, .int .i64 0, .string ⟨#[]⟩, .int .i64 0, .int .i64 0, .slice none 0 0, .slice none 0 0, .slice none 0 0, .slice none 0 0, .int .i64 0, .string ⟨#[]⟩, .int .i64 0, .int .i64 0, .slice none 0 0, .slice none 0 0, .slice none 0 0, .slice none 0 0]) := by kernel_rfl
theorem sz145 : szOf Try.prog 145 = some 18 := by kernel_rfl
theorem co145 : Program.cellsOf Try.prog 145 = 18 := by kernel_rfl
theorem by145 : Program.bytesOf Try.prog 145 = 320 := by kernel_rfl
theorem ag145 : aggB Try.prog 145 = true := by kernel_rfl
theorem zv145 : wpO.zvOf Try.prog 145 = some [.slice none 0 0, .slice none 0 0, .int .i64 0, .string ⟨#[]⟩, .int .i64 0, .int .i64 0, .slice none 0 0, .slice none 0 0, .slice none 0 0, .slice none 0 0, .int .i64 0, .string ⟨#[]⟩, .int .i64 0, .int .i64 0, .slice none 0 0, .slice none 0 0, .slice none 0 0, .slice none 0 0] := by kernel_rfl
theorem st145 : strOf Try.prog 145 = some [(101, 0), (56, 1), (77, 2), (77, 10)] := by kernel_rfl
theorem fl145_0 : fldOf Try.prog 145 0 = some (0, 101) := by kernel_rfl
theorem fl145_1 : fldOf Try.prog 145 1 = some (1, 56) := by kernel_rfl
theorem fl145_2 : fldOf Try.prog 145 2 = some (2, 77) := by kernel_rfl
theorem fl145_3 : fldOf Try.prog 145 3 = some (10, 77) := by kernel_rfl
theorem pl145 : plOf Try.prog 145 = some ([(0, 1), (1, 1), (2, 8), (10, 8)], [.slice none 0 0, .slice none 0 0, .int .i64 0, .string ⟨#[]⟩, .int .i64 0, .int .i64 0, .slice none 0 0, .slice none 0 0, .slice none 0 0, .slice none 0 0, .int .i64 0, .string ⟨#[]⟩, .int .i64 0, .int .i64 0, .slice none 0 0, .slice none 0 0, .slice none 0 0, .slice none 0 0]) := by kernel_rfl
theorem sz146 : szOf Try.prog 146 = some 1 := by kernel_rfl
theorem co146 : Program.cellsOf Try.prog 146 = 1 := by kernel_rfl
theorem by146 : Program.bytesOf Try.prog 146 = 8 := by kernel_rfl
theorem ag146 : aggB Try.prog 146 = false := by kernel_rfl
theorem zv146 : wpO.zvOf Try.prog 146 = some [.nilFunc] := by kernel_rfl
theorem sz147 : szOf Try.prog 147 = some 1 := by kernel_rfl
theorem co147 : Program.cellsOf Try.prog 147 = 1 := by kernel_rfl
theorem by147 : Program.bytesOf Try.prog 147 = 8 := by kernel_rfl
theorem ag147 : aggB Try.prog 147 = false := by kernel_rfl
theorem zv147 : wpO.zvOf Try.prog 147 = some [.nilFunc] := by kernel_rfl
theorem sz148 : szOf Try.prog 148 = some 2 := by kernel_rfl
theorem co148 : Program.cellsOf Try.prog 148 = 2 := by kernel_rfl
theorem by148 : Program.bytesOf Try.prog 148 = 32 := by kernel_rfl
theorem ag148 : aggB Try.prog 148 = true := by kernel_rfl
theorem zv148 : wpO.zvOf Try.prog 148 = some [.int .i64 0, .slice none 0 0] := by kernel_rfl
theorem st148 : strOf Try.prog 148 = some [(3, 0), (38, 1)] := by kernel_rfl
theorem fl148_0 : fldOf Try.prog 148 0 = some (0, 3) := by kernel_rfl
theorem fl148_1 : fldOf Try.prog 148 1 = some (1, 38) := by kernel_rfl
theorem pl148 : plOf Try.prog 148 = some ([(0, 1), (1, 1)], [.int .i64 0, .slice none 0 0]) := by kernel_rfl
theorem sz149 : szOf Try.prog 149 = some 2 := by kernel_rfl
theorem co149 : Program.cellsOf Try.prog 149 = 2 := by kernel_rfl
theorem by149 : Program.bytesOf Try.prog 149 = 32 := by kernel_rfl
theorem ag149 : aggB Try.prog 149 = true := by kernel_rfl
theorem zv149 : wpO.zvOf Try.prog 149 = some [.int .i64 0, .slice none 0 0] := by kernel_rfl
theorem st149 : strOf Try.prog 149 = some [(3, 0), (38, 1)] := by kernel_rfl
theorem fl149_0 : fldOf Try.prog 149 0 = some (0, 3) := by kernel_rfl
theorem fl149_1 : fldOf Try.prog 149 1 = some (1, 38) := by kernel_rfl
theorem pl149 : plOf Try.prog 149 = some ([(0, 1), (1, 1)], [.int .i64 0, .slice none 0 0]) := by kernel_rfl
theorem sz150 : szOf Try.prog 150 = some 1 := by kernel_rfl
theorem co150 : Program.cellsOf Try.prog 150 = 1 := by kernel_rfl
theorem by150 : Program.bytesOf Try.prog 150 = 8 := by kernel_rfl
theorem ag150 : aggB Try.prog 150 = false := by kernel_rfl
theorem zv150 : wpO.zvOf Try.prog 150 = some [.nilFunc] := by kernel_rfl
theorem sz151 : szOf Try.prog 151 = some 1 := by kernel_rfl
theorem co151 : Program.cellsOf Try.prog 151 = 1 := by kernel_rfl
theorem by151 : Program.bytesOf Try.prog 151 = 8 := by kernel_rfl
theorem ag151 : aggB Try.prog 151 = false := by kernel_rfl
theorem zv151 : wpO.zvOf Try.prog 151 = some [.nilFunc] := by kernel_rfl
theorem sz152 : szOf Try.prog 152 = some 1 := by kernel_rfl
theorem co152 : Program.cellsOf Try.prog 152 = 1 := by kernel_rfl
theorem by152 : Program.bytesOf Try.prog 152 = 8 := by kernel_rfl
theorem ag152 : aggB Try.prog 152 = false := by kernel_rfl
theorem zv152 : wpO.zvOf Try.prog 152 = some [.nilFunc] := by kernel_rfl
theorem sz153 : szOf Try.prog 153 = some 1 := by kernel_rfl
theorem co153 : Program.cellsOf Try.prog 153 = 1 := by kernel_rfl
theorem by153 : Program.bytesOf Try.prog 153 = 24 := by kernel_rfl
theorem ag153 : aggB Try.prog 153 = false := by kernel_rfl
theorem zv153 : wpO.zvOf Try.prog 153 = some [.slice none 0 0] := by kernel_rfl
theorem sb153 : slB Try.prog 153 = true := by kernel_rfl
theorem un153 : Try.prog.underlying 153 = some (.slice 3) := by kernel_rfl
theorem el153 : elOf Try.prog 153 = some (3, 1) := by kernel_rfl
theorem ap153 : apOf Try.prog 153 = some (3, 1, 8, [.int .i64 0]) := by kernel_rfl
theorem sz154 : szOf Try.prog 154 = some 1 := by kernel_rfl
theorem co154 : Program.cellsOf Try.prog 154 = 1 := by kernel_rfl
theorem by154 : Program.bytesOf Try.prog 154 = 8 := by kernel_rfl
theorem ag154 : aggB Try.prog 154 = false := by kernel_rfl
theorem zv154 : wpO.zvOf Try.prog 154 = some [.nilFunc] := by kernel_rfl
theorem sz155 : szOf Try.prog 155 = some 1 := by kernel_rfl
theorem co155 : Program.cellsOf Try.prog 155 = 1 := by kernel_rfl
theorem by155 : Program.bytesOf Try.prog 155 = 8 := by kernel_rfl
theorem ag155 : aggB Try.prog 155 = false := by kernel_rfl
theorem zv155 : wpO.zvOf Try.prog 155 = some [.nilFunc] := by kernel_rfl
theorem sz156 : szOf Try.prog 156 = some 1 := by kernel_rfl
theorem co156 : Program.cellsOf Try.prog 156 = 1 := by kernel_rfl
theorem by156 : Program.bytesOf Try.prog 156 = 8 := by kernel_rfl
theorem ag156 : aggB Try.prog 156 = false := by kernel_rfl
theorem zv156 : wpO.zvOf Try.prog 156 = some [.nilFunc] := by kernel_rfl
theorem sz157 : szOf Try.prog 157 = some 1 := by kernel_rfl
theorem co157 : Program.cellsOf Try.prog 157 = 1 := by kernel_rfl
theorem by157 : Program.bytesOf Try.prog 157 = 8 := by kernel_rfl
theorem ag157 : aggB Try.prog 157 = false := by kernel_rfl
theorem zv157 : wpO.zvOf Try.prog 157 = some [.nilFunc] := by kernel_rfl
theorem sz158 : szOf Try.prog 158 = some 1 := by kernel_rfl
theorem co158 : Program.cellsOf Try.prog 158 = 1 := by kernel_rfl
theorem by158 : Program.bytesOf Try.prog 158 = 8 := by kernel_rfl
theorem ag158 : aggB Try.prog 158 = false := by kernel_rfl
theorem zv158 : wpO.zvOf Try.prog 158 = some [.nilFunc] := by kernel_rfl
theorem sz159 : szOf Try.prog 159 = some 1 := by kernel_rfl
theorem co159 : Program.cellsOf Try.prog 159 = 1 := by kernel_rfl
theorem by159 : Program.bytesOf Try.prog 159 = 8 := by kernel_rfl
theorem ag159 : aggB Try.prog 159 = false := by kernel_rfl
theorem zv159 : wpO.zvOf Try.prog 159 = some [.nilFunc] := by kernel_rfl
theorem sz160 : szOf Try.prog 160 = some 1 := by kernel_rfl
theorem co160 : Program.cellsOf Try.prog 160 = 1 := by kernel_rfl
theorem by160 : Program.bytesOf Try.prog 160 = 8 := by kernel_rfl
theorem ag160 : aggB Try.prog 160 = false := by kernel_rfl
theorem zv160 : wpO.zvOf Try.prog 160 = some [.nilFunc] := by kernel_rfl
theorem sz161 : szOf Try.prog 161 = some 1 := by kernel_rfl
theorem co161 : Program.cellsOf Try.prog 161 = 1 := by kernel_rfl
theorem by161 : Program.bytesOf Try.prog 161 = 8 := by kernel_rfl
theorem ag161 : aggB Try.prog 161 = false := by kernel_rfl
theorem zv161 : wpO.zvOf Try.prog 161 = some [.nilFunc] := by kernel_rfl
theorem sz162 : szOf Try.prog 162 = some 1 := by kernel_rfl
theorem co162 : Program.cellsOf Try.prog 162 = 1 := by kernel_rfl
theorem by162 : Program.bytesOf Try.prog 162 = 8 := by kernel_rfl
theorem ag162 : aggB Try.prog 162 = false := by kernel_rfl
theorem zv162 : wpO.zvOf Try.prog 162 = some [.nilFunc] := by kernel_rfl
theorem sz163 : szOf Try.prog 163 = some 1 := by kernel_rfl
theorem co163 : Program.cellsOf Try.prog 163 = 1 := by kernel_rfl
theorem by163 : Program.bytesOf Try.prog 163 = 8 := by kernel_rfl
theorem ag163 : aggB Try.prog 163 = false := by kernel_rfl
theorem zv163 : wpO.zvOf Try.prog 163 = some [.nilFunc] := by kernel_rfl
theorem sz164 : szOf Try.prog 164 = some 1 := by kernel_rfl
theorem co164 : Program.cellsOf Try.prog 164 = 1 := by kernel_rfl
theorem by164 : Program.bytesOf Try.prog 164 = 8 := by kernel_rfl
theorem ag164 : aggB Try.prog 164 = false := by kernel_rfl
theorem zv164 : wpO.zvOf Try.prog 164 = some [.nilFunc] := by kernel_rfl
theorem sz165 : szOf Try.prog 165 = some 1 := by kernel_rfl
theorem co165 : Program.cellsOf Try.prog 165 = 1 := by kernel_rfl
theorem by165 : Program.bytesOf Try.prog 165 = 8 := by kernel_rfl
theorem ag165 : aggB Try.prog 165 = false := by kernel_rfl
theorem zv165 : wpO.zvOf Try.prog 165 = some [.nilFunc] := by kernel_rfl
theorem sz166 : szOf Try.prog 166 = some 1 := by kernel_rfl
theorem co166 : Program.cellsOf Try.prog 166 = 1 := by kernel_rfl
theorem by166 : Program.bytesOf Try.prog 166 = 8 := by kernel_rfl
theorem ag166 : aggB Try.prog 166 = false := by kernel_rfl
theorem zv166 : wpO.zvOf Try.prog 166 = some [.nilFunc] := by kernel_rfl
theorem sz167 : szOf Try.prog 167 = some 1 := by kernel_rfl
theorem co167 : Program.cellsOf Try.prog 167 = 1 := by kernel_rfl
theorem by167 : Program.bytesOf Try.prog 167 = 24 := by kernel_rfl
theorem ag167 : aggB Try.prog 167 = false := by kernel_rfl
theorem zv167 : wpO.zvOf Try.prog 167 = some [.slice none 0 0] := by kernel_rfl
theorem sb167 : slB Try.prog 167 = true := by kernel_rfl
theorem un167 : Try.prog.underlying 167 = some (.slice 170) := by kernel_rfl
theorem el167 : elOf Try.prog 167 = some (170, 4) := by kernel_rfl
theorem ap167 : apOf Try.prog 167 = some (170, 4, 64, [.int .i64 0, .int .i64 0, .slice none 0 0, .slice none 0 0]) := by kernel_rfl
theorem sz168 : szOf Try.prog 168 = some 1 := by kernel_rfl
theorem co168 : Program.cellsOf Try.prog 168 = 1 := by kernel_rfl
theorem by168 : Program.bytesOf Try.prog 168 = 8 := by kernel_rfl
theorem ag168 : aggB Try.prog 168 = false := by kernel_rfl
theorem zv168 : wpO.zvOf Try.prog 168 = some [.nilFunc] := by kernel_rfl
theorem sz169 : szOf Try.prog 169 = some 4 := by kernel_rfl
theorem co169 : Program.cellsOf Try.prog 169 = 4 := by kernel_rfl
theorem by169 : Program.bytesOf Try.prog 169 = 64 := by kernel_rfl
theorem ag169 : aggB Try.prog 169 = true := by kernel_rfl
theorem zv169 : wpO.zvOf Try.prog 169 = some [.int .i64 0, .int .i64 0, .slice none 0 0, .slice none 0 0] := by kernel_rfl
theorem st169 : strOf Try.prog 169 = some [(3, 0), (3, 1), (38, 2), (167, 3)] := by kernel_rfl
theorem fl169_0 : fldOf Try.prog 169 0 = some (0, 3) := by kernel_rfl
theorem fl169_1 : fldOf Try.prog 169 1 = some (1, 3) := by kernel_rfl
theorem fl169_2 : fldOf Try.prog 169 2 = some (2, 38) := by kernel_rfl
theorem fl169_3 : fldOf Try.prog 169 3 = some (3, 167) := by kernel_rfl
theorem pl169 : plOf Try.prog 169 = some ([(0, 1), (1, 1), (2, 1), (3, 1)], [.int .i64 0, .int .i64 0, .slice none 0 0, .slice none 0 0]) := by kernel_rfl
theorem sz170 : szOf Try.prog 170 = some 4 := by kernel_rfl
theorem co170 : Program.cellsOf Try.prog 170 = 4 := by kernel_rfl
theorem by170 : Program.bytesOf Try.prog 170 = 64 := by kernel_rfl
theorem ag170 : aggB Try.prog 170 = true := by kernel_rfl
theorem zv170 : wpO.zvOf Try.prog 170 = some [.int .i64 0, .int .i64 0, .slice none 0 0, .slice none 0 0] := by kernel_rfl
theorem st170 : strOf Try.prog 170 = some [(3, 0), (3, 1), (38, 2), (167, 3)] := by kernel_rfl
theorem fl170_0 : fldOf Try.prog 170 0 = some (0, 3) := by kernel_rfl
theorem fl170_1 : fldOf Try.prog 170 1 = some (1, 3) := by kernel_rfl
theorem fl170_2 : fldOf Try.prog 170 2 = some (2, 38) := by kernel_rfl
theorem fl170_3 : fldOf Try.prog 170 3 = some (3, 167) := by kernel_rfl
theorem pl170 : plOf Try.prog 170 = some ([(0, 1), (1, 1), (2, 1), (3, 1)], [.int .i64 0, .int .i64 0, .slice none 0 0, .slice none 0 0]) := by kernel_rfl
theorem sz171 : szOf Try.prog 171 = some 1 := by kernel_rfl
theorem co171 : Program.cellsOf Try.prog 171 = 1 := by kernel_rfl
theorem by171 : Program.bytesOf Try.prog 171 = 8 := by kernel_rfl
theorem ag171 : aggB Try.prog 171 = false := by kernel_rfl
theorem zv171 : wpO.zvOf Try.prog 171 = some [.nilFunc] := by kernel_rfl
theorem sz172 : szOf Try.prog 172 = some 1 := by kernel_rfl
theorem co172 : Program.cellsOf Try.prog 172 = 1 := by kernel_rfl
theorem by172 : Program.bytesOf Try.prog 172 = 8 := by kernel_rfl
theorem ag172 : aggB Try.prog 172 = false := by kernel_rfl
theorem zv172 : wpO.zvOf Try.prog 172 = some [.map none] := by kernel_rfl
theorem sz174 : szOf Try.prog 174 = some 1 := by kernel_rfl
theorem co174 : Program.cellsOf Try.prog 174 = 1 := by kernel_rfl
theorem by174 : Program.bytesOf Try.prog 174 = 8 := by kernel_rfl
theorem ag174 : aggB Try.prog 174 = false := by kernel_rfl
theorem zv174 : wpO.zvOf Try.prog 174 = some [.nilFunc] := by kernel_rfl
theorem sz175 : szOf Try.prog 175 = some 1 := by kernel_rfl
theorem co175 : Program.cellsOf Try.prog 175 = 1 := by kernel_rfl
theorem by175 : Program.bytesOf Try.prog 175 = 8 := by kernel_rfl
theorem ag175 : aggB Try.prog 175 = false := by kernel_rfl
theorem zv175 : wpO.zvOf Try.prog 175 = some [.pointer none] := by kernel_rfl
theorem un175 : Try.prog.underlying 175 = some (.pointer 170) := by kernel_rfl
theorem sz176 : szOf Try.prog 176 = some 1 := by kernel_rfl
theorem co176 : Program.cellsOf Try.prog 176 = 1 := by kernel_rfl
theorem by176 : Program.bytesOf Try.prog 176 = 8 := by kernel_rfl
theorem ag176 : aggB Try.prog 176 = false := by kernel_rfl
theorem zv176 : wpO.zvOf Try.prog 176 = some [.nilFunc] := by kernel_rfl
theorem sz177 : szOf Try.prog 177 = some 1 := by kernel_rfl
theorem co177 : Program.cellsOf Try.prog 177 = 1 := by kernel_rfl
theorem by177 : Program.bytesOf Try.prog 177 = 8 := by kernel_rfl
theorem ag177 : aggB Try.prog 177 = false := by kernel_rfl
theorem zv177 : wpO.zvOf Try.prog 177 = some [.nilFunc] := by kernel_rfl
theorem sz178 : szOf Try.prog 178 = some 1 := by kernel_rfl
theorem co178 : Program.cellsOf Try.prog 178 = 1 := by kernel_rfl
theorem by178 : Program.bytesOf Try.prog 178 = 8 := by kernel_rfl
theorem ag178 : aggB Try.prog 178 = false := by kernel_rfl
theorem zv178 : wpO.zvOf Try.prog 178 = some [.nilFunc] := by kernel_rfl
theorem sz179 : szOf Try.prog 179 = some 1 := by kernel_rfl
theorem co179 : Program.cellsOf Try.prog 179 = 1 := by kernel_rfl
theorem by179 : Program.bytesOf Try.prog 179 = 8 := by kernel_rfl
theorem ag179 : aggB Try.prog 179 = false := by kernel_rfl
theorem zv179 : wpO.zvOf Try.prog 179 = some [.nilFunc] := by kernel_rfl
theorem sz180 : szOf Try.prog 180 = some 1 := by kernel_rfl
theorem co180 : Program.cellsOf Try.prog 180 = 1 := by kernel_rfl
theorem by180 : Program.bytesOf Try.prog 180 = 8 := by kernel_rfl
theorem ag180 : aggB Try.prog 180 = false := by kernel_rfl
theorem zv180 : wpO.zvOf Try.prog 180 = some [.nilFunc] := by kernel_rfl
theorem sz181 : szOf Try.prog 181 = some 1 := by kernel_rfl
theorem co181 : Program.cellsOf Try.prog 181 = 1 := by kernel_rfl
theorem by181 : Program.bytesOf Try.prog 181 = 24 := by kernel_rfl
theorem ag181 : aggB Try.prog 181 = false := by kernel_rfl
theorem zv181 : wpO.zvOf Try.prog 181 = some [.slice none 0 0] := by kernel_rfl
theorem sb181 : slB Try.prog 181 = true := by kernel_rfl
theorem un181 : Try.prog.underlying 181 = some (.slice 183) := by kernel_rfl
theorem el181 : elOf Try.prog 181 = some (183, 4) := by kernel_rfl
theorem ap181 : apOf Try.prog 181 = some (183, 4, 64, [.int .i64 0, .int .i64 0, .slice none 0 0, .slice none 0 0]) := by kernel_rfl
theorem sz182 : szOf Try.prog 182 = some 4 := by kernel_rfl
theorem co182 : Program.cellsOf Try.prog 182 = 4 := by kernel_rfl
theorem by182 : Program.bytesOf Try.prog 182 = 64 := by kernel_rfl
theorem ag182 : aggB Try.prog 182 = true := by kernel_rfl
theorem zv182 : wpO.zvOf Try.prog 182 = some [.int .i64 0, .int .i64 0, .slice none 0 0, .slice none 0 0] := by kernel_rfl
theorem st182 : strOf Try.prog 182 = some [(3, 0), (3, 1), (38, 2), (181, 3)] := by kernel_rfl
theorem fl182_0 : fldOf Try.prog 182 0 = some (0, 3) := by kernel_rfl
theorem fl182_1 : fldOf Try.prog 182 1 = some (1, 3) := by kernel_rfl
theorem fl182_2 : fldOf Try.prog 182 2 = some (2, 38) := by kernel_rfl
theorem fl182_3 : fldOf Try.prog 182 3 = some (3, 181) := by kernel_rfl
theorem pl182 : plOf Try.prog 182 = some ([(0, 1), (1, 1), (2, 1), (3, 1)], [.int .i64 0, .int .i64 0, .slice none 0 0, .slice none 0 0]) := by kernel_rfl
theorem sz183 : szOf Try.prog 183 = some 4 := by kernel_rfl
theorem co183 : Program.cellsOf Try.prog 183 = 4 := by kernel_rfl
theorem by183 : Program.bytesOf Try.prog 183 = 64 := by kernel_rfl
theorem ag183 : aggB Try.prog 183 = true := by kernel_rfl
theorem zv183 : wpO.zvOf Try.prog 183 = some [.int .i64 0, .int .i64 0, .slice none 0 0, .slice none 0 0] := by kernel_rfl
theorem st183 : strOf Try.prog 183 = some [(3, 0), (3, 1), (38, 2), (181, 3)] := by kernel_rfl
theorem fl183_0 : fldOf Try.prog 183 0 = some (0, 3) := by kernel_rfl
theorem fl183_1 : fldOf Try.prog 183 1 = some (1, 3) := by kernel_rfl
theorem fl183_2 : fldOf Try.prog 183 2 = some (2, 38) := by kernel_rfl
theorem fl183_3 : fldOf Try.prog 183 3 = some (3, 181) := by kernel_rfl
theorem pl183 : plOf Try.prog 183 = some ([(0, 1), (1, 1), (2, 1), (3, 1)], [.int .i64 0, .int .i64 0, .slice none 0 0, .slice none 0 0]) := by kernel_rfl
theorem sz184 : szOf Try.prog 184 = some 5 := by kernel_rfl
theorem co184 : Program.cellsOf Try.prog 184 = 5 := by kernel_rfl
theorem by184 : Program.bytesOf Try.prog 184 = 88 := by kernel_rfl
theorem ag184 : aggB Try.prog 184 = true := by kernel_rfl
theorem zv184 : wpO.zvOf Try.prog 184 = some [.int .i64 0, .int .i64 0, .slice none 0 0, .slice none 0 0, .slice none 0 0] := by kernel_rfl
theorem st184 : strOf Try.prog 184 = some [(183, 0), (37, 4)] := by kernel_rfl
theorem fl184_0 : fldOf Try.prog 184 0 = some (0, 183) := by kernel_rfl
theorem fl184_1 : fldOf Try.prog 184 1 = some (4, 37) := by kernel_rfl
theorem pl184 : plOf Try.prog 184 = some ([(0, 4), (4, 1)], [.int .i64 0, .int .i64 0, .slice none 0 0, .slice none 0 0, .slice none 0 0]) := by kernel_rfl
theorem sz185 : szOf Try.prog 185 = some 5 := by kernel_rfl
theorem co185 : Program.cellsOf Try.prog 185 = 5 := by kernel_rfl
theorem by185 : Program.bytesOf Try.prog 185 = 88 := by kernel_rfl
theorem ag185 : aggB Try.prog 185 = true := by kernel_rfl
theorem zv185 : wpO.zvOf Try.prog 185 = some [.int .i64 0, .int .i64 0, .slice none 0 0, .slice none 0 0, .slice none 0 0] := by kernel_rfl
theorem st185 : strOf Try.prog 185 = some [(183, 0), (37, 4)] := by kernel_rfl
theorem fl185_0 : fldOf Try.prog 185 0 = some (0, 183) := by kernel_rfl
theorem fl185_1 : fldOf Try.prog 185 1 = some (4, 37) := by kernel_rfl
theorem pl185 : plOf Try.prog 185 = some ([(0, 4), (4, 1)], [.int .i64 0, .int .i64 0, .slice none 0 0, .slice none 0 0, .slice none 0 0]) := by kernel_rfl
theorem sz186 : szOf Try.prog 186 = some 1 := by kernel_rfl
theorem co186 : Program.cellsOf Try.prog 186 = 1 := by kernel_rfl
theorem by186 : Program.bytesOf Try.prog 186 = 8 := by kernel_rfl
theorem ag186 : aggB Try.prog 186 = false := by kernel_rfl
theorem zv186 : wpO.zvOf Try.prog 186 = some [.nilFunc] := by kernel_rfl
theorem sz187 : szOf Try.prog 187 = some 5 := by kernel_rfl
theorem co187 : Program.cellsOf Try.prog 187 = 5 := by kernel_rfl
theorem by187 : Program.bytesOf Try.prog 187 = 88 := by kernel_rfl
theorem ag187 : aggB Try.prog 187 = true := by kernel_rfl
theorem zv187 : wpO.zvOf Try.prog 187 = some [.int .i64 0, .int .i64 0, .slice none 0 0, .slice none 0 0, .slice none 0 0] := by kernel_rfl
theorem st187 : strOf Try.prog 187 = some [(170, 0), (24, 4)] := by kernel_rfl
theorem fl187_0 : fldOf Try.prog 187 0 = some (0, 170) := by kernel_rfl
theorem fl187_1 : fldOf Try.prog 187 1 = some (4, 24) := by kernel_rfl
theorem pl187 : plOf Try.prog 187 = some ([(0, 4), (4, 1)], [.int .i64 0, .int .i64 0, .slice none 0 0, .slice none 0 0, .slice none 0 0]) := by kernel_rfl
theorem sz188 : szOf Try.prog 188 = some 5 := by kernel_rfl
theorem co188 : Program.cellsOf Try.prog 188 = 5 := by kernel_rfl
theorem by188 : Program.bytesOf Try.prog 188 = 88 := by kernel_rfl
theorem ag188 : aggB Try.prog 188 = true := by kernel_rfl
theorem zv188 : wpO.zvOf Try.prog 188 = some [.int .i64 0, .int .i64 0, .slice none 0 0, .slice none 0 0, .slice none 0 0] := by kernel_rfl
theorem st188 : strOf Try.prog 188 = some [(170, 0), (24, 4)] := by kernel_rfl
theorem fl188_0 : fldOf Try.prog 188 0 = some (0, 170) := by kernel_rfl
theorem fl188_1 : fldOf Try.prog 188 1 = some (4, 24) := by kernel_rfl
theorem pl188 : plOf Try.prog 188 = some ([(0, 4), (4, 1)], [.int .i64 0, .int .i64 0, .slice none 0 0, .slice none 0 0, .slice none 0 0]) := by kernel_rfl
theorem sz189 : szOf Try.prog 189 = some 1 := by kernel_rfl
theorem co189 : Program.cellsOf Try.prog 189 = 1 := by kernel_rfl
theorem by189 : Program.bytesOf Try.prog 189 = 8 := by kernel_rfl
theorem ag189 : aggB Try.prog 189 = false := by kernel_rfl
theorem zv189 : wpO.zvOf Try.prog 189 = some [.nilFunc] := by kernel_rfl
theorem sz190 : szOf Try.prog 190 = some 1 := by kernel_rfl
theorem co190 : Program.cellsOf Try.prog 190 = 1 := by kernel_rfl
theorem by190 : Program.bytesOf Try.prog 190 = 8 := by kernel_rfl
theorem ag190 : aggB Try.prog 190 = false := by kernel_rfl
theorem zv190 : wpO.zvOf Try.prog 190 = some [.nilFunc] := by kernel_rfl
theorem sz191 : szOf Try.prog 191 = some 1 := by kernel_rfl
theorem co191 : Program.cellsOf Try.prog 191 = 1 := by kernel_rfl
theorem by191 : Program.bytesOf Try.prog 191 = 8 := by kernel_rfl
theorem ag191 : aggB Try.prog 191 = false := by kernel_rfl
theorem zv191 : wpO.zvOf Try.prog 191 = some [.nilFunc] := by kernel_rfl
theorem sz192 : szOf Try.prog 192 = some 1 := by kernel_rfl
theorem co192 : Program.cellsOf Try.prog 192 = 1 := by kernel_rfl
theorem by192 : Program.bytesOf Try.prog 192 = 8 := by kernel_rfl
theorem ag192 : aggB Try.prog 192 = false := by kernel_rfl
theorem zv192 : wpO.zvOf Try.prog 192 = some [.nilFunc] := by kernel_rfl
theorem sz193 : szOf Try.prog 193 = some 1 := by kernel_rfl
theorem co193 : Program.cellsOf Try.prog 193 = 1 := by kernel_rfl
theorem by193 : Program.bytesOf Try.prog 193 = 8 := by kernel_rfl
theorem ag193 : aggB Try.prog 193 = false := by kernel_rfl
theorem zv193 : wpO.zvOf Try.prog 193 = some [.nilFunc] := by kernel_rfl
theorem sz194 : szOf Try.prog 194 = some 1 := by kernel_rfl
theorem co194 : Program.cellsOf Try.prog 194 = 1 := by kernel_rfl
theorem by194 : Program.bytesOf Try.prog 194 = 8 := by kernel_rfl
theorem ag194 : aggB Try.prog 194 = false := by kernel_rfl
theorem zv194 : wpO.zvOf Try.prog 194 = some [.nilFunc] := by kernel_rfl
theorem sz195 : szOf Try.prog 195 = some 1 := by kernel_rfl
theorem co195 : Program.cellsOf Try.prog 195 = 1 := by kernel_rfl
theorem by195 : Program.bytesOf Try.prog 195 = 24 := by kernel_rfl
theorem ag195 : aggB Try.prog 195 = false := by kernel_rfl
theorem zv195 : wpO.zvOf Try.prog 195 = some [.slice none 0 0] := by kernel_rfl
theorem sb195 : slB Try.prog 195 = true := by kernel_rfl
theorem un195 : Try.prog.underlying 195 = some (.slice 365) := by kernel_rfl
theorem el195 : elOf Try.prog 195 = some (365, 2) := by kernel_rfl
theorem ap195 : apOf Try.prog 195 = some (365, 2, 32, [.string ⟨#[]⟩, .string ⟨#[]⟩]) := by kernel_rfl
theorem sz196 : szOf Try.prog 196 = some 13 := by kernel_rfl
theorem co196 : Program.cellsOf Try.prog 196 = 13 := by kernel_rfl
theorem by196 : Program.bytesOf Try.prog 196 = 208 := by kernel_rfl
theorem ag196 : aggB Try.prog 196 = true := by kernel_rfl
theorem zv196 : wpO.zvOf Try.prog 196 = some [.int .i64 0, .int .i64 0, .int .i64 0, .slice none 0 0, .int .i64 0, .string ⟨#[]⟩, .int .i64 0, .int .i64 0, .slice none 0 0, .slice none 0 0, .slice none 0 0, .slice none 0 0, .slice none 0 0] := by kernel_rfl
theorem st196 : strOf Try.prog 196 = some [(3, 0), (3, 1), (3, 2), (195, 3), (77, 4), (75, 12)] := by kernel_rfl
theorem fl196_0 : fldOf Try.prog 196 0 = some (0, 3) := by kernel_rfl
theorem fl196_1 : fldOf Try.prog 196 1 = some (1, 3) := by kernel_rfl
theorem fl196_2 : fldOf Try.prog 196 2 = some (2, 3) := by kernel_rfl
theorem fl196_3 : fldOf Try.prog 196 3 = some (3, 195) := by kernel_rfl
theorem fl196_4 : fldOf Try.prog 196 4 = some (4, 77) := by kernel_rfl
theorem fl196_5 : fldOf Try.prog 196 5 = some (12, 75) := by kernel_rfl
theorem pl196 : plOf Try.prog 196 = some ([(0, 1), (1, 1), (2, 1), (3, 1), (4, 8), (12, 1)], [.int .i64 0, .int .i64 0, .int .i64 0, .slice none 0 0, .int .i64 0, .string ⟨#[]⟩, .int .i64 0, .int .i64 0, .slice none 0 0, .slice none 0 0, .slice none 0 0, .slice none 0 0, .slice none 0 0]) := by kernel_rfl
theorem sz197 : szOf Try.prog 197 = some 13 := by kernel_rfl
theorem co197 : Program.cellsOf Try.prog 197 = 13 := by kernel_rfl
theorem by197 : Program.bytesOf Try.prog 197 = 208 := by kernel_rfl
theorem ag197 : aggB Try.prog 197 = true := by kernel_rfl
theorem zv197 : wpO.zvOf Try.prog 197 = some [.int .i64 0, .int .i64 0, .int .i64 0, .slice none 0 0, .int .i64 0, .string ⟨#[]⟩, .int .i64 0, .int .i64 0, .slice none 0 0, .slice none 0 0, .slice none 0 0, .slice none 0 0, .slice none 0 0] := by kernel_rfl
theorem st197 : strOf Try.prog 197 = some [(3, 0), (3, 1), (3, 2), (195, 3), (77, 4), (75, 12)] := by kernel_rfl
theorem fl197_0 : fldOf Try.prog 197 0 = some (0, 3) := by kernel_rfl
theorem fl197_1 : fldOf Try.prog 197 1 = some (1, 3) := by kernel_rfl
theorem fl197_2 : fldOf Try.prog 197 2 = some (2, 3) := by kernel_rfl
theorem fl197_3 : fldOf Try.prog 197 3 = some (3, 195) := by kernel_rfl
theorem fl197_4 : fldOf Try.prog 197 4 = some (4, 77) := by kernel_rfl
theorem fl197_5 : fldOf Try.prog 197 5 = some (12, 75) := by kernel_rfl
theorem pl197 : plOf Try.prog 197 = some ([(0, 1), (1, 1), (2, 1), (3, 1), (4, 8), (12, 1)], [.int .i64 0, .int .i64 0, .int .i64 0, .slice none 0 0, .int .i64 0, .string ⟨#[]⟩, .int .i64 0, .int .i64 0, .slice none 0 0, .slice none 0 0, .slice none 0 0, .slice none 0 0, .slice none 0 0]) := by kernel_rfl
theorem sz198 : szOf Try.prog 198 = some 1 := by kernel_rfl
theorem co198 : Program.cellsOf Try.prog 198 = 1 := by kernel_rfl
theorem by198 : Program.bytesOf Try.prog 198 = 8 := by kernel_rfl
theorem ag198 : aggB Try.prog 198 = false := by kernel_rfl
theorem zv198 : wpO.zvOf Try.prog 198 = some [.nilFunc] := by kernel_rfl
theorem sz199 : szOf Try.prog 199 = some 1 := by kernel_rfl
theorem co199 : Program.cellsOf Try.prog 199 = 1 := by kernel_rfl
theorem by199 : Program.bytesOf Try.prog 199 = 8 := by kernel_rfl
theorem ag199 : aggB Try.prog 199 = false := by kernel_rfl
theorem zv199 : wpO.zvOf Try.prog 199 = some [.pointer none] := by kernel_rfl
theorem un199 : Try.prog.underlying 199 = some (.pointer 197) := by kernel_rfl
theorem sz200 : szOf Try.prog 200 = some 1 := by kernel_rfl
theorem co200 : Program.cellsOf Try.prog 200 = 1 := by kernel_rfl
theorem by200 : Program.bytesOf Try.prog 200 = 8 := by kernel_rfl
theorem ag200 : aggB Try.prog 200 = false := by kernel_rfl
theorem zv200 : wpO.zvOf Try.prog 200 = some [.nilFunc] := by kernel_rfl
theorem sz201 : szOf Try.prog 201 = some 1 := by kernel_rfl
theorem co201 : Program.cellsOf Try.prog 201 = 1 := by kernel_rfl
theorem by201 : Program.bytesOf Try.prog 201 = 8 := by kernel_rfl
theorem ag201 : aggB Try.prog 201 = false := by kernel_rfl
theorem zv201 : wpO.zvOf Try.prog 201 = some [.pointer none] := by kernel_rfl
theorem un201 : Try.prog.underlying 201 = some (.pointer 77) := by kernel_rfl
theorem sz202 : szOf Try.prog 202 = some 1 := by kernel_rfl
theorem co202 : Program.cellsOf Try.prog 202 = 1 := by kernel_rfl
theorem by202 : Program.bytesOf Try.prog 202 = 8 := by kernel_rfl
theorem ag202 : aggB Try.prog 202 = false := by kernel_rfl
theorem zv202 : wpO.zvOf Try.prog 202 = some [.nilFunc] := by kernel_rfl
theorem sz203 : szOf Try.prog 203 = some 1 := by kernel_rfl
theorem co203 : Program.cellsOf Try.prog 203 = 1 := by kernel_rfl
theorem by203 : Program.bytesOf Try.prog 203 = 8 := by kernel_rfl
theorem ag203 : aggB Try.prog 203 = false := by kernel_rfl
theorem zv203 : wpO.zvOf Try.prog 203 = some [.nilFunc] := by kernel_rfl
theorem sz204 : szOf Try.prog 204 = some 1 := by kernel_rfl
theorem co204 : Program.cellsOf Try.prog 204 = 1 := by kernel_rfl
theorem by204 : Program.bytesOf Try.prog 204 = 8 := by kernel_rfl
theorem ag204 : aggB Try.prog 204 = false := by kernel_rfl
theorem zv204 : wpO.zvOf Try.prog 204 = some [.nilFunc] := by kernel_rfl
theorem sz205 : szOf Try.prog 205 = some 1 := by kernel_rfl
theorem co205 : Program.cellsOf Try.prog 205 = 1 := by kernel_rfl
theorem by205 : Program.bytesOf Try.prog 205 = 8 := by kernel_rfl
theorem ag205 : aggB Try.prog 205 = false := by kernel_rfl
theorem zv205 : wpO.zvOf Try.prog 205 = some [.nilFunc] := by kernel_rfl
theorem sz206 : szOf Try.prog 206 = some 4 := by kernel_rfl
theorem co206 : Program.cellsOf Try.prog 206 = 4 := by kernel_rfl
theorem by206 : Program.bytesOf Try.prog 206 = 72 := by kernel_rfl
theorem ag206 : aggB Try.prog 206 = true := by kernel_rfl
theorem zv206 : wpO.zvOf Try.prog 206 = some [.string ⟨#[]⟩, .int .i64 0, .slice none 0 0, .slice none 0 0] := by kernel_rfl
theorem st206 : strOf Try.prog 206 = some [(9, 0), (74, 1)] := by kernel_rfl
theorem fl206_0 : fldOf Try.prog 206 0 = some (0, 9) := by kernel_rfl
theorem fl206_1 : fldOf Try.prog 206 1 = some (1, 74) := by kernel_rfl
theorem pl206 : plOf Try.prog 206 = some ([(0, 1), (1, 3)], [.string ⟨#[]⟩, .int .i64 0, .slice none 0 0, .slice none 0 0]) := by kernel_rfl
theorem sz207 : szOf Try.prog 207 = some 4 := by kernel_rfl
theorem co207 : Program.cellsOf Try.prog 207 = 4 := by kernel_rfl
theorem by207 : Program.bytesOf Try.prog 207 = 72 := by kernel_rfl
theorem ag207 : aggB Try.prog 207 = true := by kernel_rfl
theorem zv207 : wpO.zvOf Try.prog 207 = some [.string ⟨#[]⟩, .int .i64 0, .slice none 0 0, .slice none 0 0] := by kernel_rfl
theorem st207 : strOf Try.prog 207 = some [(9, 0), (74, 1)] := by kernel_rfl
theorem fl207_0 : fldOf Try.prog 207 0 = some (0, 9) := by kernel_rfl
theorem fl207_1 : fldOf Try.prog 207 1 = some (1, 74) := by kernel_rfl
theorem pl207 : plOf Try.prog 207 = some ([(0, 1), (1, 3)], [.string ⟨#[]⟩, .int .i64 0, .slice none 0 0, .slice none 0 0]) := by kernel_rfl
theorem sz208 : szOf Try.prog 208 = some 1 := by kernel_rfl
theorem co208 : Program.cellsOf Try.prog 208 = 1 := by kernel_rfl
theorem by208 : Program.bytesOf Try.prog 208 = 8 := by kernel_rfl
theorem ag208 : aggB Try.prog 208 = false := by kernel_rfl
theorem zv208 : wpO.zvOf Try.prog 208 = some [.nilFunc] := by kernel_rfl
theorem sz209 : szOf Try.prog 209 = some 1 := by kernel_rfl
theorem co209 : Program.cellsOf Try.prog 209 = 1 := by kernel_rfl
theorem by209 : Program.bytesOf Try.prog 209 = 8 := by kernel_rfl
theorem ag209 : aggB Try.prog 209 = false := by kernel_rfl
theorem zv209 : wpO.zvOf Try.prog 209 = some [.nilFunc] := by kernel_rfl
theorem sz210 : szOf Try.prog 210 = some 1 := by kernel_rfl
theorem co210 : Program.cellsOf Try.prog 210 = 1 := by kernel_rfl
theorem by210 : Program.bytesOf Try.prog 210 = 8 := by kernel_rfl
theorem ag210 : aggB Try.prog 210 = false := by kernel_rfl
theorem zv210 : wpO.zvOf Try.prog 210 = some [.nilFunc] := by kernel_rfl
theorem sz211 : szOf Try.prog 211 = some 1 := by kernel_rfl
theorem co211 : Program.cellsOf Try.prog 211 = 1 := by kernel_rfl
theorem by211 : Program.bytesOf Try.prog 211 = 8 := by kernel_rfl
theorem ag211 : aggB Try.prog 211 = false := by kernel_rfl
theorem zv211 : wpO.zvOf Try.prog 211 = some [.nilFunc] := by kernel_rfl
theorem sz212 : szOf Try.prog 212 = some 1 := by kernel_rfl
theorem co212 : Program.cellsOf Try.prog 212 = 1 := by kernel_rfl
theorem by212 : Program.bytesOf Try.prog 212 = 24 := by kernel_rfl
theorem ag212 : aggB Try.prog 212 = false := by kernel_rfl
theorem zv212 : wpO.zvOf Try.prog 212 = some [.slice none 0 0] := by kernel_rfl
theorem sb212 : slB Try.prog 212 = true := by kernel_rfl
theorem un212 : Try.prog.underlying 212 = some (.slice 214) := by kernel_rfl
theorem el212 : elOf Try.prog 212 = some (214, 12) := by kernel_rfl
theorem ap212 : apOf Try.prog 212 = some (214, 12, 216, [.int .i64 0, .int .i64 0, .string ⟨#[]⟩, .int .i64 0, .int .i64 0, .slice none 0 0, .slice none 0 0, .slice none 0 0, .slice none 0 0, .slice none 0 0, .slice none 0 0, .slice none 0 0]) := by kernel_rfl
theorem sz213 : szOf Try.prog 213 = some 12 := by kernel_rfl
theorem co213 : Program.cellsOf Try.prog 213 = 12 := by kernel_rfl
theorem by213 : Program.bytesOf Try.prog 213 = 216 := by kernel_rfl
theorem ag213 : aggB Try.prog 213 = true := by kernel_rfl
theorem zv213 : wpO.zvOf Try.prog 213 = some [.int .i64 0, .int .i64 0, .string ⟨#[]⟩, .int .i64 0, .int .i64 0, .slice none 0 0, .slice none 0 0, .slice none 0 0, .slice none 0 0, .slice none 0 0, .slice none 0 0, .slice none 0 0] := by kernel_rfl
theorem st213 : strOf Try.prog 213 = some [(3, 0), (77, 1), (38, 9), (212, 10), (113, 11)] := by kernel_rfl
theorem fl213_0 : fldOf Try.prog 213 0 = some (0, 3) := by kernel_rfl
theorem fl213_1 : fldOf Try.prog 213 1 = some (1, 77) := by kernel_rfl
theorem fl213_2 : fldOf Try.prog 213 2 = some (9, 38) := by kernel_rfl
theorem fl213_3 : fldOf Try.prog 213 3 = some (10, 212) := by kernel_rfl
theorem fl213_4 : fldOf Try.prog 213 4 = some (11, 113) := by kernel_rfl
theorem pl213 : plOf Try.prog 213 = some ([(0, 1), (1, 8), (9, 1), (10, 1), (11, 1)], [.int .i64 0, .int .i64 0, .string ⟨#[]⟩, .int .i64 0, .int .i64 0, .slice none 0 0, .slice none 0 0, .slice none 0 0, .slice none 0 0, .slice none 0 0, .slice none 0 0, .slice none 0 0]) := by kernel_rfl
theorem sz214 : szOf Try.prog 214 = some 12 := by kernel_rfl
theorem co214 : Program.cellsOf Try.prog 214 = 12 := by kernel_rfl
theorem by214 : Program.bytesOf Try.prog 214 = 216 := by kernel_rfl
theorem ag214 : aggB Try.prog 214 = true := by kernel_rfl
theorem zv214 : wpO.zvOf Try.prog 214 = some [.int .i64 0, .int .i64 0, .string ⟨#[]⟩, .int .i64 0, .int .i64 0, .slice none 0 0, .slice none 0 0, .slice none 0 0, .slice none 0 0, .slice none 0 0, .slice none 0 0, .slice none 0 0] := by kernel_rfl
theorem st214 : strOf Try.prog 214 = some [(3, 0), (77, 1), (38, 9), (212, 10), (113, 11)] := by kernel_rfl
theorem fl214_0 : fldOf Try.prog 214 0 = some (0, 3) := by kernel_rfl
theorem fl214_1 : fldOf Try.prog 214 1 = some (1, 77) := by kernel_rfl
theorem fl214_2 : fldOf Try.prog 214 2 = some (9, 38) := by kernel_rfl
theorem fl214_3 : fldOf Try.prog 214 3 = some (10, 212) := by kernel_rfl
theorem fl214_4 : fldOf Try.prog 214 4 = some (11, 113) := by kernel_rfl
theorem pl214 : plOf Try.prog 214 = some ([(0, 1), (1, 8), (9, 1), (10, 1), (11, 1)], [.int .i64 0, .int .i64 0, .string ⟨#[]⟩, .int .i64 0, .int .i64 0, .slice none 0 0, .slice none 0 0, .slice none 0 0, .slice none 0 0, .slice none 0 0, .slice none 0 0, .slice none 0 0]) := by kernel_rfl
theorem sz215 : szOf Try.prog 215 = some 21 := by kernel_rfl
theorem co215 : Program.cellsOf Try.prog 215 = 21 := by kernel_rfl
theorem by215 : Program.bytesOf Try.prog 215 = 376 := by kernel_rfl
theorem ag215 : aggB Try.prog 215 = true := by kernel_rfl
theorem zv215 : wpO.zvOf Try.prog 215 = some [.slice none 0 0, .int .i64 0, .string ⟨#[]⟩, .int .i64 0, .int .i64 0, .slice none 0 0, .slice none 0 0, .slice none 0 0, .slice none 0 0, .int .i64 0, .int .i64 0, .string ⟨#[]⟩, .int .i64 0, .int .i64 0, .slice none 0 0, .slice none 0 0, .slice none 0 0, .slice none 0 0, .slice none 0 0, .slice none 0 0, .slice none 0 0] := by kernel_rfl
theorem st215 : strOf Try.prog 215 = some [(195, 0), (77, 1), (214, 9)] := by kernel_rfl
theorem fl215_0 : fldOf Try.prog 215 0 = some (0, 195) := by kernel_rfl
theorem fl215_1 : fldOf Try.prog 215 1 = some (1, 77) := by kernel_rfl
theorem fl215_2 : fldOf Try.prog 215 2 = some (9, 214) := by kernel_rfl
theorem pl215 : plOf Try.prog 215 = some ([(0, 1), (1, 8), (9, 12)], [.slice none 0 0, .int .i64 0, .string ⟨#[]⟩, .int .i64 0, .int .i64 0, .slice none 0 0, .slice none 0 0, .slice none 0 0, .slice none 0 0, .int .i64 0, .int .i64 0, .string ⟨#[]⟩, .int .i64 0, .int .i64 0, .slice none 0 0, .slice none 0 0, .slice none 0 0, .slice none 0 0, .slice none 0 0, .slice none 0 0, .slice none 0 0]) := by kernel_rfl
theorem sz216 : szOf Try.prog 216 = some 21 := by kernel_rfl
theorem co216 : Program.cellsOf Try.prog 216 = 21 := by kernel_rfl
theorem by216 : Program.bytesOf Try.prog 216 = 376 := by kernel_rfl
theorem ag216 : aggB Try.prog 216 = true := by kernel_rfl
theorem zv216 : wpO.zvOf Try.prog 216 = some [.slice none 0 0, .int .i64 0, .string ⟨#[]⟩, .int .i64 0, .int .i64 0, .slice none 0 0, .slice none 0 0, .slice none 0 0, .slice none 0 0, .int .i64 0, .int .i64 0, .string ⟨#[]⟩, .int .i64 0, .int .i64 0, .slice none 0 0, .slice none 0 0, .slice none 0 0, .slice none 0 0, .slice none 0 0, .slice none 0 0, .slice none 0 0] := by kernel_rfl
theorem st216 : strOf Try.prog 216 = some [(195, 0), (77, 1), (214, 9)] := by kernel_rfl
theorem fl216_0 : fldOf Try.prog 216 0 = some (0, 195) := by kernel_rfl
theorem fl216_1 : fldOf Try.prog 216 1 = some (1, 77) := by kernel_rfl
theorem fl216_2 : fldOf Try.prog 216 2 = some (9, 214) := by kernel_rfl
theorem pl216 : plOf Try.prog 216 = some ([(0, 1), (1, 8), (9, 12)], [.slice none 0 0, .int .i64 0, .string ⟨#[]⟩, .int .i64 0, .int .i64 0, .slice none 0 0, .slice none 0 0, .slice none 0 0, .slice none 0 0, .int .i64 0, .int .i64 0, .string ⟨#[]⟩, .int .i64 0, .int .i64 0, .slice none 0 0, .slice none 0 0, .slice none 0 0, .slice none 0 0, .slice none 0 0, .slice none 0 0, .slice none 0 0]) := by kernel_rfl
theorem sz217 : szOf Try.prog 217 = some 1 := by kernel_rfl
theorem co217 : Program.cellsOf Try.prog 217 = 1 := by kernel_rfl
theorem by217 : Program.bytesOf Try.prog 217 = 24 := by kernel_rfl
theorem ag217 : aggB Try.prog 217 = false := by kernel_rfl
theorem zv217 : wpO.zvOf Try.prog 217 = some [.slice none 0 0] := by kernel_rfl
theorem sb217 : slB Try.prog 217 = true := by kernel_rfl
theorem un217 : Try.prog.underlying 217 = some (.slice 113) := by kernel_rfl
theorem el217 : elOf Try.prog 217 = some (113, 1) := by kernel_rfl
theorem ap217 : apOf Try.prog 217 = some (113, 1, 24, [.slice none 0 0]) := by kernel_rfl
theorem sz218 : szOf Try.prog 218 = some 1 := by kernel_rfl
theorem co218 : Program.cellsOf Try.prog 218 = 1 := by kernel_rfl
theorem by218 : Program.bytesOf Try.prog 218 = 8 := by kernel_rfl
theorem ag218 : aggB Try.prog 218 = false := by kernel_rfl
theorem zv218 : wpO.zvOf Try.prog 218 = some [.nilFunc] := by kernel_rfl
theorem sz219 : szOf Try.prog 219 = some 1 := by kernel_rfl
theorem co219 : Program.cellsOf Try.prog 219 = 1 := by kernel_rfl
theorem by219 : Program.bytesOf Try.prog 219 = 8 := by kernel_rfl
theorem ag219 : aggB Try.prog 219 = false := by kernel_rfl
theorem zv219 : wpO.zvOf Try.prog 219 = some [.nilFunc] := by kernel_rfl
theorem sz220 : szOf Try.prog 220 = some 1 := by kernel_rfl
theorem co220 : Program.cellsOf Try.prog 220 = 1 := by kernel_rfl
theorem by220 : Program.bytesOf Try.prog 220 = 8 := by kernel_rfl
theorem ag220 : aggB Try.prog 220 = false := by kernel_rfl
theorem zv220 : wpO.zvOf Try.prog 220 = some [.nilFunc] := by kernel_rfl
theorem sz221 : szOf Try.prog 221 = some 1 := by kernel_rfl
theorem co221 : Program.cellsOf Try.prog 221 = 1 := by kernel_rfl
theorem by221 : Program.bytesOf Try.prog 221 = 8 := by kernel_rfl
theorem ag221 : aggB Try.prog 221 = false := by kernel_rfl
theorem zv221 : wpO.zvOf Try.prog 221 = some [.pointer none] := by kernel_rfl
theorem un221 : Try.prog.underlying 221 = some (.pointer 113) := by kernel_rfl
theorem sz222 : szOf Try.prog 222 = some 1 := by kernel_rfl
theorem co222 : Program.cellsOf Try.prog 222 = 1 := by kernel_rfl
theorem by222 : Program.bytesOf Try.prog 222 = 8 := by kernel_rfl
theorem ag222 : aggB Try.prog 222 = false := by kernel_rfl
theorem zv222 : wpO.zvOf Try.prog 222 = some [.nilFunc] := by kernel_rfl
theorem sz223 : szOf Try.prog 223 = some 1 := by kernel_rfl
theorem co223 : Program.cellsOf Try.prog 223 = 1 := by kernel_rfl
theorem by223 : Program.bytesOf Try.prog 223 = 8 := by kernel_rfl
theorem ag223 : aggB Try.prog 223 = false := by kernel_rfl
theorem zv223 : wpO.zvOf Try.prog 223 = some [.nilFunc] := by kernel_rfl
theorem sz224 : szOf Try.prog 224 = some 1 := by kernel_rfl
theorem co224 : Program.cellsOf Try.prog 224 = 1 := by kernel_rfl
theorem by224 : Program.bytesOf Try.prog 224 = 8 := by kernel_rfl
theorem ag224 : aggB Try.prog 224 = false := by kernel_rfl
theorem zv224 : wpO.zvOf Try.prog 224 = some [.nilFunc] := by kernel_rfl
theorem sz225 : szOf Try.prog 225 = some 1 := by kernel_rfl
theorem co225 : Program.cellsOf Try.prog 225 = 1 := by kernel_rfl
theorem by225 : Program.bytesOf Try.prog 225 = 8 := by kernel_rfl
theorem ag225 : aggB Try.prog 225 = false := by kernel_rfl
theorem zv225 : wpO.zvOf Try.prog 225 = some [.nilFunc] := by kernel_rfl
theorem sz226 : szOf Try.prog 226 = some 1 := by kernel_rfl
theorem co226 : Program.cellsOf Try.prog 226 = 1 := by kernel_rfl
theorem by226 : Program.bytesOf Try.prog 226 = 8 := by kernel_rfl
theorem ag226 : aggB Try.prog 226 = false := by kernel_rfl
theorem zv226 : wpO.zvOf Try.prog 226 = some [.pointer none] := by kernel_rfl
theorem un226 : Try.prog.underlying 226 = some (.pointer 214) := by kernel_rfl
theorem sz227 : szOf Try.prog 227 = some 1 := by kernel_rfl
theorem co227 : Program.cellsOf Try.prog 227 = 1 := by kernel_rfl
theorem by227 : Program.bytesOf Try.prog 227 = 8 := by kernel_rfl
theorem ag227 : aggB Try.prog 227 = false := by kernel_rfl
theorem zv227 : wpO.zvOf Try.prog 227 = some [.nilFunc] := by kernel_rfl
theorem sz228 : szOf Try.prog 228 = some 1 := by kernel_rfl
theorem co228 : Program.cellsOf Try.prog 228 = 1 := by kernel_rfl
theorem by228 : Program.bytesOf Try.prog 228 = 8 := by kernel_rfl
theorem ag228 : aggB Try.prog 228 = false := by kernel_rfl
theorem zv228 : wpO.zvOf Try.prog 228 = some [.nilFunc] := by kernel_rfl
theorem sz229 : szOf Try.prog 229 = some 1 := by kernel_rfl
theorem co229 : Program.cellsOf Try.prog 229 = 1 := by kernel_rfl
theorem by229 : Program.bytesOf Try.prog 229 = 8 := by kernel_rfl
theorem ag229 : aggB Try.prog 229 = false := by kernel_rfl
theorem zv229 : wpO.zvOf Try.prog 229 = some [.nilFunc] := by kernel_rfl
theorem sz230 : szOf Try.prog 230 = some 1 := by kernel_rfl
theorem co230 : Program.cellsOf Try.prog 230 = 1 := by kernel_rfl
theorem by230 : Program.bytesOf Try.prog 230 = 8 := by kernel_rfl
theorem ag230 : aggB Try.prog 230 = false := by kernel_rfl
theorem zv230 : wpO.zvOf Try.prog 230 = some [.nilFunc] := by kernel_rfl
theorem sz231 : szOf Try.prog 231 = some 1 := by kernel_rfl
theorem co231 : Program.cellsOf Try.prog 231 = 1 := by kernel_rfl
theorem by231 : Program.bytesOf Try.prog 231 = 8 := by kernel_rfl
theorem ag231 : aggB Try.prog 231 = false := by kernel_rfl
theorem zv231 : wpO.zvOf Try.prog 231 = some [.nilFunc] := by kernel_rfl
theorem sz232 : szOf Try.prog 232 = some 1 := by kernel_rfl
theorem co232 : Program.cellsOf Try.prog 232 = 1 := by kernel_rfl
theorem by232 : Program.bytesOf Try.prog 232 = 8 := by kernel_rfl
theorem ag232 : aggB Try.prog 232 = false := by kernel_rfl
theorem zv232 : wpO.zvOf Try.prog 232 = some [.nilFunc] := by kernel_rfl
theorem sz233 : szOf Try.prog 233 = some 1 := by kernel_rfl
theorem co233 : Program.cellsOf Try.prog 233 = 1 := by kernel_rfl
theorem by233 : Program.bytesOf Try.prog 233 = 8 := by kernel_rfl
theorem ag233 : aggB Try.prog 233 = false := by kernel_rfl
theorem zv233 : wpO.zvOf Try.prog 233 = some [.nilFunc] := by kernel_rfl
theorem sz234 : szOf Try.prog 234 = some 1 := by kernel_rfl
theorem co234 : Program.cellsOf Try.prog 234 = 1 := by kernel_rfl
theorem by234 : Program.bytesOf Try.prog 234 = 8 := by kernel_rfl
theorem ag234 : aggB Try.prog 234 = false := by kernel_rfl
theorem zv234 : wpO.zvOf Try.prog 234 = some [.nilFunc] := by kernel_rfl
theorem sz235 : szOf Try.prog 235 = some 1 := by kernel_rfl
theorem co235 : Program.cellsOf Try.prog 235 = 1 := by kernel_rfl
theorem by235 : Program.bytesOf Try.prog 235 = 8 := by kernel_rfl
theorem ag235 : aggB Try.prog 235 = false := by kernel_rfl
theorem zv235 : wpO.zvOf Try.prog 235 = some [.nilFunc] := by kernel_rfl
theorem sz236 : szOf Try.prog 236 = some 1 := by kernel_rfl
theorem co236 : Program.cellsOf Try.prog 236 = 1 := by kernel_rfl
theorem by236 : Program.bytesOf Try.prog 236 = 8 := by kernel_rfl
theorem ag236 : aggB Try.prog 236 = false := by kernel_rfl
theorem zv236 : wpO.zvOf Try.prog 236 = some [.nilFunc] := by kernel_rfl
theorem sz237 : szOf Try.prog 237 = some 1 := by kernel_rfl
theorem co237 : Program.cellsOf Try.prog 237 = 1 := by kernel_rfl
theorem by237 : Program.bytesOf Try.prog 237 = 8 := by kernel_rfl
theorem ag237 : aggB Try.prog 237 = false := by kernel_rfl
theorem zv237 : wpO.zvOf Try.prog 237 = some [.nilFunc] := by kernel_rfl
theorem sz238 : szOf Try.prog 238 = some 1 := by kernel_rfl
theorem co238 : Program.cellsOf Try.prog 238 = 1 := by kernel_rfl
theorem by238 : Program.bytesOf Try.prog 238 = 8 := by kernel_rfl
theorem ag238 : aggB Try.prog 238 = false := by kernel_rfl
theorem zv238 : wpO.zvOf Try.prog 238 = some [.nilFunc] := by kernel_rfl
theorem sz240 : szOf Try.prog 240 = some 1 := by kernel_rfl
theorem co240 : Program.cellsOf Try.prog 240 = 1 := by kernel_rfl
theorem by240 : Program.bytesOf Try.prog 240 = 8 := by kernel_rfl
theorem ag240 : aggB Try.prog 240 = false := by kernel_rfl
theorem zv240 : wpO.zvOf Try.prog 240 = some [.nilFunc] := by kernel_rfl
theorem sz241 : szOf Try.prog 241 = some 1 := by kernel_rfl
theorem co241 : Program.cellsOf Try.prog 241 = 1 := by kernel_rfl
theorem by241 : Program.bytesOf Try.prog 241 = 8 := by kernel_rfl
theorem ag241 : aggB Try.prog 241 = false := by kernel_rfl
theorem zv241 : wpO.zvOf Try.prog 241 = some [.pointer none] := by kernel_rfl
theorem un241 : Try.prog.underlying 241 = some (.pointer 128) := by kernel_rfl
theorem sz242 : szOf Try.prog 242 = some 1 := by kernel_rfl
theorem co242 : Program.cellsOf Try.prog 242 = 1 := by kernel_rfl
theorem by242 : Program.bytesOf Try.prog 242 = 8 := by kernel_rfl
theorem ag242 : aggB Try.prog 242 = false := by kernel_rfl
theorem zv242 : wpO.zvOf Try.prog 242 = some [.nilFunc] := by kernel_rfl
theorem sz243 : szOf Try.prog 243 = some 1 := by kernel_rfl
theorem co243 : Program.cellsOf Try.prog 243 = 1 := by kernel_rfl
theorem by243 : Program.bytesOf Try.prog 243 = 8 := by kernel_rfl
theorem ag243 : aggB Try.prog 243 = false := by kernel_rfl
theorem zv243 : wpO.zvOf Try.prog 243 = some [.nilFunc] := by kernel_rfl
theorem sz244 : szOf Try.prog 244 = some 1 := by kernel_rfl
theorem co244 : Program.cellsOf Try.prog 244 = 1 := by kernel_rfl
theorem by244 : Program.bytesOf Try.prog 244 = 8 := by kernel_rfl
theorem ag244 : aggB Try.prog 244 = false := by kernel_rfl
theorem zv244 : wpO.zvOf Try.prog 244 = some [.nilFunc] := by kernel_rfl
theorem sz245 : szOf Try.prog 245 = some 1 := by kernel_rfl
theorem co245 : Program.cellsOf Try.prog 245 = 1 := by kernel_rfl
theorem by245 : Program.bytesOf Try.prog 245 = 8 := by kernel_rfl
theorem ag245 : aggB Try.prog 245 = false := by kernel_rfl
theorem zv245 : wpO.zvOf Try.prog 245 = some [.nilFunc] := by kernel_rfl
theorem sz246 : szOf Try.prog 246 = some 1 := by kernel_rfl
theorem co246 : Program.cellsOf Try.prog 246 = 1 := by kernel_rfl
theorem by246 : Program.bytesOf Try.prog 246 = 8 := by kernel_rfl
theorem ag246 : aggB Try.prog 246 = false := by kernel_rfl
theorem zv246 : wpO.zvOf Try.prog 246 = some [.nilFunc] := by kernel_rfl
theorem sz247 : szOf Try.prog 247 = some 1 := by kernel_rfl
theorem co247 : Program.cellsOf Try.prog 247 = 1 := by kernel_rfl
theorem by247 : Program.bytesOf Try.prog 247 = 8 := by kernel_rfl
theorem ag247 : aggB Try.prog 247 = false := by kernel_rfl
theorem zv247 : wpO.zvOf Try.prog 247 = some [.nilFunc] := by kernel_rfl
theorem sz248 : szOf Try.prog 248 = some 1 := by kernel_rfl
theorem co248 : Program.cellsOf Try.prog 248 = 1 := by kernel_rfl
theorem by248 : Program.bytesOf Try.prog 248 = 8 := by kernel_rfl
theorem ag248 : aggB Try.prog 248 = false := by kernel_rfl
theorem zv248 : wpO.zvOf Try.prog 248 = some [.nilFunc] := by kernel_rfl
theorem sz249 : szOf Try.prog 249 = some 1 := by kernel_rfl
theorem co249 : Program.cellsOf Try.prog 249 = 1 := by kernel_rfl
theorem by249 : Program.bytesOf Try.prog 249 = 8 := by kernel_rfl
theorem ag249 : aggB Try.prog 249 = false := by kernel_rfl
theorem zv249 : wpO.zvOf Try.prog 249 = some [.nilFunc] := by kernel_rfl
theorem sz250 : szOf Try.prog 250 = some 2 := by kernel_rfl
theorem co250 : Program.cellsOf Try.prog 250 = 2 := by kernel_rfl
theorem by250 : Program.bytesOf Try.prog 250 = 40 := by kernel_rfl
theorem ag250 : aggB Try.prog 250 = true := by kernel_rfl
theorem zv250 : wpO.zvOf Try.prog 250 = some [.string ⟨#[]⟩, .slice none 0 0] := by kernel_rfl
theorem st250 : strOf Try.prog 250 = some [(9, 0), (167, 1)] := by kernel_rfl
theorem fl250_0 : fldOf Try.prog 250 0 = some (0, 9) := by kernel_rfl
theorem fl250_1 : fldOf Try.prog 250 1 = some (1, 167) := by kernel_rfl
theorem pl250 : plOf Try.prog 250 = some ([(0, 1), (1, 1)], [.string ⟨#[]⟩, .slice none 0 0]) := by kernel_rfl
theorem sz251 : szOf Try.prog 251 = some 2 := by kernel_rfl
theorem co251 : Program.cellsOf Try.prog 251 = 2 := by kernel_rfl
theorem by251 : Program.bytesOf Try.prog 251 = 40 := by kernel_rfl
theorem ag251 : aggB Try.prog 251 = true := by kernel_rfl
theorem zv251 : wpO.zvOf Try.prog 251 = some [.string ⟨#[]⟩, .slice none 0 0] := by kernel_rfl
theorem st251 : strOf Try.prog 251 = some [(9, 0), (167, 1)] := by kernel_rfl
theorem fl251_0 : fldOf Try.prog 251 0 = some (0, 9) := by kernel_rfl
theorem fl251_1 : fldOf Try.prog 251 1 = some (1, 167) := by kernel_rfl
theorem pl251 : plOf Try.prog 251 = some ([(0, 1), (1, 1)], [.string ⟨#[]⟩, .slice none 0 0]) := by kernel_rfl
theorem sz252 : szOf Try.prog 252 = some 1 := by kernel_rfl
theorem co252 : Program.cellsOf Try.prog 252 = 1 := by kernel_rfl
theorem by252 : Program.bytesOf Try.prog 252 = 8 := by kernel_rfl
theorem ag252 : aggB Try.prog 252 = false := by kernel_rfl
theorem zv252 : wpO.zvOf Try.prog 252 = some [.nilFunc] := by kernel_rfl
theorem sz253 : szOf Try.prog 253 = some 1 := by kernel_rfl
theorem co253 : Program.cellsOf Try.prog 253 = 1 := by kernel_rfl
theorem by253 : Program.bytesOf Try.prog 253 = 8 := by kernel_rfl
theorem ag253 : aggB Try.prog 253 = false := by kernel_rfl
theorem zv253 : wpO.zvOf Try.prog 253 = some [.nilFunc] := by kernel_rfl
theorem sz254 : szOf Try.prog 254 = some 1 := by kernel_rfl
theorem co254 : Program.cellsOf Try.prog 254 = 1 := by kernel_rfl
theorem by254 : Program.bytesOf Try.prog 254 = 8 := by kernel_rfl
theorem ag254 : aggB Try.prog 254 = false := by kernel_rfl
theorem zv254 : wpO.zvOf Try.prog 254 = some [.pointer none] := by kernel_rfl
theorem un254 : Try.prog.underlying 254 = some (.pointer 74) := by kernel_rfl
theorem sz255 : szOf Try.prog 255 = some 1 := by kernel_rfl
theorem co255 : Program.cellsOf Try.prog 255 = 1 := by kernel_rfl
theorem by255 : Program.bytesOf Try.prog 255 = 8 := by kernel_rfl
theorem ag255 : aggB Try.prog 255 = false := by kernel_rfl
theorem zv255 : wpO.zvOf Try.prog 255 = some [.nilFunc] := by kernel_rfl
theorem sz256 : szOf Try.prog 256 = some 1 := by kernel_rfl
theorem co256 : Program.cellsOf Try.prog 256 = 1 := by kernel_rfl
theorem by256 : Program.bytesOf Try.prog 256 = 8 := by kernel_rfl
theorem ag256 : aggB Try.prog 256 = false := by kernel_rfl
theorem zv256 : wpO.zvOf Try.prog 256 = some [.nilFunc] := by kernel_rfl
theorem sz257 : szOf Try.prog 257 = some 1 := by kernel_rfl
theorem co257 : Program.cellsOf Try.prog 257 = 1 := by kernel_rfl
theorem by257 : Program.bytesOf Try.prog 257 = 8 := by kernel_rfl
theorem ag257 : aggB Try.prog 257 = false := by kernel_rfl
theorem zv257 : wpO.zvOf Try.prog 257 = some [.nilFunc] := by kernel_rfl
theorem sz258 : szOf Try.prog 258 = some 1 := by kernel_rfl
theorem co258 : Program.cellsOf Try.prog 258 = 1 := by kernel_rfl
theorem by258 : Program.bytesOf Try.prog 258 = 8 := by kernel_rfl
theorem ag258 : aggB Try.prog 258 = false := by kernel_rfl
theorem zv258 : wpO.zvOf Try.prog 258 = some [.nilFunc] := by kernel_rfl
theorem sz259 : szOf Try.prog 259 = some 1 := by kernel_rfl
theorem co259 : Program.cellsOf Try.prog 259 = 1 := by kernel_rfl
theorem by259 : Program.bytesOf Try.prog 259 = 8 := by kernel_rfl
theorem ag259 : aggB Try.prog 259 = false := by kernel_rfl
theorem zv259 : wpO.zvOf Try.prog 259 = some [.nilFunc] := by kernel_rfl
theorem sz260 : szOf Try.prog 260 = some 1 := by kernel_rfl
theorem co260 : Program.cellsOf Try.prog 260 = 1 := by kernel_rfl
theorem by260 : Program.bytesOf Try.prog 260 = 8 := by kernel_rfl
theorem ag260 : aggB Try.prog 260 = false := by kernel_rfl
theorem zv260 : wpO.zvOf Try.prog 260 = some [.nilFunc] := by kernel_rfl
theorem sz261 : szOf Try.prog 261 = some 2 := by kernel_rfl
theorem co261 : Program.cellsOf Try.prog 261 = 2 := by kernel_rfl
theorem by261 : Program.bytesOf Try.prog 261 = 32 := by kernel_rfl
theorem ag261 : aggB Try.prog 261 = true := by kernel_rfl
theorem zv261 : wpO.zvOf Try.prog 261 = some [.int .i64 0, .slice none 0 0] := by kernel_rfl
theorem st261 : strOf Try.prog 261 = some [(3, 0), (38, 1)] := by kernel_rfl
theorem fl261_0 : fldOf Try.prog 261 0 = some (0, 3) := by kernel_rfl
theorem fl261_1 : fldOf Try.prog 261 1 = some (1, 38) := by kernel_rfl
theorem pl261 : plOf Try.prog 261 = some ([(0, 1), (1, 1)], [.int .i64 0, .slice none 0 0]) := by kernel_rfl
theorem sz262 : szOf Try.prog 262 = some 1 := by kernel_rfl
theorem co262 : Program.cellsOf Try.prog 262 = 1 := by kernel_rfl
theorem by262 : Program.bytesOf Try.prog 262 = 8 := by kernel_rfl
theorem ag262 : aggB Try.prog 262 = false := by kernel_rfl
theorem zv262 : wpO.zvOf Try.prog 262 = some [.nilFunc] := by kernel_rfl
theorem sz263 : szOf Try.prog 263 = some 1 := by kernel_rfl
theorem co263 : Program.cellsOf Try.prog 263 = 1 := by kernel_rfl
theorem by263 : Program.bytesOf Try.prog 263 = 8 := by kernel_rfl
theorem ag263 : aggB Try.prog 263 = false := by kernel_rfl
theorem zv263 : wpO.zvOf Try.prog 263 = some [.nilFunc] := by kernel_rfl
theorem sz264 : szOf Try.prog 264 = some 1 := by kernel_rfl
theorem co264 : Program.cellsOf Try.prog 264 = 1 := by kernel_rfl
theorem by264 : Program.bytesOf Try.prog 264 = 8 := by kernel_rfl
theorem ag264 : aggB Try.prog 264 = false := by kernel_rfl
theorem zv264 : wpO.zvOf Try.prog 264 = some [.nilFunc] := by kernel_rfl
theorem sz265 : szOf Try.prog 265 = some 1 := by kernel_rfl
theorem co265 : Program.cellsOf Try.prog 265 = 1 := by kernel_rfl
theorem by265 : Program.bytesOf Try.prog 265 = 8 := by kernel_rfl
theorem ag265 : aggB Try.prog 265 = false := by kernel_rfl
theorem zv265 : wpO.zvOf Try.prog 265 = some [.nilFunc] := by kernel_rfl
theorem sz266 : szOf Try.prog 266 = some 1 := by kernel_rfl
theorem co266 : Program.cellsOf Try.prog 266 = 1 := by kernel_rfl
theorem by266 : Program.bytesOf Try.prog 266 = 8 := by kernel_rfl
theorem ag266 : aggB Try.prog 266 = false := by kernel_rfl
theorem zv266 : wpO.zvOf Try.prog 266 = some [.nilFunc] := by kernel_rfl
theorem sz267 : szOf Try.prog 267 = some 2 := by kernel_rfl
theorem co267 : Program.cellsOf Try.prog 267 = 2 := by kernel_rfl
theorem by267 : Program.bytesOf Try.prog 267 = 40 := by kernel_rfl
theorem ag267 : aggB Try.prog 267 = true := by kernel_rfl
theorem zv267 : wpO.zvOf Try.prog 267 = some [.string ⟨#[]⟩, .slice none 0 0] := by kernel_rfl
theorem st267 : strOf Try.prog 267 = some [(9, 0), (181, 1)] := by kernel_rfl
theorem fl267_0 : fldOf Try.prog 267 0 = some (0, 9) := by kernel_rfl
theorem fl267_1 : fldOf Try.prog 267 1 = some (1, 181) := by kernel_rfl
theorem pl267 : plOf Try.prog 267 = some ([(0, 1), (1, 1)], [.string ⟨#[]⟩, .slice none 0 0]) := by kernel_rfl
theorem sz268 : szOf Try.prog 268 = some 2 := by kernel_rfl
theorem co268 : Program.cellsOf Try.prog 268 = 2 := by kernel_rfl
theorem by268 : Program.bytesOf Try.prog 268 = 40 := by kernel_rfl
theorem ag268 : aggB Try.prog 268 = true := by kernel_rfl
theorem zv268 : wpO.zvOf Try.prog 268 = some [.string ⟨#[]⟩, .slice none 0 0] := by kernel_rfl
theorem st268 : strOf Try.prog 268 = some [(9, 0), (181, 1)] := by kernel_rfl
theorem fl268_0 : fldOf Try.prog 268 0 = some (0, 9) := by kernel_rfl
theorem fl268_1 : fldOf Try.prog 268 1 = some (1, 181) := by kernel_rfl
theorem pl268 : plOf Try.prog 268 = some ([(0, 1), (1, 1)], [.string ⟨#[]⟩, .slice none 0 0]) := by kernel_rfl
theorem sz269 : szOf Try.prog 269 = some 1 := by kernel_rfl
theorem co269 : Program.cellsOf Try.prog 269 = 1 := by kernel_rfl
theorem by269 : Program.bytesOf Try.prog 269 = 8 := by kernel_rfl
theorem ag269 : aggB Try.prog 269 = false := by kernel_rfl
theorem zv269 : wpO.zvOf Try.prog 269 = some [.nilFunc] := by kernel_rfl
theorem sz270 : szOf Try.prog 270 = some 1 := by kernel_rfl
theorem co270 : Program.cellsOf Try.prog 270 = 1 := by kernel_rfl
theorem by270 : Program.bytesOf Try.prog 270 = 8 := by kernel_rfl
theorem ag270 : aggB Try.prog 270 = false := by kernel_rfl
theorem zv270 : wpO.zvOf Try.prog 270 = some [.nilFunc] := by kernel_rfl
theorem sz271 : szOf Try.prog 271 = some 1 := by kernel_rfl
theorem co271 : Program.cellsOf Try.prog 271 = 1 := by kernel_rfl
theorem by271 : Program.bytesOf Try.prog 271 = 8 := by kernel_rfl
theorem ag271 : aggB Try.prog 271 = false := by kernel_rfl
theorem zv271 : wpO.zvOf Try.prog 271 = some [.nilFunc] := by kernel_rfl
theorem sz272 : szOf Try.prog 272 = some 1 := by kernel_rfl
theorem co272 : Program.cellsOf Try.prog 272 = 1 := by kernel_rfl
theorem by272 : Program.bytesOf Try.prog 272 = 8 := by kernel_rfl
theorem ag272 : aggB Try.prog 272 = false := by kernel_rfl
theorem zv272 : wpO.zvOf Try.prog 272 = some [.nilFunc] := by kernel_rfl
theorem sz273 : szOf Try.prog 273 = some 1 := by kernel_rfl
theorem co273 : Program.cellsOf Try.prog 273 = 1 := by kernel_rfl
theorem by273 : Program.bytesOf Try.prog 273 = 8 := by kernel_rfl
theorem ag273 : aggB Try.prog 273 = false := by kernel_rfl
theorem zv273 : wpO.zvOf Try.prog 273 = some [.nilFunc] := by kernel_rfl
theorem sz274 : szOf Try.prog 274 = some 1 := by kernel_rfl
theorem co274 : Program.cellsOf Try.prog 274 = 1 := by kernel_rfl
theorem by274 : Program.bytesOf Try.prog 274 = 8 := by kernel_rfl
theorem ag274 : aggB Try.prog 274 = false := by kernel_rfl
theorem zv274 : wpO.zvOf Try.prog 274 = some [.nilFunc] := by kernel_rfl
theorem sz275 : szOf Try.prog 275 = some 1 := by kernel_rfl
theorem co275 : Program.cellsOf Try.prog 275 = 1 := by kernel_rfl
theorem by275 : Program.bytesOf Try.prog 275 = 8 := by kernel_rfl
theorem ag275 : aggB Try.prog 275 = false := by kernel_rfl
theorem zv275 : wpO.zvOf Try.prog 275 = some [.nilFunc] := by kernel_rfl
theorem sz276 : szOf Try.prog 276 = some 1 := by kernel_rfl
theorem co276 : Program.cellsOf Try.prog 276 = 1 := by kernel_rfl
theorem by276 : Program.bytesOf Try.prog 276 = 8 := by kernel_rfl
theorem ag276 : aggB Try.prog 276 = false := by kernel_rfl
theorem zv276 : wpO.zvOf Try.prog 276 = some [.nilFunc] := by kernel_rfl
theorem sz277 : szOf Try.prog 277 = some 1 := by kernel_rfl
theorem co277 : Program.cellsOf Try.prog 277 = 1 := by kernel_rfl
theorem by277 : Program.bytesOf Try.prog 277 = 8 := by kernel_rfl
theorem ag277 : aggB Try.prog 277 = false := by kernel_rfl
theorem zv277 : wpO.zvOf Try.prog 277 = some [.nilFunc] := by kernel_rfl
theorem sz278 : szOf Try.prog 278 = some 1 := by kernel_rfl
theorem co278 : Program.cellsOf Try.prog 278 = 1 := by kernel_rfl
theorem by278 : Program.bytesOf Try.prog 278 = 8 := by kernel_rfl
theorem ag278 : aggB Try.prog 278 = false := by kernel_rfl
theorem zv278 : wpO.zvOf Try.prog 278 = some [.nilFunc] := by kernel_rfl
theorem sz279 : szOf Try.prog 279 = some 1 := by kernel_rfl
theorem co279 : Program.cellsOf Try.prog 279 = 1 := by kernel_rfl
theorem by279 : Program.bytesOf Try.prog 279 = 8 := by kernel_rfl
theorem ag279 : aggB Try.prog 279 = false := by kernel_rfl
theorem zv279 : wpO.zvOf Try.prog 279 = some [.nilFunc] := by kernel_rfl
theorem sz280 : szOf Try.prog 280 = some 1 := by kernel_rfl
theorem co280 : Program.cellsOf Try.prog 280 = 1 := by kernel_rfl
theorem by280 : Program.bytesOf Try.prog 280 = 8 := by kernel_rfl
theorem ag280 : aggB Try.prog 280 = false := by kernel_rfl
theorem zv280 : wpO.zvOf Try.prog 280 = some [.nilFunc] := by kernel_rfl
theorem sz281 : szOf Try.prog 281 = some 1 := by kernel_rfl
theorem co281 : Program.cellsOf Try.prog 281 = 1 := by kernel_rfl
theorem by281 : Program.bytesOf Try.prog 281 = 24 := by kernel_rfl
theorem ag281 : aggB Try.prog 281 = false := by kernel_rfl
theorem zv281 : wpO.zvOf Try.prog 281 = some [.slice none 0 0] := by kernel_rfl
theorem sb281 : slB Try.prog 281 = true := by kernel_rfl
theorem un281 : Try.prog.underlying 281 = some (.slice 364) := by kernel_rfl
theorem el281 : elOf Try.prog 281 = some (364, 2) := by kernel_rfl
theorem ap281 : apOf Try.prog 281 = some (364, 2, 32, [.string ⟨#[]⟩, .string ⟨#[]⟩]) := by kernel_rfl
theorem sz282 : szOf Try.prog 282 = some 13 := by kernel_rfl
theorem co282 : Program.cellsOf Try.prog 282 = 13 := by kernel_rfl
theorem by282 : Program.bytesOf Try.prog 282 = 208 := by kernel_rfl
theorem ag282 : aggB Try.prog 282 = true := by kernel_rfl
theorem zv282 : wpO.zvOf Try.prog 282 = some [.int .i64 0, .int .i64 0, .int .i64 0, .slice none 0 0, .int .i64 0, .string ⟨#[]⟩, .int .i64 0, .int .i64 0, .slice none 0 0, .slice none 0 0, .slice none 0 0, .slice none 0 0, .slice none 0 0] := by kernel_rfl
theorem st282 : strOf Try.prog 282 = some [(3, 0), (3, 1), (3, 2), (281, 3), (67, 4), (65, 12)] := by kernel_rfl
theorem fl282_0 : fldOf Try.prog 282 0 = some (0, 3) := by kernel_rfl
theorem fl282_1 : fldOf Try.prog 282 1 = some (1, 3) := by kernel_rfl
theorem fl282_2 : fldOf Try.prog 282 2 = some (2, 3) := by kernel_rfl
theorem fl282_3 : fldOf Try.prog 282 3 = some (3, 281) := by kernel_rfl
theorem fl282_4 : fldOf Try.prog 282 4 = some (4, 67) := by kernel_rfl
theorem fl282_5 : fldOf Try.prog 282 5 = some (12, 65) := by kernel_rfl
theorem pl282 : plOf Try.prog 282 = some ([(0, 1), (1, 1), (2, 1), (3, 1), (4, 8), (12, 1)], [.int .i64 0, .int .i64 0, .int .i64 0, .slice none 0 0, .int .i64 0, .string ⟨#[]⟩, .int .i64 0, .int .i64 0, .slice none 0 0, .slice none 0 0, .slice none 0 0, .slice none 0 0, .slice none 0 0]) := by kernel_rfl
theorem sz283 : szOf Try.prog 283 = some 13 := by kernel_rfl
theorem co283 : Program.cellsOf Try.prog 283 = 13 := by kernel_rfl
theorem by283 : Program.bytesOf Try.prog 283 = 208 := by kernel_rfl
theorem ag283 : aggB Try.prog 283 = true := by kernel_rfl
theorem zv283 : wpO.zvOf Try.prog 283 = some [.int .i64 0, .int .i64 0, .int .i64 0, .slice none 0 0, .int .i64 0, .string ⟨#[]⟩, .int .i64 0, .int .i64 0, .slice none 0 0, .slice none 0 0, .slice none 0 0, .slice none 0 0, .slice none 0 0] := by kernel_rfl
theorem st283 : strOf Try.prog 283 = some [(3, 0), (3, 1), (3, 2), (281, 3), (67, 4), (65, 12)] := by kernel_rfl
theorem fl283_0 : fldOf Try.prog 283 0 = some (0, 3) := by kernel_rfl
theorem fl283_1 : fldOf Try.prog 283 1 = some (1, 3) := by kernel_rfl
theorem fl283_2 : fldOf Try.prog 283 2 = some (2, 3) := by kernel_rfl
theorem fl283_3 : fldOf Try.prog 283 3 = some (3, 281) := by kernel_rfl
theorem fl283_4 : fldOf Try.prog 283 4 = some (4, 67) := by kernel_rfl
theorem fl283_5 : fldOf Try.prog 283 5 = some (12, 65) := by kernel_rfl
theorem pl283 : plOf Try.prog 283 = some ([(0, 1), (1, 1), (2, 1), (3, 1), (4, 8), (12, 1)], [.int .i64 0, .int .i64 0, .int .i64 0, .slice none 0 0, .int .i64 0, .string ⟨#[]⟩, .int .i64 0, .int .i64 0, .slice none 0 0, .slice none 0 0, .slice none 0 0, .slice none 0 0, .slice none 0 0]) := by kernel_rfl
theorem sz284 : szOf Try.prog 284 = some 1 := by kernel_rfl
theorem co284 : Program.cellsOf Try.prog 284 = 1 := by kernel_rfl
theorem by284 : Program.bytesOf Try.prog 284 = 8 := by kernel_rfl
theorem ag284 : aggB Try.prog 284 = false := by kernel_rfl
theorem zv284 : wpO.zvOf Try.prog 284 = some [.nilFunc] := by kernel_rfl
theorem sz285 : szOf Try.prog 285 = some 1 := by kernel_rfl
theorem co285 : Program.cellsOf Try.prog 285 = 1 := by kernel_rfl
theorem by285 : Program.bytesOf Try.prog 285 = 8 := by kernel_rfl
theorem ag285 : aggB Try.prog 285 = false := by kernel_rfl
theorem zv285 : wpO.zvOf Try.prog 285 = some [.nilFunc] := by kernel_rfl
theorem sz286 : szOf Try.prog 286 = some 1 := by kernel_rfl
theorem co286 : Program.cellsOf Try.prog 286 = 1 := by kernel_rfl
theorem by286 : Program.bytesOf Try.prog 286 = 8 := by kernel_rfl
theorem ag286 : aggB Try.prog 286 = false := by kernel_rfl
theorem zv286 : wpO.zvOf Try.prog 286 = some [.nilFunc] := by kernel_rfl
theorem sz288 : szOf Try.prog 288 = some 1 := by kernel_rfl
theorem co288 : Program.cellsOf Try.prog 288 = 1 := by kernel_rfl
theorem by288 : Program.bytesOf Try.prog 288 = 8 := by kernel_rfl
theorem ag288 : aggB Try.prog 288 = false := by kernel_rfl
theorem zv288 : wpO.zvOf Try.prog 288 = some [.nilFunc] := by kernel_rfl
theorem sz289 : szOf Try.prog 289 = some 1 := by kernel_rfl
theorem co289 : Program.cellsOf Try.prog 289 = 1 := by kernel_rfl
theorem by289 : Program.bytesOf Try.prog 289 = 8 := by kernel_rfl
theorem ag289 : aggB Try.prog 289 = false := by kernel_rfl
theorem zv289 : wpO.zvOf Try.prog 289 = some [.nilFunc] := by kernel_rfl
theorem sz290 : szOf Try.prog 290 = some 1 := by kernel_rfl
theorem co290 : Program.cellsOf Try.prog 290 = 1 := by kernel_rfl
theorem by290 : Program.bytesOf Try.prog 290 = 8 := by kernel_rfl
theorem ag290 : aggB Try.prog 290 = false := by kernel_rfl
theorem zv290 : wpO.zvOf Try.prog 290 = some [.nilFunc] := by kernel_rfl
theorem sz291 : szOf Try.prog 291 = some 1 := by kernel_rfl
theorem co291 : Program.cellsOf Try.prog 291 = 1 := by kernel_rfl
theorem by291 : Program.bytesOf Try.prog 291 = 8 := by kernel_rfl
theorem ag291 : aggB Try.prog 291 = false := by kernel_rfl
theorem zv291 : wpO.zvOf Try.prog 291 = some [.nilFunc] := by kernel_rfl
theorem sz292 : szOf Try.prog 292 = some 1 := by kernel_rfl
theorem co292 : Program.cellsOf Try.prog 292 = 1 := by kernel_rfl
theorem by292 : Program.bytesOf Try.prog 292 = 8 := by kernel_rfl
theorem ag292 : aggB Try.prog 292 = false := by kernel_rfl
theorem zv292 : wpO.zvOf Try.prog 292 = some [.nilFunc] := by kernel_rfl
theorem sz293 : szOf Try.prog 293 = some 1 := by kernel_rfl
theorem co293 : Program.cellsOf Try.prog 293 = 1 := by kernel_rfl
theorem by293 : Program.bytesOf Try.prog 293 = 24 := by kernel_rfl
theorem ag293 : aggB Try.prog 293 = false := by kernel_rfl
theorem zv293 : wpO.zvOf Try.prog 293 = some [.slice none 0 0] := by kernel_rfl
theorem sb293 : slB Try.prog 293 = true := by kernel_rfl
theorem un293 : Try.prog.underlying 293 = some (.slice 295) := by kernel_rfl
theorem el293 : elOf Try.prog 293 = some (295, 12) := by kernel_rfl
theorem ap293 : apOf Try.prog 293 = some (295, 12, 216, [.int .i64 0, .int .i64 0, .string ⟨#[]⟩, .int .i64 0, .int .i64 0, .slice none 0 0, .slice none 0 0, .slice none 0 0, .slice none 0 0, .slice none 0 0, .slice none 0 0, .slice none 0 0]) := by kernel_rfl
theorem sz294 : szOf Try.prog 294 = some 12 := by kernel_rfl
theorem co294 : Program.cellsOf Try.prog 294 = 12 := by kernel_rfl
theorem by294 : Program.bytesOf Try.prog 294 = 216 := by kernel_rfl
theorem ag294 : aggB Try.prog 294 = true := by kernel_rfl
theorem zv294 : wpO.zvOf Try.prog 294 = some [.int .i64 0, .int .i64 0, .string ⟨#[]⟩, .int .i64 0, .int .i64 0, .slice none 0 0, .slice none 0 0, .slice none 0 0, .slice none 0 0, .slice none 0 0, .slice none 0 0, .slice none 0 0] := by kernel_rfl
theorem st294 : strOf Try.prog 294 = some [(3, 0), (67, 1), (38, 9), (293, 10), (108, 11)] := by kernel_rfl
theorem fl294_0 : fldOf Try.prog 294 0 = some (0, 3) := by kernel_rfl
theorem fl294_1 : fldOf Try.prog 294 1 = some (1, 67) := by kernel_rfl
theorem fl294_2 : fldOf Try.prog 294 2 = some (9, 38) := by kernel_rfl
theorem fl294_3 : fldOf Try.prog 294 3 = some (10, 293) := by kernel_rfl
theorem fl294_4 : fldOf Try.prog 294 4 = some (11, 108) := by kernel_rfl
theorem pl294 : plOf Try.prog 294 = some ([(0, 1), (1, 8), (9, 1), (10, 1), (11, 1)], [.int .i64 0, .int .i64 0, .string ⟨#[]⟩, .int .i64 0, .int .i64 0, .slice none 0 0, .slice none 0 0, .slice none 0 0, .slice none 0 0, .slice none 0 0, .slice none 0 0, .slice none 0 0]) := by kernel_rfl
theorem sz295 : szOf Try.prog 295 = some 12 := by kernel_rfl
theorem co295 : Program.cellsOf Try.prog 295 = 12 := by kernel_rfl
theorem by295 : Program.bytesOf Try.prog 295 = 216 := by kernel_rfl
theorem ag295 : aggB Try.prog 295 = true := by kernel_rfl
theorem zv295 : wpO.zvOf Try.prog 295 = some [.int .i64 0, .int .i64 0, .string ⟨#[]⟩, .int .i64 0, .int .i64 0, .slice none 0 0, .slice none 0 0, .slice none 0 0, .slice none 0 0, .slice none 0 0, .slice none 0 0, .slice none 0 0] := by kernel_rfl
theorem st295 : strOf Try.prog 295 = some [(3, 0), (67, 1), (38, 9), (293, 10), (108, 11)] := by kernel_rfl
theorem fl295_0 : fldOf Try.prog 295 0 = some (0, 3) := by kernel_rfl
theorem fl295_1 : fldOf Try.prog 295 1 = some (1, 67) := by kernel_rfl
theorem fl295_2 : fldOf Try.prog 295 2 = some (9, 38) := by kernel_rfl
theorem fl295_3 : fldOf Try.prog 295 3 = some (10, 293) := by kernel_rfl
theorem fl295_4 : fldOf Try.prog 295 4 = some (11, 108) := by kernel_rfl
theorem pl295 : plOf Try.prog 295 = some ([(0, 1), (1, 8), (9, 1), (10, 1), (11, 1)], [.int .i64 0, .int .i64 0, .string ⟨#[]⟩, .int .i64 0, .int .i64 0, .slice none 0 0, .slice none 0 0, .slice none 0 0, .slice none 0 0, .slice none 0 0, .slice none 0 0, .slice none 0 0]) := by kernel_rfl
theorem sz296 : szOf Try.prog 296 = some 21 := by kernel_rfl
theorem co296 : Program.cellsOf Try.prog 296 = 21 := by kernel_rfl
theorem by296 : Program.bytesOf Try.prog 296 = 376 := by kernel_rfl
theorem ag296 : aggB Try.prog 296 = true := by kernel_rfl
theorem zv296 : wpO.zvOf Try.prog 296 = some [.slice none 0 0, .int .i64 0, .string ⟨#[]⟩, .int .i64 0, .int .i64 0, .slice none 0 0, .slice none 0 0, .slice none 0 0, .slice none 0 0, .int .i64 0, .int .i64 0, .string ⟨#[]⟩, .int .i64 0, .int .i64 0, .slice none 0 0, .slice none 0 0, .slice none 0 0, .slice none 0 0, .slice none 0 0, .slice none 0 0, .slice none 0 0] := by kernel_rfl
theorem st296 : strOf Try.prog 296 = some [(281, 0), (67, 1), (295, 9)] := by kernel_rfl
theorem fl296_0 : fldOf Try.prog 296 0 = some (0, 281) := by kernel_rfl
theorem fl296_1 : fldOf Try.prog 296 1 = some (1, 67) := by kernel_rfl
theorem fl296_2 : fldOf Try.prog 296 2 = some (9, 295) := by kernel_rfl
theorem pl296 : plOf Try.prog 296 = some ([(0, 1), (1, 8), (9, 12)], [.slice none 0 0, .int .i64 0, .string ⟨#[]⟩, .int .i64 0, .int .i64 0, .slice none 0 0, .slice none 0 0, .slice none 0 0, .slice none 0 0, .int .i64 0, .int .i64 0, .string ⟨#[]⟩, .int .i64 0, .int .i64 0, .slice none 0 0, .slice none 0 0, .slice none 0 0, .slice none 0 0, .slice none 0 0, .slice none 0 0, .slice none 0 0]) := by kernel_rfl
theorem sz297 : szOf Try.prog 297 = some 21 := by kernel_rfl
theorem co297 : Program.cellsOf Try.prog 297 = 21 := by kernel_rfl
theorem by297 : Program.bytesOf Try.prog 297 = 376 := by kernel_rfl
theorem ag297 : aggB Try.prog 297 = true := by kernel_rfl
theorem zv297 : wpO.zvOf Try.prog 297 = some [.slice none 0 0, .int .i64 0, .string ⟨#[]⟩, .int .i64 0, .int .i64 0, .slice none 0 0, .slice none 0 0, .slice none 0 0, .slice none 0 0, .int .i64 0, .int .i64 0, .string ⟨#[]⟩, .int .i64 0, .int .i64 0, .slice none 0 0, .slice none 0 0, .slice none 0 0, .slice none 0 0, .slice none 0 0, .slice none 0 0, .slice none 0 0] := by kernel_rfl
theorem st297 : strOf Try.prog 297 = some [(281, 0), (67, 1), (295, 9)] := by kernel_rfl
theorem fl297_0 : fldOf Try.prog 297 0 = some (0, 281) := by kernel_rfl
theorem fl297_1 : fldOf Try.prog 297 1 = some (1, 67) := by kernel_rfl
theorem fl297_2 : fldOf Try.prog 297 2 = some (9, 295) := by kernel_rfl
theorem pl297 : plOf Try.prog 297 = some ([(0, 1), (1, 8), (9, 12)], [.slice none 0 0, .int .i64 0, .string ⟨#[]⟩, .int .i64 0, .int .i64 0, .slice none 0 0, .slice none 0 0, .slice none 0 0, .slice none 0 0, .int .i64 0, .int .i64 0, .string ⟨#[]⟩, .int .i64 0, .int .i64 0, .slice none 0 0, .slice none 0 0, .slice none 0 0, .slice none 0 0, .slice none 0 0, .slice none 0 0, .slice none 0 0]) := by kernel_rfl
theorem sz298 : szOf Try.prog 298 = some 1 := by kernel_rfl
theorem co298 : Program.cellsOf Try.prog 298 = 1 := by kernel_rfl
theorem by298 : Program.bytesOf Try.prog 298 = 8 := by kernel_rfl
theorem ag298 : aggB Try.prog 298 = false := by kernel_rfl
theorem zv298 : wpO.zvOf Try.prog 298 = some [.nilFunc] := by kernel_rfl
theorem sz299 : szOf Try.prog 299 = some 1 := by kernel_rfl
theorem co299 : Program.cellsOf Try.prog 299 = 1 := by kernel_rfl
theorem by299 : Program.bytesOf Try.prog 299 = 8 := by kernel_rfl
theorem ag299 : aggB Try.prog 299 = false := by kernel_rfl
theorem zv299 : wpO.zvOf Try.prog 299 = some [.nilFunc] := by kernel_rfl
theorem sz300 : szOf Try.prog 300 = some 1 := by kernel_rfl
theorem co300 : Program.cellsOf Try.prog 300 = 1 := by kernel_rfl
theorem by300 : Program.bytesOf Try.prog 300 = 24 := by kernel_rfl
theorem ag300 : aggB Try.prog 300 = false := by kernel_rfl
theorem zv300 : wpO.zvOf Try.prog 300 = some [.slice none 0 0] := by kernel_rfl
theorem sb300 : slB Try.prog 300 = true := by kernel_rfl
theorem un300 : Try.prog.underlying 300 = some (.slice 22) := by kernel_rfl
theorem el300 : elOf Try.prog 300 = some (22, 1) := by kernel_rfl
theorem ap300 : apOf Try.prog 300 = some (22, 1, 24, [.slice none 0 0]) := by kernel_rfl
theorem sz301 : szOf Try.prog 301 = some 1 := by kernel_rfl
theorem co301 : Program.cellsOf Try.prog 301 = 1 := by kernel_rfl
theorem by301 : Program.bytesOf Try.prog 301 = 8 := by kernel_rfl
theorem ag301 : aggB Try.prog 301 = false := by kernel_rfl
theorem zv301 : wpO.zvOf Try.prog 301 = some [.nilFunc] := by kernel_rfl
theorem sz302 : szOf Try.prog 302 = some 1 := by kernel_rfl
theorem co302 : Program.cellsOf Try.prog 302 = 1 := by kernel_rfl
theorem by302 : Program.bytesOf Try.prog 302 = 8 := by kernel_rfl
theorem ag302 : aggB Try.prog 302 = false := by kernel_rfl
theorem zv302 : wpO.zvOf Try.prog 302 = some [.pointer none] := by kernel_rfl
theorem un302 : Try.prog.underlying 302 = some (.pointer 24) := by kernel_rfl
theorem sz303 : szOf Try.prog 303 = some 1 := by kernel_rfl
theorem co303 : Program.cellsOf Try.prog 303 = 1 := by kernel_rfl
theorem by303 : Program.bytesOf Try.prog 303 = 8 := by kernel_rfl
theorem ag303 : aggB Try.prog 303 = false := by kernel_rfl
theorem zv303 : wpO.zvOf Try.prog 303 = some [.nilFunc] := by kernel_rfl
theorem sz304 : szOf Try.prog 304 = some 1 := by kernel_rfl
theorem co304 : Program.cellsOf Try.prog 304 = 1 := by kernel_rfl
theorem by304 : Program.bytesOf Try.prog 304 = 8 := by kernel_rfl
theorem ag304 : aggB Try.prog 304 = false := by kernel_rfl
theorem zv304 : wpO.zvOf Try.prog 304 = some [.nilFunc] := by kernel_rfl
theorem sz305 : szOf Try.prog 305 = some 1 := by kernel_rfl
theorem co305 : Program.cellsOf Try.prog 305 = 1 := by kernel_rfl
theorem by305 : Program.bytesOf Try.prog 305 = 8 := by kernel_rfl
theorem ag305 : aggB Try.prog 305 = false := by kernel_rfl
theorem zv305 : wpO.zvOf Try.prog 305 = some [.nilFunc] := by kernel_rfl
theorem sz306 : szOf Try.prog 306 = some 1 := by kernel_rfl
theorem co306 : Program.cellsOf Try.prog 306 = 1 := by kernel_rfl
theorem by306 : Program.bytesOf Try.prog 306 = 8 := by kernel_rfl
theorem ag306 : aggB Try.prog 306 = false := by kernel_rfl
theorem zv306 : wpO.zvOf Try.prog 306 = some [.nilFunc] := by kernel_rfl
theorem sz307 : szOf Try.prog 307 = some 1 := by kernel_rfl
theorem co307 : Program.cellsOf Try.prog 307 = 1 := by kernel_rfl
theorem by307 : Program.bytesOf Try.prog 307 = 8 := by kernel_rfl
theorem ag307 : aggB Try.prog 307 = false := by kernel_rfl
theorem zv307 : wpO.zvOf Try.prog 307 = some [.nilFunc] := by kernel_rfl
theorem sz308 : szOf Try.prog 308 = some 1 := by kernel_rfl
theorem co308 : Program.cellsOf Try.prog 308 = 1 := by kernel_rfl
theorem by308 : Program.bytesOf Try.prog 308 = 8 := by kernel_rfl
theorem ag308 : aggB Try.prog 308 = false := by kernel_rfl
theorem zv308 : wpO.zvOf Try.prog 308 = some [.nilFunc] := by kernel_rfl
theorem sz309 : szOf Try.prog 309 = some 4 := by kernel_rfl
theorem co309 : Program.cellsOf Try.prog 309 = 4 := by kernel_rfl
theorem by309 : Program.bytesOf Try.prog 309 = 72 := by kernel_rfl
theorem ag309 : aggB Try.prog 309 = true := by kernel_rfl
theorem zv309 : wpO.zvOf Try.prog 309 = some [.string ⟨#[]⟩, .int .i64 0, .slice none 0 0, .slice none 0 0] := by kernel_rfl
theorem st309 : strOf Try.prog 309 = some [(9, 0), (64, 1)] := by kernel_rfl
theorem fl309_0 : fldOf Try.prog 309 0 = some (0, 9) := by kernel_rfl
theorem fl309_1 : fldOf Try.prog 309 1 = some (1, 64) := by kernel_rfl
theorem pl309 : plOf Try.prog 309 = some ([(0, 1), (1, 3)], [.string ⟨#[]⟩, .int .i64 0, .slice none 0 0, .slice none 0 0]) := by kernel_rfl
theorem sz310 : szOf Try.prog 310 = some 4 := by kernel_rfl
theorem co310 : Program.cellsOf Try.prog 310 = 4 := by kernel_rfl
theorem by310 : Program.bytesOf Try.prog 310 = 72 := by kernel_rfl
theorem ag310 : aggB Try.prog 310 = true := by kernel_rfl
theorem zv310 : wpO.zvOf Try.prog 310 = some [.string ⟨#[]⟩, .int .i64 0, .slice none 0 0, .slice none 0 0] := by kernel_rfl
theorem st310 : strOf Try.prog 310 = some [(9, 0), (64, 1)] := by kernel_rfl
theorem fl310_0 : fldOf Try.prog 310 0 = some (0, 9) := by kernel_rfl
theorem fl310_1 : fldOf Try.prog 310 1 = some (1, 64) := by kernel_rfl
theorem pl310 : plOf Try.prog 310 = some ([(0, 1), (1, 3)], [.string ⟨#[]⟩, .int .i64 0, .slice none 0 0, .slice none 0 0]) := by kernel_rfl
theorem sz311 : szOf Try.prog 311 = some 1 := by kernel_rfl
theorem co311 : Program.cellsOf Try.prog 311 = 1 := by kernel_rfl
theorem by311 : Program.bytesOf Try.prog 311 = 8 := by kernel_rfl
theorem ag311 : aggB Try.prog 311 = false := by kernel_rfl
theorem zv311 : wpO.zvOf Try.prog 311 = some [.nilFunc] := by kernel_rfl
theorem sz312 : szOf Try.prog 312 = some 1 := by kernel_rfl
theorem co312 : Program.cellsOf Try.prog 312 = 1 := by kernel_rfl
theorem by312 : Program.bytesOf Try.prog 312 = 8 := by kernel_rfl
theorem ag312 : aggB Try.prog 312 = false := by kernel_rfl
theorem zv312 : wpO.zvOf Try.prog 312 = some [.nilFunc] := by kernel_rfl
theorem sz313 : szOf Try.prog 313 = some 1 := by kernel_rfl
theorem co313 : Program.cellsOf Try.prog 313 = 1 := by kernel_rfl
theorem by313 : Program.bytesOf Try.prog 313 = 8 := by kernel_rfl
theorem ag313 : aggB Try.prog 313 = false := by kernel_rfl
theorem zv313 : wpO.zvOf Try.prog 313 = some [.nilFunc] := by kernel_rfl
theorem sz314 : szOf Try.prog 314 = some 1 := by kernel_rfl
theorem co314 : Program.cellsOf Try.prog 314 = 1 := by kernel_rfl
theorem by314 : Program.bytesOf Try.prog 314 = 8 := by kernel_rfl
theorem ag314 : aggB Try.prog 314 = false := by kernel_rfl
theorem zv314 : wpO.zvOf Try.prog 314 = some [.nilFunc] := by kernel_rfl
theorem sz315 : szOf Try.prog 315 = some 1 := by kernel_rfl
theorem co315 : Program.cellsOf Try.prog 315 = 1 := by kernel_rfl
theorem by315 : Program.bytesOf Try.prog 315 = 8 := by kernel_rfl
theorem ag315 : aggB Try.prog 315 = false := by kernel_rfl
theorem zv315 : wpO.zvOf Try.prog 315 = some [.nilFunc] := by kernel_rfl
theorem sz316 : szOf Try.prog 316 = some 1 := by kernel_rfl
theorem co316 : Program.cellsOf Try.prog 316 = 1 := by kernel_rfl
theorem by316 : Program.bytesOf Try.prog 316 = 8 := by kernel_rfl
theorem ag316 : aggB Try.prog 316 = false := by kernel_rfl
theorem zv316 : wpO.zvOf Try.prog 316 = some [.nilFunc] := by kernel_rfl
theorem sz317 : szOf Try.prog 317 = some 1 := by kernel_rfl
theorem co317 : Program.cellsOf Try.prog 317 = 1 := by kernel_rfl
theorem by317 : Program.bytesOf Try.prog 317 = 8 := by kernel_rfl
theorem ag317 : aggB Try.prog 317 = false := by kernel_rfl
theorem zv317 : wpO.zvOf Try.prog 317 = some [.nilFunc] := by kernel_rfl
theorem sz318 : szOf Try.prog 318 = some 1 := by kernel_rfl
theorem co318 : Program.cellsOf Try.prog 318 = 1 := by kernel_rfl
theorem by318 : Program.bytesOf Try.prog 318 = 8 := by kernel_rfl
theorem ag318 : aggB Try.prog 318 = false := by kernel_rfl
theorem zv318 : wpO.zvOf Try.prog 318 = some [.nilFunc] := by kernel_rfl
theorem sz319 : szOf Try.prog 319 = some 1 := by kernel_rfl
theorem co319 : Program.cellsOf Try.prog 319 = 1 := by kernel_rfl
theorem by319 : Program.bytesOf Try.prog 319 = 24 := by kernel_rfl
theorem ag319 : aggB Try.prog 319 = false := by kernel_rfl
theorem zv319 : wpO.zvOf Try.prog 319 = some [.slice none 0 0] := by kernel_rfl
theorem sb319 : slB Try.prog 319 = true := by kernel_rfl
theorem un319 : Try.prog.underlying 319 = some (.slice 38) := by kernel_rfl
theorem el319 : elOf Try.prog 319 = some (38, 1) := by kernel_rfl
theorem ap319 : apOf Try.prog 319 = some (38, 1, 24, [.slice none 0 0]) := by kernel_rfl
theorem sz320 : szOf Try.prog 320 = some 1 := by kernel_rfl
theorem co320 : Program.cellsOf Try.prog 320 = 1 := by kernel_rfl
theorem by320 : Program.bytesOf Try.prog 320 = 8 := by kernel_rfl
theorem ag320 : aggB Try.prog 320 = false := by kernel_rfl
theorem zv320 : wpO.zvOf Try.prog 320 = some [.nilFunc] := by kernel_rfl
theorem sz321 : szOf Try.prog 321 = some 1 := by kernel_rfl
theorem co321 : Program.cellsOf Try.prog 321 = 1 := by kernel_rfl
theorem by321 : Program.bytesOf Try.prog 321 = 8 := by kernel_rfl
theorem ag321 : aggB Try.prog 321 = false := by kernel_rfl
theorem zv321 : wpO.zvOf Try.prog 321 = some [.nilFunc] := by kernel_rfl
theorem sz322 : szOf Try.prog 322 = some 1 := by kernel_rfl
theorem co322 : Program.cellsOf Try.prog 322 = 1 := by kernel_rfl
theorem by322 : Program.bytesOf Try.prog 322 = 8 := by kernel_rfl
theorem ag322 : aggB Try.prog 322 = false := by kernel_rfl
theorem zv322 : wpO.zvOf Try.prog 322 = some [.nilFunc] := by kernel_rfl
theorem sz323 : szOf Try.prog 323 = some 1 := by kernel_rfl
theorem co323 : Program.cellsOf Try.prog 323 = 1 := by kernel_rfl
theorem by323 : Program.bytesOf Try.prog 323 = 8 := by kernel_rfl
theorem ag323 : aggB Try.prog 323 = false := by kernel_rfl
theorem zv323 : wpO.zvOf Try.prog 323 = some [.int .u64 0] := by kernel_rfl
theorem un323 : Try.prog.underlying 323 = some (.int .u64) := by kernel_rfl
theorem sz324 : szOf Try.prog 324 = some 1 := by kernel_rfl
theorem co324 : Program.cellsOf Try.prog 324 = 1 := by kernel_rfl
theorem by324 : Program.bytesOf Try.prog 324 = 8 := by kernel_rfl
theorem ag324 : aggB Try.prog 324 = false := by kernel_rfl
theorem zv324 : wpO.zvOf Try.prog 324 = some [.nilFunc] := by kernel_rfl
theorem sz325 : szOf Try.prog 325 = some 1 := by kernel_rfl
theorem co325 : Program.cellsOf Try.prog 325 = 1 := by kernel_rfl
theorem by325 : Program.bytesOf Try.prog 325 = 8 := by kernel_rfl
theorem ag325 : aggB Try.prog 325 = false := by kernel_rfl
theorem zv325 : wpO.zvOf Try.prog 325 = some [.nilFunc] := by kernel_rfl
theorem sz326 : szOf Try.prog 326 = some 1 := by kernel_rfl
theorem co326 : Program.cellsOf Try.prog 326 = 1 := by kernel_rfl
theorem by326 : Program.bytesOf Try.prog 326 = 8 := by kernel_rfl
theorem ag326 : aggB Try.prog 326 = false := by kernel_rfl
theorem zv326 : wpO.zvOf Try.prog 326 = some [.nilFunc] := by kernel_rfl
theorem sz327 : szOf Try.prog 327 = some 1 := by kernel_rfl
theorem co327 : Program.cellsOf Try.prog 327 = 1 := by kernel_rfl
theorem by327 : Program.bytesOf Try.prog 327 = 8 := by kernel_rfl
theorem ag327 : aggB Try.prog 327 = false := by kernel_rfl
theorem zv327 : wpO.zvOf Try.prog 327 = some [.nilFunc] := by kernel_rfl
theorem sz328 : szOf Try.prog 328 = some 1 := by kernel_rfl
theorem co328 : Program.cellsOf Try.prog 328 = 1 := by kernel_rfl
theorem by328 : Program.bytesOf Try.prog 328 = 8 := by kernel_rfl
theorem ag328 : aggB Try.prog 328 = false := by kernel_rfl
theorem zv328 : wpO.zvOf Try.prog 328 = some [.nilFunc] := by kernel_rfl
theorem sz329 : szOf Try.prog 329 = some 1 := by kernel_rfl
theorem co329 : Program.cellsOf Try.prog 329 = 1 := by kernel_rfl
theorem by329 : Program.bytesOf Try.prog 329 = 8 := by kernel_rfl
theorem ag329 : aggB Try.prog 329 = false := by kernel_rfl
theorem zv329 : wpO.zvOf Try.prog 329 = some [.nilFunc] := by kernel_rfl
theorem sz330 : szOf Try.prog 330 = some 1 := by kernel_rfl
theorem co330 : Program.cellsOf Try.prog 330 = 1 := by kernel_rfl
theorem by330 : Program.bytesOf Try.prog 330 = 8 := by kernel_rfl
theorem ag330 : aggB Try.prog 330 = false := by kernel_rfl
theorem zv330 : wpO.zvOf Try.prog 330 = some [.nilFunc] := by kernel_rfl
theorem sz331 : szOf Try.prog 331 = some 1 := by kernel_rfl
theorem co331 : Program.cellsOf Try.prog 331 = 1 := by kernel_rfl
theorem by331 : Program.bytesOf Try.prog 331 = 8 := by kernel_rfl
theorem ag331 : aggB Try.prog 331 = false := by kernel_rfl
theorem zv331 : wpO.zvOf Try.prog 331 = some [.nilFunc] := by kernel_rfl
theorem sz332 : szOf Try.prog 332 = some 1 := by kernel_rfl
theorem co332 : Program.cellsOf Try.prog 332 = 1 := by kernel_rfl
theorem by332 : Program.bytesOf Try.prog 332 = 8 := by kernel_rfl
theorem ag332 : aggB Try.prog 332 = false := by kernel_rfl
theorem zv332 : wpO.zvOf Try.prog 332 = some [.nilFunc] := by kernel_rfl
theorem sz333 : szOf Try.prog 333 = some 1 := by kernel_rfl
theorem co333 : Program.cellsOf Try.prog 333 = 1 := by kernel_rfl
theorem by333 : Program.bytesOf Try.prog 333 = 8 := by kernel_rfl
theorem ag333 : aggB Try.prog 333 = false := by kernel_rfl
theorem zv333 : wpO.zvOf Try.prog 333 = some [.nilFunc] := by kernel_rfl
theorem sz334 : szOf Try.prog 334 = some 1 := by kernel_rfl
theorem co334 : Program.cellsOf Try.prog 334 = 1 := by kernel_rfl
theorem by334 : Program.bytesOf Try.prog 334 = 8 := by kernel_rfl
theorem ag334 : aggB Try.prog 334 = false := by kernel_rfl
theorem zv334 : wpO.zvOf Try.prog 334 = some [.nilFunc] := by kernel_rfl
theorem sz335 : szOf Try.prog 335 = some 1 := by kernel_rfl
theorem co335 : Program.cellsOf Try.prog 335 = 1 := by kernel_rfl
theorem by335 : Program.bytesOf Try.prog 335 = 8 := by kernel_rfl
theorem ag335 : aggB Try.prog 335 = false := by kernel_rfl
theorem zv335 : wpO.zvOf Try.prog 335 = some [.nilFunc] := by kernel_rfl
theorem sz336 : szOf Try.prog 336 = some 1 := by kernel_rfl
theorem co336 : Program.cellsOf Try.prog 336 = 1 := by kernel_rfl
theorem by336 : Program.bytesOf Try.prog 336 = 8 := by kernel_rfl
theorem ag336 : aggB Try.prog 336 = false := by kernel_rfl
theorem zv336 : wpO.zvOf Try.prog 336 = some [.nilFunc] := by kernel_rfl
theorem sz337 : szOf Try.prog 337 = some 3 := by kernel_rfl
theorem co337 : Program.cellsOf Try.prog 337 = 3 := by kernel_rfl
theorem by337 : Program.bytesOf Try.prog 337 = 32 := by kernel_rfl
theorem ag337 : aggB Try.prog 337 = true := by kernel_rfl
theorem zv337 : wpO.zvOf Try.prog 337 = some [.string ⟨#[]⟩, .int .i64 0, .bool false] := by kernel_rfl
theorem st337 : strOf Try.prog 337 = some [(9, 0), (3, 1), (4, 2)] := by kernel_rfl
theorem fl337_0 : fldOf Try.prog 337 0 = some (0, 9) := by kernel_rfl
theorem fl337_1 : fldOf Try.prog 337 1 = some (1, 3) := by kernel_rfl
theorem fl337_2 : fldOf Try.prog 337 2 = some (2, 4) := by kernel_rfl
theorem pl337 : plOf Try.prog 337 = some ([(0, 1), (1, 1), (2, 1)], [.string ⟨#[]⟩, .int .i64 0, .bool false]) := by kernel_rfl
theorem sz338 : szOf Try.prog 338 = some 3 := by kernel_rfl
theorem co338 : Program.cellsOf Try.prog 338 = 3 := by kernel_rfl
theorem by338 : Program.bytesOf Try.prog 338 = 32 := by kernel_rfl
theorem ag338 : aggB Try.prog 338 = true := by kernel_rfl
theorem zv338 : wpO.zvOf Try.prog 338 = some [.string ⟨#[]⟩, .int .i64 0, .bool false] := by kernel_rfl
theorem st338 : strOf Try.prog 338 = some [(9, 0), (3, 1), (4, 2)] := by kernel_rfl
theorem fl338_0 : fldOf Try.prog 338 0 = some (0, 9) := by kernel_rfl
theorem fl338_1 : fldOf Try.prog 338 1 = some (1, 3) := by kernel_rfl
theorem fl338_2 : fldOf Try.prog 338 2 = some (2, 4) := by kernel_rfl
theorem pl338 : plOf Try.prog 338 = some ([(0, 1), (1, 1), (2, 1)], [.string ⟨#[]⟩, .int .i64 0, .bool false]) := by kernel_rfl
theorem sz339 : szOf Try.prog 339 = some 1 := by kernel_rfl
theorem co339 : Program.cellsOf Try.prog 339 = 1 := by kernel_rfl
theorem by339 : Program.bytesOf Try.prog 339 = 8 := by kernel_rfl
theorem ag339 : aggB Try.prog 339 = false := by kernel_rfl
theorem zv339 : wpO.zvOf Try.prog 339 = some [.nilFunc] := by kernel_rfl
theorem sz340 : szOf Try.prog 340 = some 1 := by kernel_rfl
theorem co340 : Program.cellsOf Try.prog 340 = 1 := by kernel_rfl
theorem by340 : Program.bytesOf Try.prog 340 = 8 := by kernel_rfl
theorem ag340 : aggB Try.prog 340 = false := by kernel_rfl
theorem zv340 : wpO.zvOf Try.prog 340 = some [.nilFunc] := by kernel_rfl
theorem sz341 : szOf Try.prog 341 = some 1 := by kernel_rfl
theorem co341 : Program.cellsOf Try.prog 341 = 1 := by kernel_rfl
theorem by341 : Program.bytesOf Try.prog 341 = 24 := by kernel_rfl
theorem ag341 : aggB Try.prog 341 = false := by kernel_rfl
theorem zv341 : wpO.zvOf Try.prog 341 = some [.slice none 0 0] := by kernel_rfl
theorem sb341 : slB Try.prog 341 = true := by kernel_rfl
theorem un341 : Try.prog.underlying 341 = some (.slice 5) := by kernel_rfl
theorem el341 : elOf Try.prog 341 = some (5, 1) := by kernel_rfl
theorem ap341 : apOf Try.prog 341 = some (5, 1, 1, [.int .u8 0]) := by kernel_rfl
theorem sz342 : szOf Try.prog 342 = some 1 := by kernel_rfl
theorem co342 : Program.cellsOf Try.prog 342 = 1 := by kernel_rfl
theorem by342 : Program.bytesOf Try.prog 342 = 8 := by kernel_rfl
theorem ag342 : aggB Try.prog 342 = false := by kernel_rfl
theorem zv342 : wpO.zvOf Try.prog 342 = some [.nilFunc] := by kernel_rfl
theorem sz343 : szOf Try.prog 343 = some 1 := by kernel_rfl
theorem co343 : Program.cellsOf Try.prog 343 = 1 := by kernel_rfl
theorem by343 : Program.bytesOf Try.prog 343 = 8 := by kernel_rfl
theorem ag343 : aggB Try.prog 343 = false := by kernel_rfl
theorem zv343 : wpO.zvOf Try.prog 343 = some [.nilFunc] := by kernel_rfl
theorem sz344 : szOf Try.prog 344 = some 1 := by kernel_rfl
theorem co344 : Program.cellsOf Try.prog 344 = 1 := by kernel_rfl
theorem by344 : Program.bytesOf Try.prog 344 = 8 := by kernel_rfl
theorem ag344 : aggB Try.prog 344 = false := by kernel_rfl
theorem zv344 : wpO.zvOf Try.prog 344 = some [.nilFunc] := by kernel_rfl
theorem sz345 : szOf Try.prog 345 = some 1 := by kernel_rfl
theorem co345 : Program.cellsOf Try.prog 345 = 1 := by kernel_rfl
theorem by345 : Program.bytesOf Try.prog 345 = 8 := by kernel_rfl
theorem ag345 : aggB Try.prog 345 = false := by kernel_rfl
theorem zv345 : wpO.zvOf Try.prog 345 = some [.nilFunc] := by kernel_rfl
theorem sz346 : szOf Try.prog 346 = some 1 := by kernel_rfl
theorem co346 : Program.cellsOf Try.prog 346 = 1 := by kernel_rfl
theorem by346 : Program.bytesOf Try.prog 346 = 8 := by kernel_rfl
theorem ag346 : aggB Try.prog 346 = false := by kernel_rfl
theorem zv346 : wpO.zvOf Try.prog 346 = some [.nilFunc] := by kernel_rfl
theorem sz347 : szOf Try.prog 347 = some 1 := by kernel_rfl
theorem co347 : Program.cellsOf Try.prog 347 = 1 := by kernel_rfl
theorem by347 : Program.bytesOf Try.prog 347 = 8 := by kernel_rfl
theorem ag347 : aggB Try.prog 347 = false := by kernel_rfl
theorem zv347 : wpO.zvOf Try.prog 347 = some [.nilFunc] := by kernel_rfl
theorem sz348 : szOf Try.prog 348 = some 1 := by kernel_rfl
theorem co348 : Program.cellsOf Try.prog 348 = 1 := by kernel_rfl
theorem by348 : Program.bytesOf Try.prog 348 = 8 := by kernel_rfl
theorem ag348 : aggB Try.prog 348 = false := by kernel_rfl
theorem zv348 : wpO.zvOf Try.prog 348 = some [.nilFunc] := by kernel_rfl
theorem sz349 : szOf Try.prog 349 = some 1 := by kernel_rfl
theorem co349 : Program.cellsOf Try.prog 349 = 1 := by kernel_rfl
theorem by349 : Program.bytesOf Try.prog 349 = 8 := by kernel_rfl
theorem ag349 : aggB Try.prog 349 = false := by kernel_rfl
theorem zv349 : wpO.zvOf Try.prog 349 = some [.nilFunc] := by kernel_rfl
theorem sz350 : szOf Try.prog 350 = some 1 := by kernel_rfl
theorem co350 : Program.cellsOf Try.prog 350 = 1 := by kernel_rfl
theorem by350 : Program.bytesOf Try.prog 350 = 8 := by kernel_rfl
theorem ag350 : aggB Try.prog 350 = false := by kernel_rfl
theorem zv350 : wpO.zvOf Try.prog 350 = some [.nilFunc] := by kernel_rfl
theorem sz351 : szOf Try.prog 351 = some 1 := by kernel_rfl
theorem co351 : Program.cellsOf Try.prog 351 = 1 := by kernel_rfl
theorem by351 : Program.bytesOf Try.prog 351 = 8 := by kernel_rfl
theorem ag351 : aggB Try.prog 351 = false := by kernel_rfl
theorem zv351 : wpO.zvOf Try.prog 351 = some [.int .i64 0] := by kernel_rfl
theorem un351 : Try.prog.underlying 351 = some (.int .i64) := by kernel_rfl
theorem sz353 : szOf Try.prog 353 = some 1 := by kernel_rfl
theorem co353 : Program.cellsOf Try.prog 353 = 1 := by kernel_rfl
theorem by353 : Program.bytesOf Try.prog 353 = 8 := by kernel_rfl
theorem ag353 : aggB Try.prog 353 = false := by kernel_rfl
theorem zv353 : wpO.zvOf Try.prog 353 = some [.nilFunc] := by kernel_rfl
theorem sz354 : szOf Try.prog 354 = some 1 := by kernel_rfl
theorem co354 : Program.cellsOf Try.prog 354 = 1 := by kernel_rfl
theorem by354 : Program.bytesOf Try.prog 354 = 8 := by kernel_rfl
theorem ag354 : aggB Try.prog 354 = false := by kernel_rfl
theorem zv354 : wpO.zvOf Try.prog 354 = some [.nilFunc] := by kernel_rfl
theorem sz355 : szOf Try.prog 355 = some 1 := by kernel_rfl
theorem co355 : Program.cellsOf Try.prog 355 = 1 := by kernel_rfl
theorem by355 : Program.bytesOf Try.prog 355 = 8 := by kernel_rfl
theorem ag355 : aggB Try.prog 355 = false := by kernel_rfl
theorem zv355 : wpO.zvOf Try.prog 355 = some [.nilFunc] := by kernel_rfl
theorem sz356 : szOf Try.prog 356 = some 1 := by kernel_rfl
theorem co356 : Program.cellsOf Try.prog 356 = 1 := by kernel_rfl
theorem by356 : Program.bytesOf Try.prog 356 = 8 := by kernel_rfl
theorem ag356 : aggB Try.prog 356 = false := by kernel_rfl
theorem zv356 : wpO.zvOf Try.prog 356 = some [.nilFunc] := by kernel_rfl
theorem sz357 : szOf Try.prog 357 = some 1 := by kernel_rfl
theorem co357 : Program.cellsOf Try.prog 357 = 1 := by kernel_rfl
theorem by357 : Program.bytesOf Try.prog 357 = 8 := by kernel_rfl
theorem ag357 : aggB Try.prog 357 = false := by kernel_rfl
theorem zv357 : wpO.zvOf Try.prog 357 = some [.nilFunc] := by kernel_rfl
theorem sz358 : szOf Try.prog 358 = some 1 := by kernel_rfl
theorem co358 : Program.cellsOf Try.prog 358 = 1 := by kernel_rfl
theorem by358 : Program.bytesOf Try.prog 358 = 8 := by kernel_rfl
theorem ag358 : aggB Try.prog 358 = false := by kernel_rfl
theorem zv358 : wpO.zvOf Try.prog 358 = some [.nilFunc] := by kernel_rfl
theorem sz359 : szOf Try.prog 359 = some 1 := by kernel_rfl
theorem co359 : Program.cellsOf Try.prog 359 = 1 := by kernel_rfl
theorem by359 : Program.bytesOf Try.prog 359 = 4 := by kernel_rfl
theorem ag359 : aggB Try.prog 359 = false := by kernel_rfl
theorem zv359 : wpO.zvOf Try.prog 359 = some [.int .u32 0] := by kernel_rfl
theorem un359 : Try.prog.underlying 359 = some (.int .u32) := by kernel_rfl
theorem sz360 : szOf Try.prog 360 = some 1 := by kernel_rfl
theorem co360 : Program.cellsOf Try.prog 360 = 1 := by kernel_rfl
theorem by360 : Program.bytesOf Try.prog 360 = 8 := by kernel_rfl
theorem ag360 : aggB Try.prog 360 = false := by kernel_rfl
theorem zv360 : wpO.zvOf Try.prog 360 = some [.nilFunc] := by kernel_rfl
theorem sz361 : szOf Try.prog 361 = some 1 := by kernel_rfl
theorem co361 : Program.cellsOf Try.prog 361 = 1 := by kernel_rfl
theorem by361 : Program.bytesOf Try.prog 361 = 8 := by kernel_rfl
theorem ag361 : aggB Try.prog 361 = false := by kernel_rfl
theorem zv361 : wpO.zvOf Try.prog 361 = some [.int .u64 0] := by kernel_rfl
theorem un361 : Try.prog.underlying 361 = some (.int .u64) := by kernel_rfl
theorem sz362 : szOf Try.prog 362 = some 1 := by kernel_rfl
theorem co362 : Program.cellsOf Try.prog 362 = 1 := by kernel_rfl
theorem by362 : Program.bytesOf Try.prog 362 = 8 := by kernel_rfl
theorem ag362 : aggB Try.prog 362 = false := by kernel_rfl
theorem zv362 : wpO.zvOf Try.prog 362 = some [.nilFunc] := by kernel_rfl
theorem sz363 : szOf Try.prog 363 = some 2 := by kernel_rfl
theorem co363 : Program.cellsOf Try.prog 363 = 2 := by kernel_rfl
theorem by363 : Program.bytesOf Try.prog 363 = 32 := by kernel_rfl
theorem ag363 : aggB Try.prog 363 = true := by kernel_rfl
theorem zv363 : wpO.zvOf Try.prog 363 = some [.string ⟨#[]⟩, .string ⟨#[]⟩] := by kernel_rfl
theorem st363 : strOf Try.prog 363 = some [(9, 0), (9, 1)] := by kernel_rfl
theorem fl363_0 : fldOf Try.prog 363 0 = some (0, 9) := by kernel_rfl
theorem fl363_1 : fldOf Try.prog 363 1 = some (1, 9) := by kernel_rfl
theorem pl363 : plOf Try.prog 363 = some ([(0, 1), (1, 1)], [.string ⟨#[]⟩, .string ⟨#[]⟩]) := by kernel_rfl
theorem sz364 : szOf Try.prog 364 = some 2 := by kernel_rfl
theorem co364 : Program.cellsOf Try.prog 364 = 2 := by kernel_rfl
theorem by364 : Program.bytesOf Try.prog 364 = 32 := by kernel_rfl
theorem ag364 : aggB Try.prog 364 = true := by kernel_rfl
theorem zv364 : wpO.zvOf Try.prog 364 = some [.string ⟨#[]⟩, .string ⟨#[]⟩] := by kernel_rfl
theorem st364 : strOf Try.prog 364 = some [(9, 0), (9, 1)] := by kernel_rfl
theorem fl364_0 : fldOf Try.prog 364 0 = some (0, 9) := by kernel_rfl
theorem fl364_1 : fldOf Try.prog 364 1 = some (1, 9) := by kernel_rfl
theorem pl364 : plOf Try.prog 364 = some ([(0, 1), (1, 1)], [.string ⟨#[]⟩, .string ⟨#[]⟩]) := by kernel_rfl
theorem sz365 : szOf Try.prog 365 = some 2 := by kernel_rfl
theorem co365 : Program.cellsOf Try.prog 365 = 2 := by kernel_rfl
theorem by365 : Program.bytesOf Try.prog 365 = 32 := by kernel_rfl
theorem ag365 : aggB Try.prog 365 = true := by kernel_rfl
theorem zv365 : wpO.zvOf Try.prog 365 = some [.string ⟨#[]⟩, .string ⟨#[]⟩] := by kernel_rfl
theorem st365 : strOf Try.prog 365 = some [(9, 0), (9, 1)] := by kernel_rfl
theorem fl365_0 : fldOf Try.prog 365 0 = some (0, 9) := by kernel_rfl
theorem fl365_1 : fldOf Try.prog 365 1 = some (1, 9) := by kernel_rfl
theorem pl365 : plOf Try.prog 365 = some ([(0, 1), (1, 1)], [.string ⟨#[]⟩, .string ⟨#[]⟩]) := by kernel_rfl
theorem sz366 : szOf Try.prog 366 = some 1 := by kernel_rfl
theorem co366 : Program.cellsOf Try.prog 366 = 1 := by kernel_rfl
theorem by366 : Program.bytesOf Try.prog 366 = 8 := by kernel_rfl
theorem ag366 : aggB Try.prog 366 = false := by kernel_rfl
theorem zv366 : wpO.zvOf Try.prog 366 = some [.nilFunc] := by kernel_rfl
theorem sz367 : szOf Try.prog 367 = some 1 := by kernel_rfl
theorem co367 : Program.cellsOf Try.prog 367 = 1 := by kernel_rfl
theorem by367 : Program.bytesOf Try.prog 367 = 8 := by kernel_rfl
theorem ag367 : aggB Try.prog 367 = false := by kernel_rfl
theorem zv367 : wpO.zvOf Try.prog 367 = some [.nilFunc] := by kernel_rfl
theorem sz368 : szOf Try.prog 368 = some 1 := by kernel_rfl
theorem co368 : Program.cellsOf Try.prog 368 = 1 := by kernel_rfl
theorem by368 : Program.bytesOf Try.prog 368 = 8 := by kernel_rfl
theorem ag368 : aggB Try.prog 368 = false := by kernel_rfl
theorem zv368 : wpO.zvOf Try.prog 368 = some [.pointer none] := by kernel_rfl
theorem un368 : Try.prog.underlying 368 = some (.pointer 338) := by kernel_rfl
theorem sz369 : szOf Try.prog 369 = some 1 := by kernel_rfl
theorem co369 : Program.cellsOf Try.prog 369 = 1 := by kernel_rfl
theorem by369 : Program.bytesOf Try.prog 369 = 8 := by kernel_rfl
theorem ag369 : aggB Try.prog 369 = false := by kernel_rfl
theorem zv369 : wpO.zvOf Try.prog 369 = some [.nilFunc] := by kernel_rfl
theorem sz370 : szOf Try.prog 370 = some 1 := by kernel_rfl
theorem co370 : Program.cellsOf Try.prog 370 = 1 := by kernel_rfl
theorem by370 : Program.bytesOf Try.prog 370 = 8 := by kernel_rfl
theorem ag370 : aggB Try.prog 370 = false := by kernel_rfl
theorem zv370 : wpO.zvOf Try.prog 370 = some [.nilFunc] := by kernel_rfl
theorem sz371 : szOf Try.prog 371 = some 1 := by kernel_rfl
theorem co371 : Program.cellsOf Try.prog 371 = 1 := by kernel_rfl
theorem by371 : Program.bytesOf Try.prog 371 = 8 := by kernel_rfl
theorem ag371 : aggB Try.prog 371 = false := by kernel_rfl
theorem zv371 : wpO.zvOf Try.prog 371 = some [.nilFunc] := by kernel_rfl
theorem sz372 : szOf Try.prog 372 = some 1 := by kernel_rfl
theorem co372 : Program.cellsOf Try.prog 372 = 1 := by kernel_rfl
theorem by372 : Program.bytesOf Try.prog 372 = 8 := by kernel_rfl
theorem ag372 : aggB Try.prog 372 = false := by kernel_rfl
theorem zv372 : wpO.zvOf Try.prog 372 = some [.nilFunc] := by kernel_rfl
theorem sz373 : szOf Try.prog 373 = some 1 := by kernel_rfl
theorem co373 : Program.cellsOf Try.prog 373 = 1 := by kernel_rfl
theorem by373 : Program.bytesOf Try.prog 373 = 8 := by kernel_rfl
theorem ag373 : aggB Try.prog 373 = false := by kernel_rfl
theorem zv373 : wpO.zvOf Try.prog 373 = some [.nilFunc] := by kernel_rfl
theorem sz374 : szOf Try.prog 374 = some 1 := by kernel_rfl
theorem co374 : Program.cellsOf Try.prog 374 = 1 := by kernel_rfl
theorem by374 : Program.bytesOf Try.prog 374 = 8 := by kernel_rfl
theorem ag374 : aggB Try.prog 374 = false := by kernel_rfl
theorem zv374 : wpO.zvOf Try.prog 374 = some [.nilFunc] := by kernel_rfl
theorem sz375 : szOf Try.prog 375 = some 1 := by kernel_rfl
theorem co375 : Program.cellsOf Try.prog 375 = 1 := by kernel_rfl
theorem by375 : Program.bytesOf Try.prog 375 = 8 := by kernel_rfl
theorem ag375 : aggB Try.prog 375 = false := by kernel_rfl
theorem zv375 : wpO.zvOf Try.prog 375 = some [.nilFunc] := by kernel_rfl
theorem sz376 : szOf Try.prog 376 = some 1 := by kernel_rfl
theorem co376 : Program.cellsOf Try.prog 376 = 1 := by kernel_rfl
theorem by376 : Program.bytesOf Try.prog 376 = 8 := by kernel_rfl
theorem ag376 : aggB Try.prog 376 = false := by kernel_rfl
theorem zv376 : wpO.zvOf Try.prog 376 = some [.nilFunc] := by kernel_rfl
theorem sz377 : szOf Try.prog 377 = some 1 := by kernel_rfl
theorem co377 : Program.cellsOf Try.prog 377 = 1 := by kernel_rfl
theorem by377 : Program.bytesOf Try.prog 377 = 8 := by kernel_rfl
theorem ag377 : aggB Try.prog 377 = false := by kernel_rfl
theorem zv377 : wpO.zvOf Try.prog 377 = some [.nilFunc] := by kernel_rfl
theorem sz378 : szOf Try.prog 378 = some 1 := by kernel_rfl
theorem co378 : Program.cellsOf Try.prog 378 = 1 := by kernel_rfl
theorem by378 : Program.bytesOf Try.prog 378 = 8 := by kernel_rfl
theorem ag378 : aggB Try.prog 378 = false := by kernel_rfl
theorem zv378 : wpO.zvOf Try.prog 378 = some [.nilFunc] := by kernel_rfl
theorem sz379 : szOf Try.prog 379 = some 1 := by kernel_rfl
theorem co379 : Program.cellsOf Try.prog 379 = 1 := by kernel_rfl
theorem by379 : Program.bytesOf Try.prog 379 = 8 := by kernel_rfl
theorem ag379 : aggB Try.prog 379 = false := by kernel_rfl
theorem zv379 : wpO.zvOf Try.prog 379 = some [.int .u64 0] := by kernel_rfl
theorem un379 : Try.prog.underlying 379 = some (.int .u64) := by kernel_rfl
theorem sz380 : szOf Try.prog 380 = some 1 := by kernel_rfl
theorem co380 : Program.cellsOf Try.prog 380 = 1 := by kernel_rfl
theorem by380 : Program.bytesOf Try.prog 380 = 8 := by kernel_rfl
theorem ag380 : aggB Try.prog 380 = false := by kernel_rfl
theorem zv380 : wpO.zvOf Try.prog 380 = some [.nilFunc] := by kernel_rfl
theorem sz381 : szOf Try.prog 381 = some 1 := by kernel_rfl
theorem co381 : Program.cellsOf Try.prog 381 = 1 := by kernel_rfl
theorem by381 : Program.bytesOf Try.prog 381 = 8 := by kernel_rfl
theorem ag381 : aggB Try.prog 381 = false := by kernel_rfl
theorem zv381 : wpO.zvOf Try.prog 381 = some [.nilFunc] := by kernel_rfl
theorem sz382 : szOf Try.prog 382 = some 1 := by kernel_rfl
theorem co382 : Program.cellsOf Try.prog 382 = 1 := by kernel_rfl
theorem by382 : Program.bytesOf Try.prog 382 = 8 := by kernel_rfl
theorem ag382 : aggB Try.prog 382 = false := by kernel_rfl
theorem zv382 : wpO.zvOf Try.prog 382 = some [.nilFunc] := by kernel_rfl
theorem sz383 : szOf Try.prog 383 = some 1 := by kernel_rfl
theorem co383 : Program.cellsOf Try.prog 383 = 1 := by kernel_rfl
theorem by383 : Program.bytesOf Try.prog 383 = 8 := by kernel_rfl
theorem ag383 : aggB Try.prog 383 = false := by kernel_rfl
theorem zv383 : wpO.zvOf Try.prog 383 = some [.pointer none] := by kernel_rfl
theorem un383 : Try.prog.underlying 383 = some (.pointer 3) := by kernel_rfl
theorem sz384 : szOf Try.prog 384 = some 1 := by kernel_rfl
theorem co384 : Program.cellsOf Try.prog 384 = 1 := by kernel_rfl
theorem by384 : Program.bytesOf Try.prog 384 = 8 := by kernel_rfl
theorem ag384 : aggB Try.prog 384 = false := by kernel_rfl
theorem zv384 : wpO.zvOf Try.prog 384 = some [.nilFunc] := by kernel_rfl
theorem sz385 : szOf Try.prog 385 = some 1 := by kernel_rfl
theorem co385 : Program.cellsOf Try.prog 385 = 1 := by kernel_rfl
theorem by385 : Program.bytesOf Try.prog 385 = 8 := by kernel_rfl
theorem ag385 : aggB Try.prog 385 = false := by kernel_rfl
theorem zv385 : wpO.zvOf Try.prog 385 = some [.nilFunc] := by kernel_rfl
theorem sz386 : szOf Try.prog 386 = some 1 := by kernel_rfl
theorem co386 : Program.cellsOf Try.prog 386 = 1 := by kernel_rfl
theorem by386 : Program.bytesOf Try.prog 386 = 8 := by kernel_rfl
theorem ag386 : aggB Try.prog 386 = false := by kernel_rfl
theorem zv386 : wpO.zvOf Try.prog 386 = some [.nilFunc] := by kernel_rfl
theorem sz387 : szOf Try.prog 387 = some 1 := by kernel_rfl
theorem co387 : Program.cellsOf Try.prog 387 = 1 := by kernel_rfl
theorem by387 : Program.bytesOf Try.prog 387 = 8 := by kernel_rfl
theorem ag387 : aggB Try.prog 387 = false := by kernel_rfl
theorem zv387 : wpO.zvOf Try.prog 387 = some [.nilFunc] := by kernel_rfl
theorem sz388 : szOf Try.prog 388 = some 1 := by kernel_rfl
theorem co388 : Program.cellsOf Try.prog 388 = 1 := by kernel_rfl
theorem by388 : Program.bytesOf Try.prog 388 = 8 := by kernel_rfl
theorem ag388 : aggB Try.prog 388 = false := by kernel_rfl
theorem zv388 : wpO.zvOf Try.prog 388 = some [.nilFunc] := by kernel_rfl
theorem sz389 : szOf Try.prog 389 = some 1 := by kernel_rfl
theorem co389 : Program.cellsOf Try.prog 389 = 1 := by kernel_rfl
theorem by389 : Program.bytesOf Try.prog 389 = 8 := by kernel_rfl
theorem ag389 : aggB Try.prog 389 = false := by kernel_rfl
theorem zv389 : wpO.zvOf Try.prog 389 = some [.map none] := by kernel_rfl
theorem sz390 : szOf Try.prog 390 = some 1 := by kernel_rfl
theorem co390 : Program.cellsOf Try.prog 390 = 1 := by kernel_rfl
theorem by390 : Program.bytesOf Try.prog 390 = 8 := by kernel_rfl
theorem ag390 : aggB Try.prog 390 = false := by kernel_rfl
theorem zv390 : wpO.zvOf Try.prog 390 = some [.pointer none] := by kernel_rfl
theorem un390 : Try.prog.underlying 390 = some (.pointer 379) := by kernel_rfl
theorem sz391 : szOf Try.prog 391 = some 1 := by kernel_rfl
theorem co391 : Program.cellsOf Try.prog 391 = 1 := by kernel_rfl
theorem by391 : Program.bytesOf Try.prog 391 = 8 := by kernel_rfl
theorem ag391 : aggB Try.prog 391 = false := by kernel_rfl
theorem zv391 : wpO.zvOf Try.prog 391 = some [.nilFunc] := by kernel_rfl
theorem sz392 : szOf Try.prog 392 = some 1 := by kernel_rfl
theorem co392 : Program.cellsOf Try.prog 392 = 1 := by kernel_rfl
theorem by392 : Program.bytesOf Try.prog 392 = 8 := by kernel_rfl
theorem ag392 : aggB Try.prog 392 = false := by kernel_rfl
theorem zv392 : wpO.zvOf Try.prog 392 = some [.pointer none] := by kernel_rfl
theorem un392 : Try.prog.underlying 392 = some (.pointer 394) := by kernel_rfl
theorem sz393 : szOf Try.prog 393 = some 2 := by kernel_rfl
theorem co393 : Program.cellsOf Try.prog 393 = 2 := by kernel_rfl
theorem by393 : Program.bytesOf Try.prog 393 = 32 := by kernel_rfl
theorem ag393 : aggB Try.prog 393 = true := by kernel_rfl
theorem zv393 : wpO.zvOf Try.prog 393 = some [.pointer none, .slice none 0 0] := by kernel_rfl
theorem st393 : strOf Try.prog 393 = some [(392, 0), (341, 1)] := by kernel_rfl
theorem fl393_0 : fldOf Try.prog 393 0 = some (0, 392) := by kernel_rfl
theorem fl393_1 : fldOf Try.prog 393 1 = some (1, 341) := by kernel_rfl
theorem pl393 : plOf Try.prog 393 = some ([(0, 1), (1, 1)], [.pointer none, .slice none 0 0]) := by kernel_rfl
theorem sz394 : szOf Try.prog 394 = some 2 := by kernel_rfl
theorem co394 : Program.cellsOf Try.prog 394 = 2 := by kernel_rfl
theorem by394 : Program.bytesOf Try.prog 394 = 32 := by kernel_rfl
theorem ag394 : aggB Try.prog 394 = true := by kernel_rfl
theorem zv394 : wpO.zvOf Try.prog 394 = some [.pointer none, .slice none 0 0] := by kernel_rfl
theorem st394 : strOf Try.prog 394 = some [(392, 0), (341, 1)] := by kernel_rfl
theorem fl394_0 : fldOf Try.prog 394 0 = some (0, 392) := by kernel_rfl
theorem fl394_1 : fldOf Try.prog 394 1 = some (1, 341) := by kernel_rfl
theorem pl394 : plOf Try.prog 394 = some ([(0, 1), (1, 1)], [.pointer none, .slice none 0 0]) := by kernel_rfl
theorem sz395 : szOf Try.prog 395 = some 1 := by kernel_rfl
theorem co395 : Program.cellsOf Try.prog 395 = 1 := by kernel_rfl
theorem by395 : Program.bytesOf Try.prog 395 = 8 := by kernel_rfl
theorem ag395 : aggB Try.prog 395 = false := by kernel_rfl
theorem zv395 : wpO.zvOf Try.prog 395 = some [.nilFunc] := by kernel_rfl
theorem sz399 : szOf Try.prog 399 = some 1 := by kernel_rfl
theorem co399 : Program.cellsOf Try.prog 399 = 1 := by kernel_rfl
theorem by399 : Program.bytesOf Try.prog 399 = 8 := by kernel_rfl
theorem ag399 : aggB Try.prog 399 = false := by kernel_rfl
theorem zv399 : wpO.zvOf Try.prog 399 = some [.nilFunc] := by kernel_rfl
theorem sz400 : szOf Try.prog 400 = some 1 := by kernel_rfl
theorem co400 : Program.cellsOf Try.prog 400 = 1 := by kernel_rfl
theorem by400 : Program.bytesOf Try.prog 400 = 8 := by kernel_rfl
theorem ag400 : aggB Try.prog 400 = false := by kernel_rfl
theorem zv400 : wpO.zvOf Try.prog 400 = some [.pointer none] := by kernel_rfl
theorem un400 : Try.prog.underlying 400 = some (.pointer 5) := by kernel_rfl
theorem sz401 : szOf Try.prog 401 = some 1 := by kernel_rfl
theorem co401 : Program.cellsOf Try.prog 401 = 1 := by kernel_rfl
theorem by401 : Program.bytesOf Try.prog 401 = 8 := by kernel_rfl
theorem ag401 : aggB Try.prog 401 = false := by kernel_rfl
theorem zv401 : wpO.zvOf Try.prog 401 = some [.pointer none] := by kernel_rfl
theorem sz402 : szOf Try.prog 402 = some 1 := by kernel_rfl
theorem co402 : Program.cellsOf Try.prog 402 = 1 := by kernel_rfl
theorem by402 : Program.bytesOf Try.prog 402 = 8 := by kernel_rfl
theorem ag402 : aggB Try.prog 402 = false := by kernel_rfl
theorem zv402 : wpO.zvOf Try.prog 402 = some [.nilFunc] := by kernel_rfl
theorem sz403 : szOf Try.prog 403 = some 1 := by kernel_rfl
theorem co403 : Program.cellsOf Try.prog 403 = 1 := by kernel_rfl
theorem by403 : Program.bytesOf Try.prog 403 = 8 := by kernel_rfl
theorem ag403 : aggB Try.prog 403 = false := by kernel_rfl
theorem zv403 : wpO.zvOf Try.prog 403 = some [.nilFunc] := by kernel_rfl
theorem sz404 : szOf Try.prog 404 = some 4 := by kernel_rfl
theorem co404 : Program.cellsOf Try.prog 404 = 4 := by kernel_rfl
theorem by404 : Program.bytesOf Try.prog 404 = 40 := by kernel_rfl
theorem ag404 : aggB Try.prog 404 = true := by kernel_rfl
theorem zv404 : wpO.zvOf Try.prog 404 = some [.pointer none, .pointer none, .pointer none, .string ⟨#[]⟩] := by kernel_rfl
theorem st404 : strOf Try.prog 404 = some [(17, 0), (17, 1), (17, 2), (9, 3)] := by kernel_rfl
theorem fl404_0 : fldOf Try.prog 404 0 = some (0, 17) := by kernel_rfl
theorem fl404_1 : fldOf Try.prog 404 1 = some (1, 17) := by kernel_rfl
theorem fl404_2 : fldOf Try.prog 404 2 = some (2, 17) := by kernel_rfl
theorem fl404_3 : fldOf Try.prog 404 3 = some (3, 9) := by kernel_rfl
theorem pl404 : plOf Try.prog 404 = some ([(0, 1), (1, 1), (2, 1), (3, 1)], [.pointer none, .pointer none, .pointer none, .string ⟨#[]⟩]) := by kernel_rfl
theorem sz405 : szOf Try.prog 405 = some 4 := by kernel_rfl
theorem co405 : Program.cellsOf Try.prog 405 = 4 := by kernel_rfl
theorem by405 : Program.bytesOf Try.prog 405 = 40 := by kernel_rfl
theorem ag405 : aggB Try.prog 405 = true := by kernel_rfl
theorem zv405 : wpO.zvOf Try.prog 405 = some [.pointer none, .pointer none, .pointer none, .string ⟨#[]⟩] := by kernel_rfl
theorem st405 : strOf Try.prog 405 = some [(17, 0), (17, 1), (17, 2), (9, 3)] := by kernel_rfl
theorem fl405_0 : fldOf Try.prog 405 0 = some (0, 17) := by kernel_rfl
theorem fl405_1 : fldOf Try.prog 405 1 = some (1, 17) := by kernel_rfl
theorem fl405_2 : fldOf Try.prog 405 2 = some (2, 17) := by kernel_rfl
theorem fl405_3 : fldOf Try.prog 405 3 = some (3, 9) := by kernel_rfl
theorem pl405 : plOf Try.prog 405 = some ([(0, 1), (1, 1), (2, 1), (3, 1)], [.pointer none, .pointer none, .pointer none, .string ⟨#[]⟩]) := by kernel_rfl
theorem sz406 : szOf Try.prog 406 = some 0 := by kernel_rfl
theorem co406 : Program.cellsOf Try.prog 406 = 0 := by kernel_rfl
theorem by406 : Program.bytesOf Try.prog 406 = 0 := by kernel_rfl
theorem ag406 : aggB Try.prog 406 = true := by kernel_rfl
theorem zv406 : wpO.zvOf Try.prog 406 = some [] := by kernel_rfl
theorem sz407 : szOf Try.prog 407 = some 0 := by kernel_rfl
theorem co407 : Program.cellsOf Try.prog 407 = 0 := by kernel_rfl
theorem by407 : Program.bytesOf Try.prog 407 = 0 := by kernel_rfl
theorem ag407 : aggB Try.prog 407 = true := by kernel_rfl
theorem zv407 : wpO.zvOf Try.prog 407 = some [] := by kernel_rfl
theorem st407 : strOf Try.prog 407 = some [(406, 0)] := by kernel_rfl
theorem fl407_0 : fldOf Try.prog 407 0 = some (0, 406) := by kernel_rfl
theorem pl407 : plOf Try.prog 407 = some ([(0, 0)], []) := by kernel_rfl
theorem sz408 : szOf Try.prog 408 = some 0 := by kernel_rfl
theorem co408 : Program.cellsOf Try.prog 408 = 0 := by kernel_rfl
theorem by408 : Program.bytesOf Try.prog 408 = 0 := by kernel_rfl
theorem ag408 : aggB Try.prog 408 = true := by kernel_rfl
theorem zv408 : wpO.zvOf Try.prog 408 = some [] := by kernel_rfl
theorem st408 : strOf Try.prog 408 = some [(406, 0)] := by kernel_rfl
theorem fl408_0 : fldOf Try.prog 408 0 = some (0, 406) := by kernel_rfl
theorem pl408 : plOf Try.prog 408 = some ([(0, 0)], []) := by kernel_rfl
theorem sz409 : szOf Try.prog 409 = some 1 := by kernel_rfl
theorem co409 : Program.cellsOf Try.prog 409 = 1 := by kernel_rfl
theorem by409 : Program.bytesOf Try.prog 409 = 8 := by kernel_rfl
theorem ag409 : aggB Try.prog 409 = false := by kernel_rfl
theorem zv409 : wpO.zvOf Try.prog 409 = some [.nilFunc] := by kernel_rfl
theorem sz410 : szOf Try.prog 410 = some 1 := by kernel_rfl
theorem co410 : Program.cellsOf Try.prog 410 = 1 := by kernel_rfl
theorem by410 : Program.bytesOf Try.prog 410 = 1 := by kernel_rfl
theorem ag410 : aggB Try.prog 410 = false := by kernel_rfl
theorem zv410 : wpO.zvOf Try.prog 410 = some [.int .u8 0] := by kernel_rfl
theorem un410 : Try.prog.underlying 410 = some (.int .u8) := by kernel_rfl
theorem sz411 : szOf Try.prog 411 = some 1 := by kernel_rfl
theorem co411 : Program.cellsOf Try.prog 411 = 1 := by kernel_rfl
theorem by411 : Program.bytesOf Try.prog 411 = 1 := by kernel_rfl
theorem ag411 : aggB Try.prog 411 = false := by kernel_rfl
theorem zv411 : wpO.zvOf Try.prog 411 = some [.int .u8 0] := by kernel_rfl
theorem un411 : Try.prog.underlying 411 = some (.int .u8) := by kernel_rfl
theorem sz412 : szOf Try.prog 412 = some 1 := by kernel_rfl
theorem co412 : Program.cellsOf Try.prog 412 = 1 := by kernel_rfl
theorem by412 : Program.bytesOf Try.prog 412 = 8 := by kernel_rfl
theorem ag412 : aggB Try.prog 412 = false := by kernel_rfl
theorem zv412 : wpO.zvOf Try.prog 412 = some [.nilFunc] := by kernel_rfl
theorem sz413 : szOf Try.prog 413 = some 1 := by kernel_rfl
theorem co413 : Program.cellsOf Try.prog 413 = 1 := by kernel_rfl
theorem by413 : Program.bytesOf Try.prog 413 = 4 := by kernel_rfl
theorem ag413 : aggB Try.prog 413 = false := by kernel_rfl
theorem zv413 : wpO.zvOf Try.prog 413 = some [.int .i32 0] := by kernel_rfl
theorem un413 : Try.prog.underlying 413 = some (.int .i32) := by kernel_rfl
theorem sz414 : szOf Try.prog 414 = some 1 := by kernel_rfl
theorem co414 : Program.cellsOf Try.prog 414 = 1 := by kernel_rfl
theorem by414 : Program.bytesOf Try.prog 414 = 4 := by kernel_rfl
theorem ag414 : aggB Try.prog 414 = false := by kernel_rfl
theorem zv414 : wpO.zvOf Try.prog 414 = some [.int .i32 0] := by kernel_rfl
theorem un414 : Try.prog.underlying 414 = some (.int .i32) := by kernel_rfl
theorem sz415 : szOf Try.prog 415 = some 11 := by kernel_rfl
theorem co415 : Program.cellsOf Try.prog 415 = 11 := by kernel_rfl
theorem by415 : Program.bytesOf Try.prog 415 = 48 := by kernel_rfl
theorem ag415 : aggB Try.prog 415 = true := by kernel_rfl
theorem zv415 : wpO.zvOf Try.prog 415 = some [.int .u64 0, .int .u64 0, .int .u32 0, .int .u8 0, .int .u8 0, .int .u8 0, .int .u8 0, .nilFunc, .pointer none, .int .i32 0, .int .i32 0] := by kernel_rfl
theorem st415 : strOf Try.prog 415 = some [(12, 0), (12, 1), (359, 2), (410, 3), (5, 4), (5, 5), (411, 6), (412, 7), (400, 8), (413, 9), (414, 10)] := by kernel_rfl
theorem fl415_0 : fldOf Try.prog 415 0 = some (0, 12) := by kernel_rfl
theorem fl415_1 : fldOf Try.prog 415 1 = some (1, 12) := by kernel_rfl
theorem fl415_2 : fldOf Try.prog 415 2 = some (2, 359) := by kernel_rfl
theorem fl415_3 : fldOf Try.prog 415 3 = some (3, 410) := by kernel_rfl
theorem fl415_4 : fldOf Try.prog 415 4 = some (4, 5) := by kernel_rfl
theorem fl415_5 : fldOf Try.prog 415 5 = some (5, 5) := by kernel_rfl
theorem fl415_6 : fldOf Try.prog 415 6 = some (6, 411) := by kernel_rfl
theorem fl415_7 : fldOf Try.prog 415 7 = some (7, 412) := by kernel_rfl
theorem fl415_8 : fldOf Try.prog 415 8 = some (8, 400) := by kernel_rfl
theorem fl415_9 : fldOf Try.prog 415 9 = some (9, 413) := by kernel_rfl
theorem fl415_10 : fldOf Try.prog 415 10 = some (10, 414) := by kernel_rfl
theorem pl415 : plOf Try.prog 415 = some ([(0, 1), (1, 1), (2, 1), (3, 1), (4, 1), (5, 1), (6, 1), (7, 1), (8, 1), (9, 1), (10, 1)], [.int .u64 0, .int .u64 0, .int .u32 0, .int .u8 0, .int .u8 0, .int .u8 0, .int .u8 0, .nilFunc, .pointer none, .int .i32 0, .int .i32 0]) := by kernel_rfl
theorem sz416 : szOf Try.prog 416 = some 11 := by kernel_rfl
theorem co416 : Program.cellsOf Try.prog 416 = 11 := by kernel_rfl
theorem by416 : Program.bytesOf Try.prog 416 = 48 := by kernel_rfl
theorem ag416 : aggB Try.prog 416 = true := by kernel_rfl
theorem zv416 : wpO.zvOf Try.prog 416 = some [.int .u64 0, .int .u64 0, .int .u32 0, .int .u8 0, .int .u8 0, .int .u8 0, .int .u8 0, .nilFunc, .pointer none, .int .i32 0, .int .i32 0] := by kernel_rfl
theorem st416 : strOf Try.prog 416 = some [(12, 0), (12, 1), (359, 2), (410, 3), (5, 4), (5, 5), (411, 6), (412, 7), (400, 8), (413, 9), (414, 10)] := by kernel_rfl
theorem fl416_0 : fldOf Try.prog 416 0 = some (0, 12) := by kernel_rfl
theorem fl416_1 : fldOf Try.prog 416 1 = some (1, 12) := by kernel_rfl
theorem fl416_2 : fldOf Try.prog 416 2 = some (2, 359) := by kernel_rfl
theorem fl416_3 : fldOf Try.prog 416 3 = some (3, 410) := by kernel_rfl
theorem fl416_4 : fldOf Try.prog 416 4 = some (4, 5) := by kernel_rfl
theorem fl416_5 : fldOf Try.prog 416 5 = some (5, 5) := by kernel_rfl
theorem fl416_6 : fldOf Try.prog 416 6 = some (6, 411) := by kernel_rfl
theorem fl416_7 : fldOf Try.prog 416 7 = some (7, 412) := by kernel_rfl
theorem fl416_8 : fldOf Try.prog 416 8 = some (8, 400) := by kernel_rfl
theorem fl416_9 : fldOf Try.prog 416 9 = some (9, 413) := by kernel_rfl
theorem fl416_10 : fldOf Try.prog 416 10 = some (10, 414) := by kernel_rfl
theorem pl416 : plOf Try.prog 416 = some ([(0, 1), (1, 1), (2, 1), (3, 1), (4, 1), (5, 1), (6, 1), (7, 1), (8, 1), (9, 1), (10, 1)], [.int .u64 0, .int .u64 0, .int .u32 0, .int .u8 0, .int .u8 0, .int .u8 0, .int .u8 0, .nilFunc, .pointer none, .int .i32 0, .int .i32 0]) := by kernel_rfl
theorem sz417 : szOf Try.prog 417 = some 1 := by kernel_rfl
theorem co417 : Program.cellsOf Try.prog 417 = 1 := by kernel_rfl
theorem by417 : Program.bytesOf Try.prog 417 = 8 := by kernel_rfl
theorem ag417 : aggB Try.prog 417 = false := by kernel_rfl
theorem zv417 : wpO.zvOf Try.prog 417 = some [.nilFunc] := by kernel_rfl
theorem okf2 : fnOk Try.prog 2 = true := by kernel_rfl
theorem okf3 : fnOk Try.prog 3 = true := by kernel_rfl
theorem okf4 : fnOk Try.prog 4 = true := by kernel_rfl
theorem okf5 : fnOk Try.prog 5 = true := by kernel_rfl
theorem okf6 : fnOk Try.prog 6 = true := by kernel_rfl
theorem okf7 : fnOk Try.prog 7 = true := by kernel_rfl
theorem okf8 : fnOk Try.prog 8 = true := by kernel_rfl
theorem okf9 : fnOk Try.prog 9 = true := by kernel_rfl
theorem okf10 : fnOk Try.prog 10 = true := by kernel_rfl
theorem okf11 : fnOk Try.prog 11 = true := by kernel_rfl
theorem okf12 : fnOk Try.prog 12 = true := by kernel_rfl
theorem okf13 : fnOk Try.prog 13 = true := by kernel_rfl
theorem okf14 : fnOk Try.prog 14 = true := by kernel_rfl
theorem okf15 : fnOk Try.prog 15 = true := by kernel_rfl
theorem okf16 : fnOk Try.prog 16 = true := by kernel_rfl
theorem okf17 : fnOk Try.prog 17 = true := by kernel_rfl
theorem okf18 : fnOk Try.prog 18 = true := by kernel_rfl
theorem okf19 : fnOk Try.prog 19 = true := by kernel_rfl
theorem okf20 : fnOk Try.prog 20 = true := by kernel_rfl
theorem okf21 : fnOk Try.prog 21 = true := by kernel_rfl
theorem okf22 : fnOk Try.prog 22 = true := by kernel_rfl
theorem okf23 : fnOk Try.prog 23 = true := by kernel_rfl
theorem okf24 : fnOk Try.prog 24 = true := by kernel_rfl
theorem okf25 : fnOk Try.prog 25 = true := by kernel_rfl
theorem okf26 : fnOk Try.prog 26 = true := by kernel_rfl
theorem okf27 : fnOk Try.prog 27 = true := by kernel_rfl
theorem okf28 : fnOk Try.prog 28 = true := by kernel_rfl
theorem okf29 : fnOk Try.prog 29 = true := by kernel_rfl
theorem okf30 : fnOk Try.prog 30 = true := by kernel_rfl
theorem okf31 : fnOk Try.prog 31 = true := by kernel_rfl
theorem okf32 : fnOk Try.prog 32 = true := by kernel_rfl
theorem okf33 : fnOk Try.prog 33 = true := by kernel_rfl
theorem okf34 : fnOk Try.prog 34 = true := by kernel_rfl
theorem okf35 : fnOk Try.prog 35 = true := by kernel_rfl
theorem okf36 : fnOk Try.prog 36 = true := by kernel_rfl
theorem okf37 : fnOk Try.prog 37 = true := by kernel_rfl
theorem okf38 : fnOk Try.prog 38 = true := by kernel_rfl
theorem okf39 : fnOk Try.prog 39 = true := by kernel_rfl
theorem okf40 : fnOk Try.prog 40 = true := by kernel_rfl
theorem okf41 : fnOk Try.prog 41 = true := by kernel_rfl
theorem okf42 : fnOk Try.prog 42 = true := by kernel_rfl
theorem okf43 : fnOk Try.prog 43 = true := by kernel_rfl
theorem okf44 : fnOk Try.prog 44 = true := by kernel_rfl
theorem okf45 : fnOk Try.prog 45 = true := by kernel_rfl
theorem okf46 : fnOk Try.prog 46 = true := by kernel_rfl
theorem okf47 : fnOk Try.prog 47 = true := by kernel_rfl
theorem okf48 : fnOk Try.prog 48 = true := by kernel_rfl
theorem okf49 : fnOk Try.prog 49 = true := by kernel_rfl
theorem okf50 : fnOk Try.prog 50 = true := by kernel_rfl
theorem okf51 : fnOk Try.prog 51 = true := by kernel_rfl
theorem okf52 : fnOk Try.prog 52 = true := by kernel_rfl
theorem okf53 : fnOk Try.prog 53 = true := by kernel_rfl
theorem okf54 : fnOk Try.prog 54 = true := by kernel_rfl
theorem okf55 : fnOk Try.prog 55 = true := by kernel_rfl
theorem okf56 : fnOk Try.prog 56 = true := by kernel_rfl
theorem okf57 : fnOk Try.prog 57 = true := by kernel_rfl
theorem okf58 : fnOk Try.prog 58 = true := by kernel_rfl
theorem okf59 : fnOk Try.prog 59 = true := by kernel_rfl
theorem okf60 : fnOk Try.prog 60 = true := by kernel_rfl
theorem okf61 : fnOk Try.prog 61 = true := by kernel_rfl
theorem okf62 : fnOk Try.prog 62 = true := by kernel_rfl
theorem okf63 : fnOk Try.prog 63 = true := by kernel_rfl
theorem okf64 : fnOk Try.prog 64 = true := by kernel_rfl
theorem okf65 : fnOk Try.prog 65 = true := by kernel_rfl
theorem okf66 : fnOk Try.prog 66 = true := by kernel_rfl
theorem okf67 : fnOk Try.prog 67 = true := by kernel_rfl
theorem okf68 : fnOk Try.prog 68 = true := by kernel_rfl
theorem okf69 : fnOk Try.prog 69 = true := by kernel_rfl
theorem okf70 : fnOk Try.prog 70 = true := by kernel_rfl
theorem okf71 : fnOk Try.prog 71 = true := by kernel_rfl
theorem okf72 : fnOk Try.prog 72 = true := by kernel_rfl
theorem okf73 : fnOk Try.prog 73 = true := by kernel_rfl
theorem okf74 : fnOk Try.prog 74 = true := by kernel_rfl
theorem okf75 : fnOk Try.prog 75 = true := by kernel_rfl
theorem okf76 : fnOk Try.prog 76 = true := by kernel_rfl
theorem okf77 : fnOk Try.prog 77 = true := by kernel_rfl
theorem okf78 : fnOk Try.prog 78 = true := by kernel_rfl
theorem okf79 : fnOk Try.prog 79 = true := by kernel_rfl
theorem okf80 : fnOk Try.prog 80 = true := by kernel_rfl
theorem okf81 : fnOk Try.prog 81 = true := by kernel_rfl
theorem okf82 : fnOk Try.prog 82 = true := by kernel_rfl
theorem okf83 : fnOk Try.prog 83 = true := by kernel_rfl
theorem okf84 : fnOk Try.prog 84 = true := by kernel_rfl
theorem okf85 : fnOk Try.prog 85 = true := by kernel_rfl
theorem okf86 : fnOk Try.prog 86 = true := by kernel_rfl
theorem okf87 : fnOk Try.prog 87 = true := by kernel_rfl
theorem okf88 : fnOk Try.prog 88 = true := by kernel_rfl
theorem okf89 : fnOk Try.prog 89 = true := by kernel_rfl
theorem okf90 : fnOk Try.prog 90 = true := by kernel_rfl
theorem okf91 : fnOk Try.prog 91 = true := by kernel_rfl
theorem okf92 : fnOk Try.prog 92 = true := by kernel_rfl
theorem okf93 : fnOk Try.prog 93 = true := by kernel_rfl
theorem okf94 : fnOk Try.prog 94 = true := by kernel_rfl
theorem okf95 : fnOk Try.prog 95 = true := by kernel_rfl
theorem okf96 : fnOk Try.prog 96 = true := by kernel_rfl
theorem okf97 : fnOk Try.prog 97 = true := by kernel_rfl
theorem okf98 : fnOk Try.prog 98 = true := by kernel_rfl
theorem okf99 : fnOk Try.prog 99 = true := by kernel_rfl
theorem okf100 : fnOk Try.prog 100 = true := by kernel_rfl
theorem okf101 : fnOk Try.prog 101 = true := by kernel_rfl
theorem okf102 : fnOk Try.prog 102 = true := by kernel_rfl
theorem okf103 : fnOk Try.prog 103 = true := by kernel_rfl
theorem okf104 : fnOk Try.prog 104 = true := by kernel_rfl
theorem okf105 : fnOk Try.prog 105 = true := by kernel_rfl
theorem okf106 : fnOk Try.prog 106 = true := by kernel_rfl
theorem okf107 : fnOk Try.prog 107 = true := by kernel_rfl
theorem okf108 : fnOk Try.prog 108 = true := by kernel_rfl
theorem okf109 : fnOk Try.prog 109 = true := by kernel_rfl
theorem okf110 : fnOk Try.prog 110 = true := by kernel_rfl
theorem okf111 : fnOk Try.prog 111 = true := by kernel_rfl
theorem okf112 : fnOk Try.prog 112 = true := by kernel_rfl
theorem okf113 : fnOk Try.prog 113 = true := by kernel_rfl
theorem okf114 : fnOk Try.prog 114 = true := by kernel_rfl
theorem okf115 : fnOk Try.prog 115 = true := by kernel_rfl
theorem okf116 : fnOk Try.prog 116 = true := by kernel_rfl
theorem okf117 : fnOk Try.prog 117 = true := by kernel_rfl
theorem okf118 : fnOk Try.prog 118 = true := by kernel_rfl
theorem okf119 : fnOk Try.prog 119 = true := by kernel_rfl
theorem okf120 : fnOk Try.prog 120 = true := by kernel_rfl
theorem okf121 : fnOk Try.prog 121 = true := by kernel_rfl
theorem okf122 : fnOk Try.prog 122 = true := by kernel_rfl
theorem okf123 : fnOk Try.prog 123 = true := by kernel_rfl
theorem okf124 : fnOk Try.prog 124 = true := by kernel_rfl
theorem okf125 : fnOk Try.prog 125 = true := by kernel_rfl
theorem okf126 : fnOk Try.prog 126 = true := by kernel_rfl
theorem okf127 : fnOk Try.prog 127 = true := by kernel_rfl
theorem okf128 : fnOk Try.prog 128 = true := by kernel_rfl
theorem okf129 : fnOk Try.prog 129 = true := by kernel_rfl
theorem okf130 : fnOk Try.prog 130 = true := by kernel_rfl
theorem okf131 : fnOk Try.prog 131 = true := by kernel_rfl
theorem okf132 : fnOk Try.prog 132 = true := by kernel_rfl
theorem okf133 : fnOk Try.prog 133 = true := by kernel_rfl
theorem okf134 : fnOk Try.prog 134 = true := by kernel_rfl
theorem okf135 : fnOk Try.prog 135 = true := by kernel_rfl
theorem okf136 : fnOk Try.prog 136 = true := by kernel_rfl
theorem okf137 : fnOk Try.prog 137 = true := by kernel_rfl
theorem okf138 : fnOk Try.prog 138 = true := by kernel_rfl
theorem okf139 : fnOk Try.prog 139 = true := by kernel_rfl
theorem okf140 : fnOk Try.prog 140 = true := by kernel_rfl
theorem okf141 : fnOk Try.prog 141 = true := by kernel_rfl
theorem okf142 : fnOk Try.prog 142 = true := by kernel_rfl
theorem okf143 : fnOk Try.prog 143 = true := by kernel_rfl
theorem okf144 : fnOk Try.prog 144 = true := by kernel_rfl
theorem okf145 : fnOk Try.prog 145 = true := by kernel_rfl
theorem okf146 : fnOk Try.prog 146 = true := by kernel_rfl
theorem okf147 : fnOk Try.prog 147 = true := by kernel_rfl
theorem okf148 : fnOk Try.prog 148 = true := by kernel_rfl
theorem okf149 : fnOk Try.prog 149 = true := by kernel_rfl
theorem okf150 : fnOk Try.prog 150 = true := by kernel_rfl
theorem okf151 : fnOk Try.prog 151 = true := by kernel_rfl
theorem okf152 : fnOk Try.prog 152 = true := by kernel_rfl
theorem okf153 : fnOk Try.prog 153 = true := by kernel_rfl
theorem okf154 : fnOk Try.prog 154 = true := by kernel_rfl
theorem okf155 : fnOk Try.prog 155 = true := by kernel_rfl
theorem okf156 : fnOk Try.prog 156 = true := by kernel_rfl
theorem okf157 : fnOk Try.prog 157 = true := by kernel_rfl
theorem okf158 : fnOk Try.prog 158 = true := by kernel_rfl
theorem okf159 : fnOk Try.prog 159 = true := by kernel_rfl
theorem okf160 : fnOk Try.prog 160 = true := by kernel_rfl
theorem okf161 : fnOk Try.prog 161 = true := by kernel_rfl
theorem okf162 : fnOk Try.prog 162 = true := by kernel_rfl
theorem okf163 : fnOk Try.prog 163 = true := by kernel_rfl
theorem okf164 : fnOk Try.prog 164 = true := by kernel_rfl
theorem okf165 : fnOk Try.prog 165 = true := by kernel_rfl
theorem okf166 : fnOk Try.prog 166 = true := by kernel_rfl
theorem okf167 : fnOk Try.prog 167 = true := by kernel_rfl
theorem okf168 : fnOk Try.prog 168 = true := by kernel_rfl
theorem okf169 : fnOk Try.prog 169 = true := by kernel_rfl
theorem okf170 : fnOk Try.prog 170 = true := by kernel_rfl
theorem okf171 : fnOk Try.prog 171 = true := by kernel_rfl
theorem okf172 : fnOk Try.prog 172 = true := by kernel_rfl
theorem okf173 : fnOk Try.prog 173 = true := by kernel_rfl
theorem okf174 : fnOk Try.prog 174 = true := by kernel_rfl
theorem okf175 : fnOk Try.prog 175 = true := by kernel_rfl
theorem okf176 : fnOk Try.prog 176 = true := by kernel_rfl
theorem okf177 : fnOk Try.prog 177 = true := by kernel_rfl
theorem okf178 : fnOk Try.prog 178 = true := by kernel_rfl
theorem okf179 : fnOk Try.prog 179 = true := by kernel_rfl
theorem okf180 : fnOk Try.prog 180 = true := by kernel_rfl
theorem okf181 : fnOk Try.prog 181 = true := by kernel_rfl
theorem okf182 : fnOk Try.prog 182 = true := by kernel_rfl
theorem okf183 : fnOk Try.prog 183 = true := by kernel_rfl
theorem okf184 : fnOk Try.prog 184 = true := by kernel_rfl
theorem okf185 : fnOk Try.prog 185 = true := by kernel_rfl
theorem okf186 : fnOk Try.prog 186 = true := by kernel_rfl
theorem okf187 : fnOk Try.prog 187 = true := by kernel_rfl
theorem okf188 : fnOk Try.prog 188 = true := by kernel_rfl
theorem okf189 : fnOk Try.prog 189 = true := by kernel_rfl
theorem okf190 : fnOk Try.prog 190 = true := by kernel_rfl
theorem okf191 : fnOk Try.prog 191 = true := by kernel_rfl
theorem okf192 : fnOk Try.prog 192 = true := by kernel_rfl
theorem okf193 : fnOk Try.prog 193 = true := by kernel_rfl
theorem okf194 : fnOk Try.prog 194 = true := by kernel_rfl
theorem okf195 : fnOk Try.prog 195 = true := by kernel_rfl
theorem okf196 : fnOk Try.prog 196 = true := by kernel_rfl
theorem okf197 : fnOk Try.prog 197 = true := by kernel_rfl
theorem okf198 : fnOk Try.prog 198 = true := by kernel_rfl
theorem okf199 : fnOk Try.prog 199 = true := by kernel_rfl
theorem okf200 : fnOk Try.prog 200 = true := by kernel_rfl
theorem okf201 : fnOk Try.prog 201 = true := by kernel_rfl
theorem okf202 : fnOk Try.prog 202 = true := by kernel_rfl
theorem okf203 : fnOk Try.prog 203 = true := by kernel_rfl
theorem okf204 : fnOk Try.prog 204 = true := by kernel_rfl
theorem okf205 : fnOk Try.prog 205 = true := by kernel_rfl
theorem okf206 : fnOk Try.prog 206 = true := by kernel_rfl
theorem okf207 : fnOk Try.prog 207 = true := by kernel_rfl
theorem okf208 : fnOk Try.prog 208 = true := by kernel_rfl
theorem okf209 : fnOk Try.prog 209 = true := by kernel_rfl
theorem okf210 : fnOk Try.prog 210 = true := by kernel_rfl
theorem okf211 : fnOk Try.prog 211 = true := by kernel_rfl
theorem okf212 : fnOk Try.prog 212 = true := by kernel_rfl
theorem okf213 : fnOk Try.prog 213 = true := by kernel_rfl
theorem okf214 : fnOk Try.prog 214 = true := by kernel_rfl
theorem okf215 : fnOk Try.prog 215 = true := by kernel_rfl
theorem okf216 : fnOk Try.prog 216 = true := by kernel_rfl
theorem okf217 : fnOk Try.prog 217 = true := by kernel_rfl
theorem okf218 : fnOk Try.prog 218 = true := by kernel_rfl
theorem okf219 : fnOk Try.prog 219 = true := by kernel_rfl
theorem okf220 : fnOk Try.prog 220 = true := by kernel_rfl
theorem okf221 : fnOk Try.prog 221 = true := by kernel_rfl
theorem okf222 : fnOk Try.prog 222 = true := by kernel_rfl
theorem okf223 : fnOk Try.prog 223 = true := by kernel_rfl
theorem okf224 : fnOk Try.prog 224 = true := by kernel_rfl
theorem okf225 : fnOk Try.prog 225 = true := by kernel_rfl
theorem okf226 : fnOk Try.prog 226 = true := by kernel_rfl
theorem okf227 : fnOk Try.prog 227 = true := by kernel_rfl
theorem okf228 : fnOk Try.prog 228 = true := by kernel_rfl
theorem okf229 : fnOk Try.prog 229 = true := by kernel_rfl
theorem okf230 : fnOk Try.prog 230 = true := by kernel_rfl
theorem okf231 : fnOk Try.prog 231 = true := by kernel_rfl
theorem okf232 : fnOk Try.prog 232 = true := by kernel_rfl
theorem okf233 : fnOk Try.prog 233 = true := by kernel_rfl
theorem okf234 : fnOk Try.prog 234 = true := by kernel_rfl
theorem okf235 : fnOk Try.prog 235 = true := by kernel_rfl
theorem okf236 : fnOk Try.prog 236 = true := by kernel_rfl
theorem okf237 : fnOk Try.prog 237 = true := by kernel_rfl
theorem okf238 : fnOk Try.prog 238 = true := by kernel_rfl
theorem okf239 : fnOk Try.prog 239 = true := by kernel_rfl
theorem okf240 : fnOk Try.prog 240 = true := by kernel_rfl
theorem okf241 : fnOk Try.prog 241 = true := by kernel_rfl
theorem okf242 : fnOk Try.prog 242 = true := by kernel_rfl
theorem okf243 : fnOk Try.prog 243 = true := by kernel_rfl
theorem okf244 : fnOk Try.prog 244 = true := by kernel_rfl
theorem okf245 : fnOk Try.prog 245 = true := by kernel_rfl
theorem okf246 : fnOk Try.prog 246 = true := by kernel_rfl
theorem okf247 : fnOk Try.prog 247 = true := by kernel_rfl
theorem okf248 : fnOk Try.prog 248 = true := by kernel_rfl
theorem okf249 : fnOk Try.prog 249 = true := by kernel_rfl
theorem okf250 : fnOk Try.prog 250 = true := by kernel_rfl
theorem okf251 : fnOk Try.prog 251 = true := by kernel_rfl
theorem okf252 : fnOk Try.prog 252 = true := by kernel_rfl
theorem okf253 : fnOk Try.prog 253 = true := by kernel_rfl
theorem okf254 : fnOk Try.prog 254 = true := by kernel_rfl
theorem okf255 : fnOk Try.prog 255 = true := by kernel_rfl
theorem okf256 : fnOk Try.prog 256 = true := by kernel_rfl
theorem okf257 : fnOk Try.prog 257 = true := by kernel_rfl
theorem okf258 : fnOk Try.prog 258 = true := by kernel_rfl
theorem okf259 : fnOk Try.prog 259 = true := by kernel_rfl
theorem okf260 : fnOk Try.prog 260 = true := by kernel_rfl
theorem okf261 : fnOk Try.prog 261 = true := by kernel_rfl
theorem okf262 : fnOk Try.prog 262 = true := by kernel_rfl
theorem okf263 : fnOk Try.prog 263 = true := by kernel_rfl
theorem okf264 : fnOk Try.prog 264 = true := by kernel_rfl
theorem okf265 : fnOk Try.prog 265 = true := by kernel_rfl
theorem okf266 : fnOk Try.prog 266 = true := by kernel_rfl
theorem okf267 : fnOk Try.prog 267 = true := by kernel_rfl
theorem okf268 : fnOk Try.prog 268 = true := by kernel_rfl
theorem okf269 : fnOk Try.prog 269 = true := by kernel_rfl
theorem okf270 : fnOk Try.prog 270 = true := by kernel_rfl
theorem okf271 : fnOk Try.prog 271 = true := by kernel_rfl
theorem okf272 : fnOk Try.prog 272 = true := by kernel_rfl
theorem okf273 : fnOk Try.prog 273 = true := by kernel_rfl
theorem okf274 : fnOk Try.prog 274 = true := by kernel_rfl
theorem okf275 : fnOk Try.prog 275 = true := by kernel_rfl
theorem okf276 : fnOk Try.prog 276 = true := by kernel_rfl
theorem okf277 : fnOk Try.prog 277 = true := by kernel_rfl
theorem okf278 : fnOk Try.prog 278 = true := by kernel_rfl
theorem okf279 : fnOk Try.prog 279 = true := by kernel_rfl
theorem okf280 : fnOk Try.prog 280 = true := by kernel_rfl
theorem okf281 : fnOk Try.prog 281 = true := by kernel_rfl
theorem okf282 : fnOk Try.prog 282 = true := by kernel_rfl
theorem okf283 : fnOk Try.prog 283 = true := by kernel_rfl
theorem okf285 : fnOk Try.prog 285 = true := by kernel_rfl
theorem okf286 : fnOk Try.prog 286 = true := by kernel_rfl
theorem okf287 : fnOk Try.prog 287 = true := by kernel_rfl
theorem okf288 : fnOk Try.prog 288 = true := by kernel_rfl
theorem okf289 : fnOk Try.prog 289 = true := by kernel_rfl
theorem okf290 : fnOk Try.prog 290 = true := by kernel_rfl
theorem okf291 : fnOk Try.prog 291 = true := by kernel_rfl
theorem okf292 : fnOk Try.prog 292 = true := by kernel_rfl
theorem okf293 : fnOk Try.prog 293 = true := by kernel_rfl
theorem okf294 : fnOk Try.prog 294 = true := by kernel_rfl
theorem okf295 : fnOk Try.prog 295 = true := by kernel_rfl
theorem okf296 : fnOk Try.prog 296 = true := by kernel_rfl
theorem okf297 : fnOk Try.prog 297 = true := by kernel_rfl
theorem okf298 : fnOk Try.prog 298 = true := by kernel_rfl
theorem okf299 : fnOk Try.prog 299 = true := by kernel_rfl
theorem okf300 : fnOk Try.prog 300 = true := by kernel_rfl
theorem okf301 : fnOk Try.prog 301 = true := by kernel_rfl
theorem okf302 : fnOk Try.prog 302 = true := by kernel_rfl
theorem okf303 : fnOk Try.prog 303 = true := by kernel_rfl
theorem okf304 : fnOk Try.prog 304 = true := by kernel_rfl
theorem okf305 : fnOk Try.prog 305 = true := by kernel_rfl
theorem okf306 : fnOk Try.prog 306 = true := by kernel_rfl
theorem okf307 : fnOk Try.prog 307 = true := by kernel_rfl
theorem okf308 : fnOk Try.prog 308 = true := by kernel_rfl
theorem okf309 : fnOk Try.prog 309 = true := by kernel_rfl
theorem okf310 : fnOk Try.prog 310 = true := by kernel_rfl
theorem okf311 : fnOk Try.prog 311 = true := by kernel_rfl
theorem okf312 : fnOk Try.prog 312 = true := by kernel_rfl
theorem okf313 : fnOk Try.prog 313 = true := by kernel_rfl
theorem okf314 : fnOk Try.prog 314 = true := by kernel_rfl
theorem okf315 : fnOk Try.prog 315 = true := by kernel_rfl
theorem okf316 : fnOk Try.prog 316 = true := by kernel_rfl
theorem okf317 : fnOk Try.prog 317 = true := by kernel_rfl
theorem okf318 : fnOk Try.prog 318 = true := by kernel_rfl
theorem okf319 : fnOk Try.prog 319 = true := by kernel_rfl
theorem okf320 : fnOk Try.prog 320 = true := by kernel_rfl
theorem okf321 : fnOk Try.prog 321 = true := by kernel_rfl
theorem okf322 : fnOk Try.prog 322 = true := by kernel_rfl
theorem okf323 : fnOk Try.prog 323 = true := by kernel_rfl
theorem okf324 : fnOk Try.prog 324 = true := by kernel_rfl
theorem okf325 : fnOk Try.prog 325 = true := by kernel_rfl
theorem okf326 : fnOk Try.prog 326 = true := by kernel_rfl
theorem okf327 : fnOk Try.prog 327 = true := by kernel_rfl
theorem okf328 : fnOk Try.prog 328 = true := by kernel_rfl
theorem okf329 : fnOk Try.prog 329 = true := by kernel_rfl
theorem okf330 : fnOk Try.prog 330 = true := by kernel_rfl
theorem okf331 : fnOk Try.prog 331 = true := by kernel_rfl
theorem okf332 : fnOk Try.prog 332 = true := by kernel_rfl
theorem okf333 : fnOk Try.prog 333 = true := by kernel_rfl
theorem okf334 : fnOk Try.prog 334 = true := by kernel_rfl
theorem okf335 : fnOk Try.prog 335 = true := by kernel_rfl
theorem okf336 : fnOk Try.prog 336 = true := by kernel_rfl
theorem okf337 : fnOk Try.prog 337 = true := by kernel_rfl
theorem okf338 : fnOk Try.prog 338 = true := by kernel_rfl
theorem okf339 : fnOk Try.prog 339 = true := by kernel_rfl
theorem okf340 : fnOk Try.prog 340 = true := by kernel_rfl
theorem okf341 : fnOk Try.prog 341 = true := by kernel_rfl
theorem okf342 : fnOk Try.prog 342 = true := by kernel_rfl
theorem okf343 : fnOk Try.prog 343 = true := by kernel_rfl
theorem okf344 : fnOk Try.prog 344 = true := by kernel_rfl
theorem okf345 : fnOk Try.prog 345 = true := by kernel_rfl
theorem okf346 : fnOk Try.prog 346 = true := by kernel_rfl
theorem okf347 : fnOk Try.prog 347 = true := by kernel_rfl
theorem okf348 : fnOk Try.prog 348 = true := by kernel_rfl
theorem okf349 : fnOk Try.prog 349 = true := by kernel_rfl
theorem okf350 : fnOk Try.prog 350 = true := by kernel_rfl
theorem okf351 : fnOk Try.prog 351 = true := by kernel_rfl
theorem okf352 : fnOk Try.prog 352 = true := by kernel_rfl
theorem okf353 : fnOk Try.prog 353 = true := by kernel_rfl
theorem mixed : Try.prog.follows .mixedOrders = true := by kernel_rfl
end Go.VC.F
