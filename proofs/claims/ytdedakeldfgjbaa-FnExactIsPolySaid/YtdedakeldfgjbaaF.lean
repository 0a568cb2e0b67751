/- Facts of the program: sizes, zero values and fields of its types. -/
import Derived.Test.YtdedakeldfgjbaaProg
import Derived.Test.YtdedakeldfgjbaaV13
import Derived.KernelRfl
namespace Go.VC.F
open Go Go.VC
open Go.Proofs
theorem sz1 : szOf Try.prog 1 = some 1 := by kernel_rfl
theorem co1 : Program.cellsOf Try.prog 1 = 1 := by kernel_rfl
theorem by1 : Program.bytesOf Try.prog 1 = 8 := by kernel_rfl
theorem ag1 : aggB Try.prog 1 = false := by kernel_rfl
theorem zv1 : wpO.zvOf Try.prog 1 = some [.nilFunc] := by kernel_rfl
theorem sz2 : szOf Try.prog 2 = some 1 := by kernel_rfl
theorem co2 : Program.cellsOf Try.prog 2 = 1 := by kernel_rfl
theorem by2 : Program.bytesOf Try.prog 2 = 8 := by kernel_rfl
theorem ag2 : aggB Try.prog 2 = false := by kernel_rfl
theorem zv2 : wpO.zvOf Try.prog 2 = some [.int .i64 0] := by kernel_rfl
theorem un2 : Try.prog.underlying 2 = some (.int .i64) := by kernel_rfl
theorem sz3 : szOf Try.prog 3 = some 1 := by kernel_rfl
theorem co3 : Program.cellsOf Try.prog 3 = 1 := by kernel_rfl
theorem by3 : Program.bytesOf Try.prog 3 = 8 := by kernel_rfl
theorem ag3 : aggB Try.prog 3 = false := by kernel_rfl
theorem zv3 : wpO.zvOf Try.prog 3 = some [.int .i64 0] := by kernel_rfl
theorem un3 : Try.prog.underlying 3 = some (.int .i64) := by kernel_rfl
theorem sz4 : szOf Try.prog 4 = some 1 := by kernel_rfl
theorem co4 : Program.cellsOf Try.prog 4 = 1 := by kernel_rfl
theorem by4 : Program.bytesOf Try.prog 4 = 1 := by kernel_rfl
theorem ag4 : aggB Try.prog 4 = false := by kernel_rfl
theorem zv4 : wpO.zvOf Try.prog 4 = some [.bool false] := by kernel_rfl
theorem un4 : Try.prog.underlying 4 = some .bool := by kernel_rfl
theorem sz5 : szOf Try.prog 5 = some 1 := by kernel_rfl
theorem co5 : Program.cellsOf Try.prog 5 = 1 := by kernel_rfl
theorem by5 : Program.bytesOf Try.prog 5 = 1 := by kernel_rfl
theorem ag5 : aggB Try.prog 5 = false := by kernel_rfl
theorem zv5 : wpO.zvOf Try.prog 5 = some [.int .u8 0] := by kernel_rfl
theorem un5 : Try.prog.underlying 5 = some (.int .u8) := by kernel_rfl
theorem sz6 : szOf Try.prog 6 = some 1 := by kernel_rfl
theorem co6 : Program.cellsOf Try.prog 6 = 1 := by kernel_rfl
theorem by6 : Program.bytesOf Try.prog 6 = 1 := by kernel_rfl
theorem ag6 : aggB Try.prog 6 = false := by kernel_rfl
theorem zv6 : wpO.zvOf Try.prog 6 = some [.int .u8 0] := by kernel_rfl
theorem un6 : Try.prog.underlying 6 = some (.int .u8) := by kernel_rfl
theorem sz7 : szOf Try.prog 7 = some 4 := by kernel_rfl
theorem co7 : Program.cellsOf Try.prog 7 = 4 := by kernel_rfl
theorem by7 : Program.bytesOf Try.prog 7 = 24 := by kernel_rfl
theorem ag7 : aggB Try.prog 7 = true := by kernel_rfl
theorem zv7 : wpO.zvOf Try.prog 7 = some [.int .i64 0, .int .i64 0, .bool false, .int .u8 0] := by kernel_rfl
theorem st7 : strOf Try.prog 7 = some [(2, 0), (3, 1), (4, 2), (6, 3)] := by kernel_rfl
theorem fl7_0 : fldOf Try.prog 7 0 = some (0, 2) := by kernel_rfl
theorem fl7_1 : fldOf Try.prog 7 1 = some (1, 3) := by kernel_rfl
theorem fl7_2 : fldOf Try.prog 7 2 = some (2, 4) := by kernel_rfl
theorem fl7_3 : fldOf Try.prog 7 3 = some (3, 6) := by kernel_rfl
theorem pl7 : plOf Try.prog 7 = some ([(0, 1), (1, 1), (2, 1), (3, 1)], [.int .i64 0, .int .i64 0, .bool false, .int .u8 0]) := by kernel_rfl
theorem sz8 : szOf Try.prog 8 = some 4 := by kernel_rfl
theorem co8 : Program.cellsOf Try.prog 8 = 4 := by kernel_rfl
theorem by8 : Program.bytesOf Try.prog 8 = 24 := by kernel_rfl
theorem ag8 : aggB Try.prog 8 = true := by kernel_rfl
theorem zv8 : wpO.zvOf Try.prog 8 = some [.int .i64 0, .int .i64 0, .bool false, .int .u8 0] := by kernel_rfl
theorem st8 : strOf Try.prog 8 = some [(2, 0), (3, 1), (4, 2), (6, 3)] := by kernel_rfl
theorem fl8_0 : fldOf Try.prog 8 0 = some (0, 2) := by kernel_rfl
theorem fl8_1 : fldOf Try.prog 8 1 = some (1, 3) := by kernel_rfl
theorem fl8_2 : fldOf Try.prog 8 2 = some (2, 4) := by kernel_rfl
theorem fl8_3 : fldOf Try.prog 8 3 = some (3, 6) := by kernel_rfl
theorem pl8 : plOf Try.prog 8 = some ([(0, 1), (1, 1), (2, 1), (3, 1)], [.int .i64 0, .int .i64 0, .bool false, .int .u8 0]) := by kernel_rfl
theorem sz9 : szOf Try.prog 9 = some 1 := by kernel_rfl
theorem co9 : Program.cellsOf Try.prog 9 = 1 := by kernel_rfl
theorem by9 : Program.bytesOf Try.prog 9 = 16 := by kernel_rfl
theorem ag9 : aggB Try.prog 9 = false := by kernel_rfl
theorem zv9 : wpO.zvOf Try.prog 9 = some [.string ⟨#[]⟩] := by kernel_rfl
theorem un9 : Try.prog.underlying 9 = some .string := by kernel_rfl
theorem sz10 : szOf Try.prog 10 = some 1 := by kernel_rfl
theorem co10 : Program.cellsOf Try.prog 10 = 1 := by kernel_rfl
theorem by10 : Program.bytesOf Try.prog 10 = 16 := by kernel_rfl
theorem ag10 : aggB Try.prog 10 = false := by kernel_rfl
theorem zv10 : wpO.zvOf Try.prog 10 = some [.string ⟨#[]⟩] := by kernel_rfl
theorem un10 : Try.prog.underlying 10 = some .string := by kernel_rfl
theorem sz11 : szOf Try.prog 11 = some 1 := by kernel_rfl
theorem co11 : Program.cellsOf Try.prog 11 = 1 := by kernel_rfl
theorem by11 : Program.bytesOf Try.prog 11 = 16 := by kernel_rfl
theorem ag11 : aggB Try.prog 11 = false := by kernel_rfl
theorem zv11 : wpO.zvOf Try.prog 11 = some [.string ⟨#[]⟩] := by kernel_rfl
theorem un11 : Try.prog.underlying 11 = some .string := by kernel_rfl
theorem sz12 : szOf Try.prog 12 = some 1 := by kernel_rfl
theorem co12 : Program.cellsOf Try.prog 12 = 1 := by kernel_rfl
theorem by12 : Program.bytesOf Try.prog 12 = 8 := by kernel_rfl
theorem ag12 : aggB Try.prog 12 = false := by kernel_rfl
theorem zv12 : wpO.zvOf Try.prog 12 = some [.int .u64 0] := by kernel_rfl
theorem un12 : Try.prog.underlying 12 = some (.int .u64) := by kernel_rfl
theorem sz13 : szOf Try.prog 13 = some 2 := by kernel_rfl
theorem co13 : Program.cellsOf Try.prog 13 = 2 := by kernel_rfl
theorem by13 : Program.bytesOf Try.prog 13 = 24 := by kernel_rfl
theorem ag13 : aggB Try.prog 13 = true := by kernel_rfl
theorem zv13 : wpO.zvOf Try.prog 13 = some [.string ⟨#[]⟩, .int .u64 0] := by kernel_rfl
theorem st13 : strOf Try.prog 13 = some [(9, 0), (12, 1)] := by kernel_rfl
theorem fl13_0 : fldOf Try.prog 13 0 = some (0, 9) := by kernel_rfl
theorem fl13_1 : fldOf Try.prog 13 1 = some (1, 12) := by kernel_rfl
theorem pl13 : plOf Try.prog 13 = some ([(0, 1), (1, 1)], [.string ⟨#[]⟩, .int .u64 0]) := by kernel_rfl
theorem sz14 : szOf Try.prog 14 = some 2 := by kernel_rfl
theorem co14 : Program.cellsOf Try.prog 14 = 2 := by kernel_rfl
theorem by14 : Program.bytesOf Try.prog 14 = 24 := by kernel_rfl
theorem ag14 : aggB Try.prog 14 = true := by kernel_rfl
theorem zv14 : wpO.zvOf Try.prog 14 = some [.string ⟨#[]⟩, .int .u64 0] := by kernel_rfl
theorem st14 : strOf Try.prog 14 = some [(9, 0), (12, 1)] := by kernel_rfl
theorem fl14_0 : fldOf Try.prog 14 0 = some (0, 9) := by kernel_rfl
theorem fl14_1 : fldOf Try.prog 14 1 = some (1, 12) := by kernel_rfl
theorem pl14 : plOf Try.prog 14 = some ([(0, 1), (1, 1)], [.string ⟨#[]⟩, .int .u64 0]) := by kernel_rfl
theorem sz15 : szOf Try.prog 15 = some 1 := by kernel_rfl
theorem co15 : Program.cellsOf Try.prog 15 = 1 := by kernel_rfl
theorem by15 : Program.bytesOf Try.prog 15 = 8 := by kernel_rfl
theorem ag15 : aggB Try.prog 15 = false := by kernel_rfl
theorem zv15 : wpO.zvOf Try.prog 15 = some [.pointer none] := by kernel_rfl
theorem sz16 : szOf Try.prog 16 = some 1 := by kernel_rfl
theorem co16 : Program.cellsOf Try.prog 16 = 1 := by kernel_rfl
theorem by16 : Program.bytesOf Try.prog 16 = 8 := by kernel_rfl
theorem ag16 : aggB Try.prog 16 = false := by kernel_rfl
theorem zv16 : wpO.zvOf Try.prog 16 = some [.pointer none] := by kernel_rfl
theorem sz17 : szOf Try.prog 17 = some 1 := by kernel_rfl
theorem co17 : Program.cellsOf Try.prog 17 = 1 := by kernel_rfl
theorem by17 : Program.bytesOf Try.prog 17 = 8 := by kernel_rfl
theorem ag17 : aggB Try.prog 17 = false := by kernel_rfl
theorem zv17 : wpO.zvOf Try.prog 17 = some [.pointer none] := by kernel_rfl
theorem sz18 : szOf Try.prog 18 = some 1 := by kernel_rfl
theorem co18 : Program.cellsOf Try.prog 18 = 1 := by kernel_rfl
theorem by18 : Program.bytesOf Try.prog 18 = 8 := by kernel_rfl
theorem ag18 : aggB Try.prog 18 = true := by kernel_rfl
theorem zv18 : wpO.zvOf Try.prog 18 = some [.pointer none] := by kernel_rfl
theorem st18 : strOf Try.prog 18 = some [(17, 0)] := by kernel_rfl
theorem fl18_0 : fldOf Try.prog 18 0 = some (0, 17) := by kernel_rfl
theorem pl18 : plOf Try.prog 18 = some ([(0, 1)], [.pointer none]) := by kernel_rfl
theorem sz19 : szOf Try.prog 19 = some 1 := by kernel_rfl
theorem co19 : Program.cellsOf Try.prog 19 = 1 := by kernel_rfl
theorem by19 : Program.bytesOf Try.prog 19 = 8 := by kernel_rfl
theorem ag19 : aggB Try.prog 19 = true := by kernel_rfl
theorem zv19 : wpO.zvOf Try.prog 19 = some [.pointer none] := by kernel_rfl
theorem st19 : strOf Try.prog 19 = some [(17, 0)] := by kernel_rfl
theorem fl19_0 : fldOf Try.prog 19 0 = some (0, 17) := by kernel_rfl
theorem pl19 : plOf Try.prog 19 = some ([(0, 1)], [.pointer none]) := by kernel_rfl
theorem sz21 : szOf Try.prog 21 = some 1 := by kernel_rfl
theorem co21 : Program.cellsOf Try.prog 21 = 1 := by kernel_rfl
theorem by21 : Program.bytesOf Try.prog 21 = 4 := by kernel_rfl
theorem ag21 : aggB Try.prog 21 = false := by kernel_rfl
theorem zv21 : wpO.zvOf Try.prog 21 = some [.int .i32 0] := by kernel_rfl
theorem un21 : Try.prog.underlying 21 = some (.int .i32) := by kernel_rfl
theorem sz22 : szOf Try.prog 22 = some 1 := by kernel_rfl
theorem co22 : Program.cellsOf Try.prog 22 = 1 := by kernel_rfl
theorem by22 : Program.bytesOf Try.prog 22 = 8 := by kernel_rfl
theorem ag22 : aggB Try.prog 22 = false := by kernel_rfl
theorem zv22 : wpO.zvOf Try.prog 22 = some [.nilFunc] := by kernel_rfl
theorem sz23 : szOf Try.prog 23 = some 1 := by kernel_rfl
theorem co23 : Program.cellsOf Try.prog 23 = 1 := by kernel_rfl
theorem by23 : Program.bytesOf Try.prog 23 = 8 := by kernel_rfl
theorem ag23 : aggB Try.prog 23 = false := by kernel_rfl
theorem zv23 : wpO.zvOf Try.prog 23 = some [.nilFunc] := by kernel_rfl
theorem sz24 : szOf Try.prog 24 = some 1 := by kernel_rfl
theorem co24 : Program.cellsOf Try.prog 24 = 1 := by kernel_rfl
theorem by24 : Program.bytesOf Try.prog 24 = 24 := by kernel_rfl
theorem ag24 : aggB Try.prog 24 = false := by kernel_rfl
theorem zv24 : wpO.zvOf Try.prog 24 = some [.slice none 0 0] := by kernel_rfl
theorem un24 : Try.prog.underlying 24 = some (.slice 46) := by kernel_rfl
theorem el24 : elOf Try.prog 24 = some (46, 2) := by kernel_rfl
theorem ap24 : apOf Try.prog 24 = some (46, 2, 32, [.int .i64 0, .slice none 0 0]) := by kernel_rfl
theorem sz25 : szOf Try.prog 25 = some 1 := by kernel_rfl
theorem co25 : Program.cellsOf Try.prog 25 = 1 := by kernel_rfl
theorem by25 : Program.bytesOf Try.prog 25 = 24 := by kernel_rfl
theorem ag25 : aggB Try.prog 25 = true := by kernel_rfl
theorem zv25 : wpO.zvOf Try.prog 25 = some [.slice none 0 0] := by kernel_rfl
theorem st25 : strOf Try.prog 25 = some [(24, 0)] := by kernel_rfl
theorem fl25_0 : fldOf Try.prog 25 0 = some (0, 24) := by kernel_rfl
theorem pl25 : plOf Try.prog 25 = some ([(0, 1)], [.slice none 0 0]) := by kernel_rfl
theorem sz26 : szOf Try.prog 26 = some 1 := by kernel_rfl
theorem co26 : Program.cellsOf Try.prog 26 = 1 := by kernel_rfl
theorem by26 : Program.bytesOf Try.prog 26 = 24 := by kernel_rfl
theorem ag26 : aggB Try.prog 26 = true := by kernel_rfl
theorem zv26 : wpO.zvOf Try.prog 26 = some [.slice none 0 0] := by kernel_rfl
theorem st26 : strOf Try.prog 26 = some [(24, 0)] := by kernel_rfl
theorem fl26_0 : fldOf Try.prog 26 0 = some (0, 24) := by kernel_rfl
theorem pl26 : plOf Try.prog 26 = some ([(0, 1)], [.slice none 0 0]) := by kernel_rfl
theorem sz27 : szOf Try.prog 27 = some 1 := by kernel_rfl
theorem co27 : Program.cellsOf Try.prog 27 = 1 := by kernel_rfl
theorem by27 : Program.bytesOf Try.prog 27 = 8 := by kernel_rfl
theorem ag27 : aggB Try.prog 27 = false := by kernel_rfl
theorem zv27 : wpO.zvOf Try.prog 27 = some [.nilFunc] := by kernel_rfl
theorem sz28 : szOf Try.prog 28 = some 1 := by kernel_rfl
theorem co28 : Program.cellsOf Try.prog 28 = 1 := by kernel_rfl
theorem by28 : Program.bytesOf Try.prog 28 = 8 := by kernel_rfl
theorem ag28 : aggB Try.prog 28 = false := by kernel_rfl
theorem zv28 : wpO.zvOf Try.prog 28 = some [.nilFunc] := by kernel_rfl
theorem sz29 : szOf Try.prog 29 = some 1 := by kernel_rfl
theorem co29 : Program.cellsOf Try.prog 29 = 1 := by kernel_rfl
theorem by29 : Program.bytesOf Try.prog 29 = 8 := by kernel_rfl
theorem ag29 : aggB Try.prog 29 = false := by kernel_rfl
theorem zv29 : wpO.zvOf Try.prog 29 = some [.nilFunc] := by kernel_rfl
theorem sz30 : szOf Try.prog 30 = some 1 := by kernel_rfl
theorem co30 : Program.cellsOf Try.prog 30 = 1 := by kernel_rfl
theorem by30 : Program.bytesOf Try.prog 30 = 8 := by kernel_rfl
theorem ag30 : aggB Try.prog 30 = false := by kernel_rfl
theorem zv30 : wpO.zvOf Try.prog 30 = some [.nilFunc] := by kernel_rfl
theorem sz31 : szOf Try.prog 31 = some 1 := by kernel_rfl
theorem co31 : Program.cellsOf Try.prog 31 = 1 := by kernel_rfl
theorem by31 : Program.bytesOf Try.prog 31 = 8 := by kernel_rfl
theorem ag31 : aggB Try.prog 31 = false := by kernel_rfl
theorem zv31 : wpO.zvOf Try.prog 31 = some [.nilFunc] := by kernel_rfl
theorem sz32 : szOf Try.prog 32 = some 1 := by kernel_rfl
theorem co32 : Program.cellsOf Try.prog 32 = 1 := by kernel_rfl
theorem by32 : Program.bytesOf Try.prog 32 = 24 := by kernel_rfl
theorem ag32 : aggB Try.prog 32 = false := by kernel_rfl
theorem zv32 : wpO.zvOf Try.prog 32 = some [.slice none 0 0] := by kernel_rfl
theorem un32 : Try.prog.underlying 32 = some (.slice 50) := by kernel_rfl
theorem el32 : elOf Try.prog 32 = some (50, 1) := by kernel_rfl
theorem ap32 : apOf Try.prog 32 = some (50, 1, 24, [.slice none 0 0]) := by kernel_rfl
theorem sz33 : szOf Try.prog 33 = some 1 := by kernel_rfl
theorem co33 : Program.cellsOf Try.prog 33 = 1 := by kernel_rfl
theorem by33 : Program.bytesOf Try.prog 33 = 8 := by kernel_rfl
theorem ag33 : aggB Try.prog 33 = false := by kernel_rfl
theorem zv33 : wpO.zvOf Try.prog 33 = some [.nilFunc] := by kernel_rfl
theorem sz34 : szOf Try.prog 34 = some 1 := by kernel_rfl
theorem co34 : Program.cellsOf Try.prog 34 = 1 := by kernel_rfl
theorem by34 : Program.bytesOf Try.prog 34 = 8 := by kernel_rfl
theorem ag34 : aggB Try.prog 34 = false := by kernel_rfl
theorem zv34 : wpO.zvOf Try.prog 34 = some [.nilFunc] := by kernel_rfl
theorem sz35 : szOf Try.prog 35 = some 1 := by kernel_rfl
theorem co35 : Program.cellsOf Try.prog 35 = 1 := by kernel_rfl
theorem by35 : Program.bytesOf Try.prog 35 = 8 := by kernel_rfl
theorem ag35 : aggB Try.prog 35 = false := by kernel_rfl
theorem zv35 : wpO.zvOf Try.prog 35 = some [.nilFunc] := by kernel_rfl
theorem sz36 : szOf Try.prog 36 = some 1 := by kernel_rfl
theorem co36 : Program.cellsOf Try.prog 36 = 1 := by kernel_rfl
theorem by36 : Program.bytesOf Try.prog 36 = 24 := by kernel_rfl
theorem ag36 : aggB Try.prog 36 = false := by kernel_rfl
theorem zv36 : wpO.zvOf Try.prog 36 = some [.slice none 0 0] := by kernel_rfl
theorem un36 : Try.prog.underlying 36 = some (.slice 66) := by kernel_rfl
theorem el36 : elOf Try.prog 36 = some (66, 2) := by kernel_rfl
theorem ap36 : apOf Try.prog 36 = some (66, 2, 32, [.int .i64 0, .slice none 0 0]) := by kernel_rfl
theorem sz37 : szOf Try.prog 37 = some 1 := by kernel_rfl
theorem co37 : Program.cellsOf Try.prog 37 = 1 := by kernel_rfl
theorem by37 : Program.bytesOf Try.prog 37 = 24 := by kernel_rfl
theorem ag37 : aggB Try.prog 37 = true := by kernel_rfl
theorem zv37 : wpO.zvOf Try.prog 37 = some [.slice none 0 0] := by kernel_rfl
theorem st37 : strOf Try.prog 37 = some [(36, 0)] := by kernel_rfl
theorem fl37_0 : fldOf Try.prog 37 0 = some (0, 36) := by kernel_rfl
theorem pl37 : plOf Try.prog 37 = some ([(0, 1)], [.slice none 0 0]) := by kernel_rfl
theorem sz38 : szOf Try.prog 38 = some 1 := by kernel_rfl
theorem co38 : Program.cellsOf Try.prog 38 = 1 := by kernel_rfl
theorem by38 : Program.bytesOf Try.prog 38 = 24 := by kernel_rfl
theorem ag38 : aggB Try.prog 38 = true := by kernel_rfl
theorem zv38 : wpO.zvOf Try.prog 38 = some [.slice none 0 0] := by kernel_rfl
theorem st38 : strOf Try.prog 38 = some [(36, 0)] := by kernel_rfl
theorem fl38_0 : fldOf Try.prog 38 0 = some (0, 36) := by kernel_rfl
theorem pl38 : plOf Try.prog 38 = some ([(0, 1)], [.slice none 0 0]) := by kernel_rfl
theorem sz39 : szOf Try.prog 39 = some 1 := by kernel_rfl
theorem co39 : Program.cellsOf Try.prog 39 = 1 := by kernel_rfl
theorem by39 : Program.bytesOf Try.prog 39 = 8 := by kernel_rfl
theorem ag39 : aggB Try.prog 39 = false := by kernel_rfl
theorem zv39 : wpO.zvOf Try.prog 39 = some [.nilFunc] := by kernel_rfl
theorem sz40 : szOf Try.prog 40 = some 1 := by kernel_rfl
theorem co40 : Program.cellsOf Try.prog 40 = 1 := by kernel_rfl
theorem by40 : Program.bytesOf Try.prog 40 = 8 := by kernel_rfl
theorem ag40 : aggB Try.prog 40 = false := by kernel_rfl
theorem zv40 : wpO.zvOf Try.prog 40 = some [.nilFunc] := by kernel_rfl
theorem sz41 : szOf Try.prog 41 = some 1 := by kernel_rfl
theorem co41 : Program.cellsOf Try.prog 41 = 1 := by kernel_rfl
theorem by41 : Program.bytesOf Try.prog 41 = 8 := by kernel_rfl
theorem ag41 : aggB Try.prog 41 = false := by kernel_rfl
theorem zv41 : wpO.zvOf Try.prog 41 = some [.nilFunc] := by kernel_rfl
theorem sz42 : szOf Try.prog 42 = some 1 := by kernel_rfl
theorem co42 : Program.cellsOf Try.prog 42 = 1 := by kernel_rfl
theorem by42 : Program.bytesOf Try.prog 42 = 8 := by kernel_rfl
theorem ag42 : aggB Try.prog 42 = false := by kernel_rfl
theorem zv42 : wpO.zvOf Try.prog 42 = some [.nilFunc] := by kernel_rfl
theorem sz43 : szOf Try.prog 43 = some 1 := by kernel_rfl
theorem co43 : Program.cellsOf Try.prog 43 = 1 := by kernel_rfl
theorem by43 : Program.bytesOf Try.prog 43 = 8 := by kernel_rfl
theorem ag43 : aggB Try.prog 43 = false := by kernel_rfl
theorem zv43 : wpO.zvOf Try.prog 43 = some [.nilFunc] := by kernel_rfl
theorem sz44 : szOf Try.prog 44 = some 1 := by kernel_rfl
theorem co44 : Program.cellsOf Try.prog 44 = 1 := by kernel_rfl
theorem by44 : Program.bytesOf Try.prog 44 = 24 := by kernel_rfl
theorem ag44 : aggB Try.prog 44 = false := by kernel_rfl
theorem zv44 : wpO.zvOf Try.prog 44 = some [.slice none 0 0] := by kernel_rfl
theorem un44 : Try.prog.underlying 44 = some (.slice 9) := by kernel_rfl
theorem el44 : elOf Try.prog 44 = some (9, 1) := by kernel_rfl
theorem ap44 : apOf Try.prog 44 = some (9, 1, 16, [.string ⟨#[]⟩]) := by kernel_rfl
theorem sz45 : szOf Try.prog 45 = some 2 := by kernel_rfl
theorem co45 : Program.cellsOf Try.prog 45 = 2 := by kernel_rfl
theorem by45 : Program.bytesOf Try.prog 45 = 32 := by kernel_rfl
theorem ag45 : aggB Try.prog 45 = true := by kernel_rfl
theorem zv45 : wpO.zvOf Try.prog 45 = some [.int .i64 0, .slice none 0 0] := by kernel_rfl
theorem st45 : strOf Try.prog 45 = some [(3, 0), (44, 1)] := by kernel_rfl
theorem fl45_0 : fldOf Try.prog 45 0 = some (0, 3) := by kernel_rfl
theorem fl45_1 : fldOf Try.prog 45 1 = some (1, 44) := by kernel_rfl
theorem pl45 : plOf Try.prog 45 = some ([(0, 1), (1, 1)], [.int .i64 0, .slice none 0 0]) := by kernel_rfl
theorem sz46 : szOf Try.prog 46 = some 2 := by kernel_rfl
theorem co46 : Program.cellsOf Try.prog 46 = 2 := by kernel_rfl
theorem by46 : Program.bytesOf Try.prog 46 = 32 := by kernel_rfl
theorem ag46 : aggB Try.prog 46 = true := by kernel_rfl
theorem zv46 : wpO.zvOf Try.prog 46 = some [.int .i64 0, .slice none 0 0] := by kernel_rfl
theorem st46 : strOf Try.prog 46 = some [(3, 0), (44, 1)] := by kernel_rfl
theorem fl46_0 : fldOf Try.prog 46 0 = some (0, 3) := by kernel_rfl
theorem fl46_1 : fldOf Try.prog 46 1 = some (1, 44) := by kernel_rfl
theorem pl46 : plOf Try.prog 46 = some ([(0, 1), (1, 1)], [.int .i64 0, .slice none 0 0]) := by kernel_rfl
theorem sz47 : szOf Try.prog 47 = some 1 := by kernel_rfl
theorem co47 : Program.cellsOf Try.prog 47 = 1 := by kernel_rfl
theorem by47 : Program.bytesOf Try.prog 47 = 8 := by kernel_rfl
theorem ag47 : aggB Try.prog 47 = false := by kernel_rfl
theorem zv47 : wpO.zvOf Try.prog 47 = some [.nilFunc] := by kernel_rfl
theorem sz48 : szOf Try.prog 48 = some 1 := by kernel_rfl
theorem co48 : Program.cellsOf Try.prog 48 = 1 := by kernel_rfl
theorem by48 : Program.bytesOf Try.prog 48 = 8 := by kernel_rfl
theorem ag48 : aggB Try.prog 48 = false := by kernel_rfl
theorem zv48 : wpO.zvOf Try.prog 48 = some [.nilFunc] := by kernel_rfl
theorem sz49 : szOf Try.prog 49 = some 1 := by kernel_rfl
theorem co49 : Program.cellsOf Try.prog 49 = 1 := by kernel_rfl
theorem by49 : Program.bytesOf Try.prog 49 = 8 := by kernel_rfl
theorem ag49 : aggB Try.prog 49 = false := by kernel_rfl
theorem zv49 : wpO.zvOf Try.prog 49 = some [.nilFunc] := by kernel_rfl
theorem sz50 : szOf Try.prog 50 = some 1 := by kernel_rfl
theorem co50 : Program.cellsOf Try.prog 50 = 1 := by kernel_rfl
theorem by50 : Program.bytesOf Try.prog 50 = 24 := by kernel_rfl
theorem ag50 : aggB Try.prog 50 = false := by kernel_rfl
theorem zv50 : wpO.zvOf Try.prog 50 = some [.slice none 0 0] := by kernel_rfl
theorem un50 : Try.prog.underlying 50 = some (.slice 3) := by kernel_rfl
theorem el50 : elOf Try.prog 50 = some (3, 1) := by kernel_rfl
theorem ap50 : apOf Try.prog 50 = some (3, 1, 8, [.int .i64 0]) := by kernel_rfl
theorem sz51 : szOf Try.prog 51 = some 1 := by kernel_rfl
theorem co51 : Program.cellsOf Try.prog 51 = 1 := by kernel_rfl
theorem by51 : Program.bytesOf Try.prog 51 = 8 := by kernel_rfl
theorem ag51 : aggB Try.prog 51 = false := by kernel_rfl
theorem zv51 : wpO.zvOf Try.prog 51 = some [.nilFunc] := by kernel_rfl
theorem sz52 : szOf Try.prog 52 = some 1 := by kernel_rfl
theorem co52 : Program.cellsOf Try.prog 52 = 1 := by kernel_rfl
theorem by52 : Program.bytesOf Try.prog 52 = 8 := by kernel_rfl
theorem ag52 : aggB Try.prog 52 = false := by kernel_rfl
theorem zv52 : wpO.zvOf Try.prog 52 = some [.nilFunc] := by kernel_rfl
theorem sz53 : szOf Try.prog 53 = some 1 := by kernel_rfl
theorem co53 : Program.cellsOf Try.prog 53 = 1 := by kernel_rfl
theorem by53 : Program.bytesOf Try.prog 53 = 8 := by kernel_rfl
theorem ag53 : aggB Try.prog 53 = false := by kernel_rfl
theorem zv53 : wpO.zvOf Try.prog 53 = some [.nilFunc] := by kernel_rfl
theorem sz54 : szOf Try.prog 54 = some 1 := by kernel_rfl
theorem co54 : Program.cellsOf Try.prog 54 = 1 := by kernel_rfl
theorem by54 : Program.bytesOf Try.prog 54 = 8 := by kernel_rfl
theorem ag54 : aggB Try.prog 54 = false := by kernel_rfl
theorem zv54 : wpO.zvOf Try.prog 54 = some [.nilFunc] := by kernel_rfl
theorem sz55 : szOf Try.prog 55 = some 1 := by kernel_rfl
theorem co55 : Program.cellsOf Try.prog 55 = 1 := by kernel_rfl
theorem by55 : Program.bytesOf Try.prog 55 = 8 := by kernel_rfl
theorem ag55 : aggB Try.prog 55 = false := by kernel_rfl
theorem zv55 : wpO.zvOf Try.prog 55 = some [.nilFunc] := by kernel_rfl
theorem sz56 : szOf Try.prog 56 = some 1 := by kernel_rfl
theorem co56 : Program.cellsOf Try.prog 56 = 1 := by kernel_rfl
theorem by56 : Program.bytesOf Try.prog 56 = 8 := by kernel_rfl
theorem ag56 : aggB Try.prog 56 = false := by kernel_rfl
theorem zv56 : wpO.zvOf Try.prog 56 = some [.nilFunc] := by kernel_rfl
theorem sz57 : szOf Try.prog 57 = some 1 := by kernel_rfl
theorem co57 : Program.cellsOf Try.prog 57 = 1 := by kernel_rfl
theorem by57 : Program.bytesOf Try.prog 57 = 8 := by kernel_rfl
theorem ag57 : aggB Try.prog 57 = false := by kernel_rfl
theorem zv57 : wpO.zvOf Try.prog 57 = some [.nilFunc] := by kernel_rfl
theorem sz58 : szOf Try.prog 58 = some 1 := by kernel_rfl
theorem co58 : Program.cellsOf Try.prog 58 = 1 := by kernel_rfl
theorem by58 : Program.bytesOf Try.prog 58 = 8 := by kernel_rfl
theorem ag58 : aggB Try.prog 58 = false := by kernel_rfl
theorem zv58 : wpO.zvOf Try.prog 58 = some [.nilFunc] := by kernel_rfl
theorem sz59 : szOf Try.prog 59 = some 1 := by kernel_rfl
theorem co59 : Program.cellsOf Try.prog 59 = 1 := by kernel_rfl
theorem by59 : Program.bytesOf Try.prog 59 = 8 := by kernel_rfl
theorem ag59 : aggB Try.prog 59 = false := by kernel_rfl
theorem zv59 : wpO.zvOf Try.prog 59 = some [.nilFunc] := by kernel_rfl
theorem sz60 : szOf Try.prog 60 = some 1 := by kernel_rfl
theorem co60 : Program.cellsOf Try.prog 60 = 1 := by kernel_rfl
theorem by60 : Program.bytesOf Try.prog 60 = 8 := by kernel_rfl
theorem ag60 : aggB Try.prog 60 = false := by kernel_rfl
theorem zv60 : wpO.zvOf Try.prog 60 = some [.nilFunc] := by kernel_rfl
theorem sz61 : szOf Try.prog 61 = some 1 := by kernel_rfl
theorem co61 : Program.cellsOf Try.prog 61 = 1 := by kernel_rfl
theorem by61 : Program.bytesOf Try.prog 61 = 8 := by kernel_rfl
theorem ag61 : aggB Try.prog 61 = false := by kernel_rfl
theorem zv61 : wpO.zvOf Try.prog 61 = some [.nilFunc] := by kernel_rfl
theorem sz62 : szOf Try.prog 62 = some 1 := by kernel_rfl
theorem co62 : Program.cellsOf Try.prog 62 = 1 := by kernel_rfl
theorem by62 : Program.bytesOf Try.prog 62 = 8 := by kernel_rfl
theorem ag62 : aggB Try.prog 62 = false := by kernel_rfl
theorem zv62 : wpO.zvOf Try.prog 62 = some [.nilFunc] := by kernel_rfl
theorem sz63 : szOf Try.prog 63 = some 1 := by kernel_rfl
theorem co63 : Program.cellsOf Try.prog 63 = 1 := by kernel_rfl
theorem by63 : Program.bytesOf Try.prog 63 = 8 := by kernel_rfl
theorem ag63 : aggB Try.prog 63 = false := by kernel_rfl
theorem zv63 : wpO.zvOf Try.prog 63 = some [.nilFunc] := by kernel_rfl
theorem sz64 : szOf Try.prog 64 = some 1 := by kernel_rfl
theorem co64 : Program.cellsOf Try.prog 64 = 1 := by kernel_rfl
theorem by64 : Program.bytesOf Try.prog 64 = 8 := by kernel_rfl
theorem ag64 : aggB Try.prog 64 = false := by kernel_rfl
theorem zv64 : wpO.zvOf Try.prog 64 = some [.nilFunc] := by kernel_rfl
theorem sz65 : szOf Try.prog 65 = some 1 := by kernel_rfl
theorem co65 : Program.cellsOf Try.prog 65 = 1 := by kernel_rfl
theorem by65 : Program.bytesOf Try.prog 65 = 8 := by kernel_rfl
theorem ag65 : aggB Try.prog 65 = false := by kernel_rfl
theorem zv65 : wpO.zvOf Try.prog 65 = some [.nilFunc] := by kernel_rfl
theorem sz66 : szOf Try.prog 66 = some 2 := by kernel_rfl
theorem co66 : Program.cellsOf Try.prog 66 = 2 := by kernel_rfl
theorem by66 : Program.bytesOf Try.prog 66 = 32 := by kernel_rfl
theorem ag66 : aggB Try.prog 66 = true := by kernel_rfl
theorem zv66 : wpO.zvOf Try.prog 66 = some [.int .i64 0, .slice none 0 0] := by kernel_rfl
theorem st66 : strOf Try.prog 66 = some [(3, 0), (44, 1)] := by kernel_rfl
theorem fl66_0 : fldOf Try.prog 66 0 = some (0, 3) := by kernel_rfl
theorem fl66_1 : fldOf Try.prog 66 1 = some (1, 44) := by kernel_rfl
theorem pl66 : plOf Try.prog 66 = some ([(0, 1), (1, 1)], [.int .i64 0, .slice none 0 0]) := by kernel_rfl
theorem sz67 : szOf Try.prog 67 = some 1 := by kernel_rfl
theorem co67 : Program.cellsOf Try.prog 67 = 1 := by kernel_rfl
theorem by67 : Program.bytesOf Try.prog 67 = 8 := by kernel_rfl
theorem ag67 : aggB Try.prog 67 = false := by kernel_rfl
theorem zv67 : wpO.zvOf Try.prog 67 = some [.nilFunc] := by kernel_rfl
theorem sz68 : szOf Try.prog 68 = some 1 := by kernel_rfl
theorem co68 : Program.cellsOf Try.prog 68 = 1 := by kernel_rfl
theorem by68 : Program.bytesOf Try.prog 68 = 8 := by kernel_rfl
theorem ag68 : aggB Try.prog 68 = false := by kernel_rfl
theorem zv68 : wpO.zvOf Try.prog 68 = some [.nilFunc] := by kernel_rfl
theorem sz69 : szOf Try.prog 69 = some 1 := by kernel_rfl
theorem co69 : Program.cellsOf Try.prog 69 = 1 := by kernel_rfl
theorem by69 : Program.bytesOf Try.prog 69 = 8 := by kernel_rfl
theorem ag69 : aggB Try.prog 69 = false := by kernel_rfl
theorem zv69 : wpO.zvOf Try.prog 69 = some [.nilFunc] := by kernel_rfl
theorem sz70 : szOf Try.prog 70 = some 1 := by kernel_rfl
theorem co70 : Program.cellsOf Try.prog 70 = 1 := by kernel_rfl
theorem by70 : Program.bytesOf Try.prog 70 = 8 := by kernel_rfl
theorem ag70 : aggB Try.prog 70 = false := by kernel_rfl
theorem zv70 : wpO.zvOf Try.prog 70 = some [.nilFunc] := by kernel_rfl
theorem sz71 : szOf Try.prog 71 = some 1 := by kernel_rfl
theorem co71 : Program.cellsOf Try.prog 71 = 1 := by kernel_rfl
theorem by71 : Program.bytesOf Try.prog 71 = 8 := by kernel_rfl
theorem ag71 : aggB Try.prog 71 = false := by kernel_rfl
theorem zv71 : wpO.zvOf Try.prog 71 = some [.nilFunc] := by kernel_rfl
theorem sz72 : szOf Try.prog 72 = some 1 := by kernel_rfl
theorem co72 : Program.cellsOf Try.prog 72 = 1 := by kernel_rfl
theorem by72 : Program.bytesOf Try.prog 72 = 8 := by kernel_rfl
theorem ag72 : aggB Try.prog 72 = false := by kernel_rfl
theorem zv72 : wpO.zvOf Try.prog 72 = some [.nilFunc] := by kernel_rfl
theorem sz73 : szOf Try.prog 73 = some 1 := by kernel_rfl
theorem co73 : Program.cellsOf Try.prog 73 = 1 := by kernel_rfl
theorem by73 : Program.bytesOf Try.prog 73 = 8 := by kernel_rfl
theorem ag73 : aggB Try.prog 73 = false := by kernel_rfl
theorem zv73 : wpO.zvOf Try.prog 73 = some [.nilFunc] := by kernel_rfl
theorem sz74 : szOf Try.prog 74 = some 1 := by kernel_rfl
theorem co74 : Program.cellsOf Try.prog 74 = 1 := by kernel_rfl
theorem by74 : Program.bytesOf Try.prog 74 = 8 := by kernel_rfl
theorem ag74 : aggB Try.prog 74 = false := by kernel_rfl
theorem zv74 : wpO.zvOf Try.prog 74 = some [.nilFunc] := by kernel_rfl
theorem sz75 : szOf Try.prog 75 = some 1 := by kernel_rfl
theorem co75 : Program.cellsOf Try.prog 75 = 1 := by kernel_rfl
theorem by75 : Program.bytesOf Try.prog 75 = 8 := by kernel_rfl
theorem ag75 : aggB Try.prog 75 = false := by kernel_rfl
theorem zv75 : wpO.zvOf Try.prog 75 = some [.nilFunc] := by kernel_rfl
theorem sz76 : szOf Try.prog 76 = some 1 := by kernel_rfl
theorem co76 : Program.cellsOf Try.prog 76 = 1 := by kernel_rfl
theorem by76 : Program.bytesOf Try.prog 76 = 24 := by kernel_rfl
theorem ag76 : aggB Try.prog 76 = false := by kernel_rfl
theorem zv76 : wpO.zvOf Try.prog 76 = some [.slice none 0 0] := by kernel_rfl
theorem un76 : Try.prog.underlying 76 = some (.slice 5) := by kernel_rfl
theorem el76 : elOf Try.prog 76 = some (5, 1) := by kernel_rfl
theorem ap76 : apOf Try.prog 76 = some (5, 1, 1, [.int .u8 0]) := by kernel_rfl
theorem sz77 : szOf Try.prog 77 = some 1 := by kernel_rfl
theorem co77 : Program.cellsOf Try.prog 77 = 1 := by kernel_rfl
theorem by77 : Program.bytesOf Try.prog 77 = 8 := by kernel_rfl
theorem ag77 : aggB Try.prog 77 = false := by kernel_rfl
theorem zv77 : wpO.zvOf Try.prog 77 = some [.nilFunc] := by kernel_rfl
theorem sz78 : szOf Try.prog 78 = some 4 := by kernel_rfl
theorem co78 : Program.cellsOf Try.prog 78 = 4 := by kernel_rfl
theorem by78 : Program.bytesOf Try.prog 78 = 40 := by kernel_rfl
theorem ag78 : aggB Try.prog 78 = true := by kernel_rfl
theorem zv78 : wpO.zvOf Try.prog 78 = some [.pointer none, .pointer none, .pointer none, .string ⟨#[]⟩] := by kernel_rfl
theorem st78 : strOf Try.prog 78 = some [(17, 0), (17, 1), (17, 2), (9, 3)] := by kernel_rfl
theorem fl78_0 : fldOf Try.prog 78 0 = some (0, 17) := by kernel_rfl
theorem fl78_1 : fldOf Try.prog 78 1 = some (1, 17) := by kernel_rfl
theorem fl78_2 : fldOf Try.prog 78 2 = some (2, 17) := by kernel_rfl
theorem fl78_3 : fldOf Try.prog 78 3 = some (3, 9) := by kernel_rfl
theorem pl78 : plOf Try.prog 78 = some ([(0, 1), (1, 1), (2, 1), (3, 1)], [.pointer none, .pointer none, .pointer none, .string ⟨#[]⟩]) := by kernel_rfl
theorem sz79 : szOf Try.prog 79 = some 4 := by kernel_rfl
theorem co79 : Program.cellsOf Try.prog 79 = 4 := by kernel_rfl
theorem by79 : Program.bytesOf Try.prog 79 = 40 := by kernel_rfl
theorem ag79 : aggB Try.prog 79 = true := by kernel_rfl
theorem zv79 : wpO.zvOf Try.prog 79 = some [.pointer none, .pointer none, .pointer none, .string ⟨#[]⟩] := by kernel_rfl
theorem st79 : strOf Try.prog 79 = some [(17, 0), (17, 1), (17, 2), (9, 3)] := by kernel_rfl
theorem fl79_0 : fldOf Try.prog 79 0 = some (0, 17) := by kernel_rfl
theorem fl79_1 : fldOf Try.prog 79 1 = some (1, 17) := by kernel_rfl
theorem fl79_2 : fldOf Try.prog 79 2 = some (2, 17) := by kernel_rfl
theorem fl79_3 : fldOf Try.prog 79 3 = some (3, 9) := by kernel_rfl
theorem pl79 : plOf Try.prog 79 = some ([(0, 1), (1, 1), (2, 1), (3, 1)], [.pointer none, .pointer none, .pointer none, .string ⟨#[]⟩]) := by kernel_rfl
theorem sz80 : szOf Try.prog 80 = some 0 := by kernel_rfl
theorem co80 : Program.cellsOf Try.prog 80 = 0 := by kernel_rfl
theorem by80 : Program.bytesOf Try.prog 80 = 0 := by kernel_rfl
theorem ag80 : aggB Try.prog 80 = true := by kernel_rfl
theorem zv80 : wpO.zvOf Try.prog 80 = some [] := by kernel_rfl
theorem sz81 : szOf Try.prog 81 = some 0 := by kernel_rfl
theorem co81 : Program.cellsOf Try.prog 81 = 0 := by kernel_rfl
theorem by81 : Program.bytesOf Try.prog 81 = 0 := by kernel_rfl
theorem ag81 : aggB Try.prog 81 = true := by kernel_rfl
theorem zv81 : wpO.zvOf Try.prog 81 = some [] := by kernel_rfl
theorem st81 : strOf Try.prog 81 = some [(80, 0)] := by kernel_rfl
theorem fl81_0 : fldOf Try.prog 81 0 = some (0, 80) := by kernel_rfl
theorem pl81 : plOf Try.prog 81 = some ([(0, 0)], []) := by kernel_rfl
theorem sz82 : szOf Try.prog 82 = some 0 := by kernel_rfl
theorem co82 : Program.cellsOf Try.prog 82 = 0 := by kernel_rfl
theorem by82 : Program.bytesOf Try.prog 82 = 0 := by kernel_rfl
theorem ag82 : aggB Try.prog 82 = true := by kernel_rfl
theorem zv82 : wpO.zvOf Try.prog 82 = some [] := by kernel_rfl
theorem st82 : strOf Try.prog 82 = some [(80, 0)] := by kernel_rfl
theorem fl82_0 : fldOf Try.prog 82 0 = some (0, 80) := by kernel_rfl
theorem pl82 : plOf Try.prog 82 = some ([(0, 0)], []) := by kernel_rfl
theorem sz83 : szOf Try.prog 83 = some 1 := by kernel_rfl
theorem co83 : Program.cellsOf Try.prog 83 = 1 := by kernel_rfl
theorem by83 : Program.bytesOf Try.prog 83 = 8 := by kernel_rfl
theorem ag83 : aggB Try.prog 83 = false := by kernel_rfl
theorem zv83 : wpO.zvOf Try.prog 83 = some [.nilFunc] := by kernel_rfl
theorem sz84 : szOf Try.prog 84 = some 1 := by kernel_rfl
theorem co84 : Program.cellsOf Try.prog 84 = 1 := by kernel_rfl
theorem by84 : Program.bytesOf Try.prog 84 = 4 := by kernel_rfl
theorem ag84 : aggB Try.prog 84 = false := by kernel_rfl
theorem zv84 : wpO.zvOf Try.prog 84 = some [.int .u32 0] := by kernel_rfl
theorem un84 : Try.prog.underlying 84 = some (.int .u32) := by kernel_rfl
theorem sz85 : szOf Try.prog 85 = some 1 := by kernel_rfl
theorem co85 : Program.cellsOf Try.prog 85 = 1 := by kernel_rfl
theorem by85 : Program.bytesOf Try.prog 85 = 1 := by kernel_rfl
theorem ag85 : aggB Try.prog 85 = false := by kernel_rfl
theorem zv85 : wpO.zvOf Try.prog 85 = some [.int .u8 0] := by kernel_rfl
theorem un85 : Try.prog.underlying 85 = some (.int .u8) := by kernel_rfl
theorem sz86 : szOf Try.prog 86 = some 1 := by kernel_rfl
theorem co86 : Program.cellsOf Try.prog 86 = 1 := by kernel_rfl
theorem by86 : Program.bytesOf Try.prog 86 = 1 := by kernel_rfl
theorem ag86 : aggB Try.prog 86 = false := by kernel_rfl
theorem zv86 : wpO.zvOf Try.prog 86 = some [.int .u8 0] := by kernel_rfl
theorem un86 : Try.prog.underlying 86 = some (.int .u8) := by kernel_rfl
theorem sz87 : szOf Try.prog 87 = some 1 := by kernel_rfl
theorem co87 : Program.cellsOf Try.prog 87 = 1 := by kernel_rfl
theorem by87 : Program.bytesOf Try.prog 87 = 8 := by kernel_rfl
theorem ag87 : aggB Try.prog 87 = false := by kernel_rfl
theorem zv87 : wpO.zvOf Try.prog 87 = some [.nilFunc] := by kernel_rfl
theorem sz88 : szOf Try.prog 88 = some 1 := by kernel_rfl
theorem co88 : Program.cellsOf Try.prog 88 = 1 := by kernel_rfl
theorem by88 : Program.bytesOf Try.prog 88 = 8 := by kernel_rfl
theorem ag88 : aggB Try.prog 88 = false := by kernel_rfl
theorem zv88 : wpO.zvOf Try.prog 88 = some [.pointer none] := by kernel_rfl
theorem sz89 : szOf Try.prog 89 = some 1 := by kernel_rfl
theorem co89 : Program.cellsOf Try.prog 89 = 1 := by kernel_rfl
theorem by89 : Program.bytesOf Try.prog 89 = 4 := by kernel_rfl
theorem ag89 : aggB Try.prog 89 = false := by kernel_rfl
theorem zv89 : wpO.zvOf Try.prog 89 = some [.int .i32 0] := by kernel_rfl
theorem un89 : Try.prog.underlying 89 = some (.int .i32) := by kernel_rfl
theorem sz90 : szOf Try.prog 90 = some 1 := by kernel_rfl
theorem co90 : Program.cellsOf Try.prog 90 = 1 := by kernel_rfl
theorem by90 : Program.bytesOf Try.prog 90 = 4 := by kernel_rfl
theorem ag90 : aggB Try.prog 90 = false := by kernel_rfl
theorem zv90 : wpO.zvOf Try.prog 90 = some [.int .i32 0] := by kernel_rfl
theorem un90 : Try.prog.underlying 90 = some (.int .i32) := by kernel_rfl
theorem sz91 : szOf Try.prog 91 = some 11 := by kernel_rfl
theorem co91 : Program.cellsOf Try.prog 91 = 11 := by kernel_rfl
theorem by91 : Program.bytesOf Try.prog 91 = 48 := by kernel_rfl
theorem ag91 : aggB Try.prog 91 = true := by kernel_rfl
theorem zv91 : wpO.zvOf Try.prog 91 = some [.int .u64 0, .int .u64 0, .int .u32 0, .int .u8 0, .int .u8 0, .int .u8 0, .int .u8 0, .nilFunc, .pointer none, .int .i32 0, .int .i32 0] := by kernel_rfl
theorem st91 : strOf Try.prog 91 = some [(12, 0), (12, 1), (84, 2), (85, 3), (5, 4), (5, 5), (86, 6), (87, 7), (88, 8), (89, 9), (90, 10)] := by kernel_rfl
theorem fl91_0 : fldOf Try.prog 91 0 = some (0, 12) := by kernel_rfl
theorem fl91_1 : fldOf Try.prog 91 1 = some (1, 12) := by kernel_rfl
theorem fl91_2 : fldOf Try.prog 91 2 = some (2, 84) := by kernel_rfl
theorem fl91_3 : fldOf Try.prog 91 3 = some (3, 85) := by kernel_rfl
theorem fl91_4 : fldOf Try.prog 91 4 = some (4, 5) := by kernel_rfl
theorem fl91_5 : fldOf Try.prog 91 5 = some (5, 5) := by kernel_rfl
theorem fl91_6 : fldOf Try.prog 91 6 = some (6, 86) := by kernel_rfl
theorem fl91_7 : fldOf Try.prog 91 7 = some (7, 87) := by kernel_rfl
theorem fl91_8 : fldOf Try.prog 91 8 = some (8, 88) := by kernel_rfl
theorem fl91_9 : fldOf Try.prog 91 9 = some (9, 89) := by kernel_rfl
theorem fl91_10 : fldOf Try.prog 91 10 = some (10, 90) := by kernel_rfl
theorem pl91 : plOf Try.prog 91 = some ([(0, 1), (1, 1), (2, 1), (3, 1), (4, 1), (5, 1), (6, 1), (7, 1), (8, 1), (9, 1), (10, 1)], [.int .u64 0, .int .u64 0, .int .u32 0, .int .u8 0, .int .u8 0, .int .u8 0, .int .u8 0, .nilFunc, .pointer none, .int .i32 0, .int .i32 0]) := by kernel_rfl
theorem sz92 : szOf Try.prog 92 = some 11 := by kernel_rfl
theorem co92 : Program.cellsOf Try.prog 92 = 11 := by kernel_rfl
theorem by92 : Program.bytesOf Try.prog 92 = 48 := by kernel_rfl
theorem ag92 : aggB Try.prog 92 = true := by kernel_rfl
theorem zv92 : wpO.zvOf Try.prog 92 = some [.int .u64 0, .int .u64 0, .int .u32 0, .int .u8 0, .int .u8 0, .int .u8 0, .int .u8 0, .nilFunc, .pointer none, .int .i32 0, .int .i32 0] := by kernel_rfl
theorem st92 : strOf Try.prog 92 = some [(12, 0), (12, 1), (84, 2), (85, 3), (5, 4), (5, 5), (86, 6), (87, 7), (88, 8), (89, 9), (90, 10)] := by kernel_rfl
theorem fl92_0 : fldOf Try.prog 92 0 = some (0, 12) := by kernel_rfl
theorem fl92_1 : fldOf Try.prog 92 1 = some (1, 12) := by kernel_rfl
theorem fl92_2 : fldOf Try.prog 92 2 = some (2, 84) := by kernel_rfl
theorem fl92_3 : fldOf Try.prog 92 3 = some (3, 85) := by kernel_rfl
theorem fl92_4 : fldOf Try.prog 92 4 = some (4, 5) := by kernel_rfl
theorem fl92_5 : fldOf Try.prog 92 5 = some (5, 5) := by kernel_rfl
theorem fl92_6 : fldOf Try.prog 92 6 = some (6, 86) := by kernel_rfl
theorem fl92_7 : fldOf Try.prog 92 7 = some (7, 87) := by kernel_rfl
theorem fl92_8 : fldOf Try.prog 92 8 = some (8, 88) := by kernel_rfl
theorem fl92_9 : fldOf Try.prog 92 9 = some (9, 89) := by kernel_rfl
theorem fl92_10 : fldOf Try.prog 92 10 = some (10, 90) := by kernel_rfl
theorem pl92 : plOf Try.prog 92 = some ([(0, 1), (1, 1), (2, 1), (3, 1), (4, 1), (5, 1), (6, 1), (7, 1), (8, 1), (9, 1), (10, 1)], [.int .u64 0, .int .u64 0, .int .u32 0, .int .u8 0, .int .u8 0, .int .u8 0, .int .u8 0, .nilFunc, .pointer none, .int .i32 0, .int .i32 0]) := by kernel_rfl
theorem sz93 : szOf Try.prog 93 = some 1 := by kernel_rfl
theorem co93 : Program.cellsOf Try.prog 93 = 1 := by kernel_rfl
theorem by93 : Program.bytesOf Try.prog 93 = 8 := by kernel_rfl
theorem ag93 : aggB Try.prog 93 = false := by kernel_rfl
theorem zv93 : wpO.zvOf Try.prog 93 = some [.pointer none] := by kernel_rfl
theorem okf2 : fnOk Try.prog 2 = true := by kernel_rfl
theorem okf3 : fnOk Try.prog 3 = true := by kernel_rfl
theorem okf4 : fnOk Try.prog 4 = true := by kernel_rfl
theorem okf5 : fnOk Try.prog 5 = true := by kernel_rfl
theorem okf6 : fnOk Try.prog 6 = true := by kernel_rfl
theorem okf7 : fnOk Try.prog 7 = true := by kernel_rfl
theorem okf8 : fnOk Try.prog 8 = true := by kernel_rfl
theorem okf9 : fnOk Try.prog 9 = true := by kernel_rfl
theorem okf10 : fnOk Try.prog 10 = true := by kernel_rfl
theorem okf11 : fnOk Try.prog 11 = true := by kernel_rfl
theorem okf12 : fnOk Try.prog 12 = true := by kernel_rfl
theorem okf13 : fnOk Try.prog 13 = true := by kernel_rfl
theorem okf14 : fnOk Try.prog 14 = true := by kernel_rfl
theorem okf15 : fnOk Try.prog 15 = true := by kernel_rfl
theorem okf16 : fnOk Try.prog 16 = true := by kernel_rfl
theorem okf17 : fnOk Try.prog 17 = true := by kernel_rfl
theorem okf18 : fnOk Try.prog 18 = true := by kernel_rfl
theorem okf19 : fnOk Try.prog 19 = true := by kernel_rfl
theorem okf20 : fnOk Try.prog 20 = true := by kernel_rfl
theorem okf21 : fnOk Try.prog 21 = true := by kernel_rfl
theorem okf22 : fnOk Try.prog 22 = true := by kernel_rfl
theorem okf23 : fnOk Try.prog 23 = true := by kernel_rfl
theorem okf24 : fnOk Try.prog 24 = true := by kernel_rfl
theorem okf25 : fnOk Try.prog 25 = true := by kernel_rfl
theorem okf26 : fnOk Try.prog 26 = true := by kernel_rfl
theorem okf27 : fnOk Try.prog 27 = true := by kernel_rfl
theorem okf28 : fnOk Try.prog 28 = true := by kernel_rfl
theorem okf29 : fnOk Try.prog 29 = true := by kernel_rfl
theorem okf30 : fnOk Try.prog 30 = true := by kernel_rfl
theorem okf31 : fnOk Try.prog 31 = true := by kernel_rfl
theorem okf32 : fnOk Try.prog 32 = true := by kernel_rfl
theorem okf33 : fnOk Try.prog 33 = true := by kernel_rfl
theorem okf34 : fnOk Try.prog 34 = true := by kernel_rfl
theorem okf35 : fnOk Try.prog 35 = true := by kernel_rfl
theorem okf36 : fnOk Try.prog 36 = true := by kernel_rfl
theorem okf37 : fnOk Try.prog 37 = true := by kernel_rfl
theorem okf38 : fnOk Try.prog 38 = true := by kernel_rfl
theorem okf39 : fnOk Try.prog 39 = true := by kernel_rfl
theorem okf40 : fnOk Try.prog 40 = true := by kernel_rfl
theorem okf41 : fnOk Try.prog 41 = true := by kernel_rfl
theorem okf42 : fnOk Try.prog 42 = true := by kernel_rfl
theorem okf43 : fnOk Try.prog 43 = true := by kernel_rfl
theorem okf44 : fnOk Try.prog 44 = true := by kernel_rfl
theorem okf45 : fnOk Try.prog 45 = true := by kernel_rfl
theorem okf46 : fnOk Try.prog 46 = true := by kernel_rfl
theorem okf47 : fnOk Try.prog 47 = true := by kernel_rfl
theorem okf48 : fnOk Try.prog 48 = true := by kernel_rfl
theorem okf49 : fnOk Try.prog 49 = true := by kernel_rfl
theorem okf50 : fnOk Try.prog 50 = true := by kernel_rfl
theorem okf51 : fnOk Try.prog 51 = true := by kernel_rfl
theorem okf52 : fnOk Try.prog 52 = true := by kernel_rfl
theorem okf53 : fnOk Try.prog 53 = true := by kernel_rfl
theorem okf54 : fnOk Try.prog 54 = true := by kernel_rfl
theorem okf55 : fnOk Try.prog 55 = true := by kernel_rfl
theorem okf56 : fnOk Try.prog 56 = true := by kernel_rfl
theorem okf57 : fnOk Try.prog 57 = true := by kernel_rfl
theorem okf58 : fnOk Try.prog 58 = true := by kernel_rfl
theorem okf59 : fnOk Try.prog 59 = true := by kernel_rfl
theorem okf60 : fnOk Try.prog 60 = true := by kernel_rfl
theorem okf61 : fnOk Try.prog 61 = true := by kernel_rfl
theorem okf62 : fnOk Try.prog 62 = true := by kernel_rfl
theorem okf63 : fnOk Try.prog 63 = true := by kernel_rfl
theorem okf64 : fnOk Try.prog 64 = true := by kernel_rfl
theorem okf65 : fnOk Try.prog 65 = true := by kernel_rfl
theorem okf66 : fnOk Try.prog 66 = true := by kernel_rfl
theorem okf67 : fnOk Try.prog 67 = true := by kernel_rfl
theorem okf68 : fnOk Try.prog 68 = true := by kernel_rfl
theorem mixed : Try.prog.follows .mixedOrders = true := by kernel_rfl
end Go.VC.F
